/- A run that is known. No statement of the seat is proved here. Written by program (genseat.py). -/
import Derived.Test.YtaodejbcmaeaaaaGreatDnlc
import Derived.Test.YtaodejbcmaeaaaaGreatDnlm
set_option linter.unusedVariables false
set_option linter.unusedSimpArgs false
namespace Go.Proofs.YtaodejbcmaeaaaaGreat.CE
open Go Go.RowKit
noncomputable def b8 : Tb := tb (fun _ => []) (mmOf [])
theorem run8 : chk m8 ((fs b8 200).call 0 10 m8.as m8.M m8.nx) = true := by kernel_rfl
theorem mms8 : ∀ x ∈ ([] : List (Nat × Mm)), OneOk Tryz.prog x.1 x.2 := mm_nil
theorem one8 : OneOk Tryz.prog 10 m8 := one_ok (tb_ok _ _) (pf_nil rfl) (mmOf_ok rfl mms8) run8
end Go.Proofs.YtaodejbcmaeaaaaGreat.CE
