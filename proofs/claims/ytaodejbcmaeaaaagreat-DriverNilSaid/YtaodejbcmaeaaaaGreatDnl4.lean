/- A run that is known. No statement of the seat is proved here. Written by program (genseat.py). -/
import Derived.Test.YtaodejbcmaeaaaaGreatDnlc
import Derived.Test.YtaodejbcmaeaaaaGreatDnlm
set_option linter.unusedVariables false
set_option linter.unusedSimpArgs false
namespace Go.Proofs.YtaodejbcmaeaaaaGreat.CE
open Go Go.RowKit
noncomputable def b4 : Tb := tb (fun _ => []) (mmOf [])
theorem run4 : chk m4 ((fs b4 200).call 0 234 m4.as m4.M m4.nx) = true := by kernel_rfl
theorem mms4 : ∀ x ∈ ([] : List (Nat × Mm)), OneOk Tryz.prog x.1 x.2 := mm_nil
theorem one4 : OneOk Tryz.prog 234 m4 := one_ok (tb_ok _ _) (pf_nil rfl) (mmOf_ok rfl mms4) run4
end Go.Proofs.YtaodejbcmaeaaaaGreat.CE
