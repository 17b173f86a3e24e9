/- A run that is known. No statement of the seat is proved here. Written by program (genseat.py). -/
import Derived.Test.YtaodejbcmaeaaaaGreatDnlc
import Derived.Test.YtaodejbcmaeaaaaGreatDnlm
set_option linter.unusedVariables false
set_option linter.unusedSimpArgs false
namespace Go.Proofs.YtaodejbcmaeaaaaGreat.CE
open Go Go.RowKit
noncomputable def b3 : Tb := tb (fun _ => []) (mmOf [])
theorem run3 : chk m3 ((fs b3 200).call 0 229 m3.as m3.M m3.nx) = true := by kernel_rfl
theorem mms3 : ∀ x ∈ ([] : List (Nat × Mm)), OneOk Tryz.prog x.1 x.2 := mm_nil
theorem one3 : OneOk Tryz.prog 229 m3 := one_ok (tb_ok _ _) (pf_nil rfl) (mmOf_ok rfl mms3) run3
end Go.Proofs.YtaodejbcmaeaaaaGreat.CE
