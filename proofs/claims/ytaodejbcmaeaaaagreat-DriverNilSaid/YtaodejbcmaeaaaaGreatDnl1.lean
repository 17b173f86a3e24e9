/- A run that is known. No statement of the seat is proved here. Written by program (genseat.py). -/
import Derived.Test.YtaodejbcmaeaaaaGreatDnlc
import Derived.Test.YtaodejbcmaeaaaaGreatDnlm
set_option linter.unusedVariables false
set_option linter.unusedSimpArgs false
namespace Go.Proofs.YtaodejbcmaeaaaaGreat.CE
open Go Go.RowKit
noncomputable def b1 : Tb := tb (fun _ => []) (mmOf [])
theorem run1 : chk m1 ((fs b1 200).call 0 229 m1.as m1.M m1.nx) = true := by kernel_rfl
theorem mms1 : ∀ x ∈ ([] : List (Nat × Mm)), OneOk Tryz.prog x.1 x.2 := mm_nil
theorem one1 : OneOk Tryz.prog 229 m1 := one_ok (tb_ok _ _) (pf_nil rfl) (mmOf_ok rfl mms1) run1
end Go.Proofs.YtaodejbcmaeaaaaGreat.CE
