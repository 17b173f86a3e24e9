/- A run that is known. No statement of the seat is proved here. Written by program (genseat.py). -/
import Derived.Test.YtaodejbcmaeaaaaGreatDnlc
import Derived.Test.YtaodejbcmaeaaaaGreatDnlm
set_option linter.unusedVariables false
set_option linter.unusedSimpArgs false
namespace Go.Proofs.YtaodejbcmaeaaaaGreat.CE
open Go Go.RowKit
noncomputable def b2 : Tb := tb (fun _ => []) (mmOf [])
theorem run2 : chk m2 ((fs b2 200).call 0 234 m2.as m2.M m2.nx) = true := by kernel_rfl
theorem mms2 : ∀ x ∈ ([] : List (Nat × Mm)), OneOk Tryz.prog x.1 x.2 := mm_nil
theorem one2 : OneOk Tryz.prog 234 m2 := one_ok (tb_ok _ _) (pf_nil rfl) (mmOf_ok rfl mms2) run2
end Go.Proofs.YtaodejbcmaeaaaaGreat.CE
