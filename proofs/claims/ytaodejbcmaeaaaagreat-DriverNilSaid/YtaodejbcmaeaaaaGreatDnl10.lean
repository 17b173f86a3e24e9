/- A run that is known. No statement of the seat is proved here. Written by program (genseat.py). -/
import Derived.Test.YtaodejbcmaeaaaaGreatDnlc
import Derived.Test.YtaodejbcmaeaaaaGreatDnlm
set_option linter.unusedVariables false
set_option linter.unusedSimpArgs false
namespace Go.Proofs.YtaodejbcmaeaaaaGreat.CE
open Go Go.RowKit
noncomputable def b10 : Tb := tb (fun _ => []) (mmOf [])
set_option maxRecDepth 1000000 in
theorem run10 : chk m10 ((fs b10 200).call 0 12 m10.as m10.M m10.nx) = true := by kernel_rfl
theorem mms10 : ∀ x ∈ ([] : List (Nat × Mm)), OneOk Tryz.prog x.1 x.2 := mm_nil
theorem one10 : OneOk Tryz.prog 12 m10 := one_ok (tb_ok _ _) (pf_nil rfl) (mmOf_ok rfl mms10) run10
end Go.Proofs.YtaodejbcmaeaaaaGreat.CE
