/- A run that is known. No statement of the seat is proved here. Written by program (genseat.py). -/
import Derived.Test.YtaodejbcmaeaaaaGreatDnlc
import Derived.Test.YtaodejbcmaeaaaaGreatDnlm
set_option linter.unusedVariables false
set_option linter.unusedSimpArgs false
namespace Go.Proofs.YtaodejbcmaeaaaaGreat.CE
open Go Go.RowKit
noncomputable def b9 : Tb := tb (fun _ => []) (mmOf [])
set_option maxRecDepth 1000000 in
theorem run9 : chk m9 ((fs b9 200).call 0 12 m9.as m9.M m9.nx) = true := by kernel_rfl
theorem mms9 : ∀ x ∈ ([] : List (Nat × Mm)), OneOk Tryz.prog x.1 x.2 := mm_nil
theorem one9 : OneOk Tryz.prog 12 m9 := one_ok (tb_ok _ _) (pf_nil rfl) (mmOf_ok rfl mms9) run9
end Go.Proofs.YtaodejbcmaeaaaaGreat.CE
