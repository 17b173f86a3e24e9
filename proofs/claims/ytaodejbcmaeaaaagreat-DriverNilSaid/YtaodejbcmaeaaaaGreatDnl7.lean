/- A run that is known. No statement of the seat is proved here. Written by program (genseat.py). -/
import Derived.Test.YtaodejbcmaeaaaaGreatDnlc
import Derived.Test.YtaodejbcmaeaaaaGreatDnlm
import Derived.Test.YtaodejbcmaeaaaaGreatDnl6
set_option linter.unusedVariables false
set_option linter.unusedSimpArgs false
namespace Go.Proofs.YtaodejbcmaeaaaaGreat.CE
open Go Go.RowKit
noncomputable def b7 : Tb := tb (fun _ => []) (mmOf [(17, m6)])
set_option maxRecDepth 1000000 in
theorem run7 : chk m7 ((fs b7 200).call 0 5 m7.as m7.M m7.nx) = true := by kernel_rfl
theorem mms7 : ∀ x ∈ ([(17, m6)] : List (Nat × Mm)), OneOk Tryz.prog x.1 x.2 := mm_cons one6 (mm_nil)
theorem one7 : OneOk Tryz.prog 5 m7 := one_ok (tb_ok _ _) (pf_nil rfl) (mmOf_ok rfl mms7) run7
end Go.Proofs.YtaodejbcmaeaaaaGreat.CE
