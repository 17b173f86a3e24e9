/- A run that is known. No statement of the seat is proved here. Written by program (genseat.py). -/
import Derived.Test.YtaodejbcmaeaaaaGreatDnlc
import Derived.Test.YtaodejbcmaeaaaaGreatDnlm
import Derived.Test.YtaodejbcmaeaaaaGreatDnl3
import Derived.Test.YtaodejbcmaeaaaaGreatDnl4
set_option linter.unusedVariables false
set_option linter.unusedSimpArgs false
namespace Go.Proofs.YtaodejbcmaeaaaaGreat.CE
open Go Go.RowKit
noncomputable def b5 : Tb := tb (fun _ => []) (mmOf [(229, m3), (234, m4)])
set_option maxRecDepth 1000000 in
theorem run5 : chk m5 ((fs b5 200).call 0 65 m5.as m5.M m5.nx) = true := by kernel_rfl
theorem mms5 : ∀ x ∈ ([(229, m3), (234, m4)] : List (Nat × Mm)), OneOk Tryz.prog x.1 x.2 := mm_cons one3 (mm_cons one4 (mm_nil))
theorem one5 : OneOk Tryz.prog 65 m5 := one_ok (tb_ok _ _) (pf_nil rfl) (mmOf_ok rfl mms5) run5
end Go.Proofs.YtaodejbcmaeaaaaGreat.CE
