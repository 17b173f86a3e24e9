/- A run that is known. No statement of the seat is proved here. Written by program (genseat.py). -/
import Derived.Test.YtaodejbcmaeaaaaGreatDnlc
import Derived.Test.YtaodejbcmaeaaaaGreatDnlm
import Derived.Test.YtaodejbcmaeaaaaGreatDnl1
import Derived.Test.YtaodejbcmaeaaaaGreatDnl2
import Derived.Test.YtaodejbcmaeaaaaGreatDnl5
set_option linter.unusedVariables false
set_option linter.unusedSimpArgs false
namespace Go.Proofs.YtaodejbcmaeaaaaGreat.CE
open Go Go.RowKit
noncomputable def b6 : Tb := tb (fun _ => []) (mmOf [(229, m1), (234, m2), (65, m5)])
set_option maxRecDepth 1000000 in
theorem run6 : chk m6 ((fs b6 200).call 0 17 m6.as m6.M m6.nx) = true := by kernel_rfl
theorem mms6 : ∀ x ∈ ([(229, m1), (234, m2), (65, m5)] : List (Nat × Mm)), OneOk Tryz.prog x.1 x.2 := mm_cons one1 (mm_cons one2 (mm_cons one5 (mm_nil)))
theorem one6 : OneOk Tryz.prog 17 m6 := one_ok (tb_ok _ _) (pf_nil rfl) (mmOf_ok rfl mms6) run6
end Go.Proofs.YtaodejbcmaeaaaaGreat.CE
