/- The known values: always the same answer. No statement of the seat is proved here. Written by program (genseat.py). -/
import Derived.Test.YtaodejbcmaeaaaaGreatDnlc
import Derived.Test.YtaodejbcmaeaaaaGreatDnlm
import Derived.Test.YtaodejbcmaeaaaaGreatDnl7
import Derived.Test.YtaodejbcmaeaaaaGreatDnl8
import Derived.Test.YtaodejbcmaeaaaaGreatDnl9
import Derived.Test.YtaodejbcmaeaaaaGreatDnl10
set_option linter.unusedVariables false
set_option linter.unusedSimpArgs false
namespace Go.Proofs.YtaodejbcmaeaaaaGreat.CE
open Go Go.RowKit
noncomputable def bk : Tb := tb (fun _ => []) (mmOf [(5, m7), (10, m8), (12, m9), (12, m10)])
set_option maxRecDepth 1000000 in
theorem runk : isT ((fs bk 200).call 0 4 [] .lf 1000) = true := by kernel_rfl
noncomputable def bl : Tb := tb (pfL [(4, [], .bool true)]) (mmOf [(5, m7)])
theorem mmsl : ∀ x ∈ ([(5, m7)] : List (Nat × Mm)), OneOk Tryz.prog x.1 x.2 := mm_cons one7 (mm_nil)
theorem mmsk : ∀ x ∈ ([(5, m7), (10, m8), (12, m9), (12, m10)] : List (Nat × Mm)), OneOk Tryz.prog x.1 x.2 := mm_cons one7 (mm_cons one8 (mm_cons one9 (mm_cons one10 (mm_nil))))
theorem known_ok : PfOk Tryz.prog bl := pfL_ok rfl (pl_cons (pfT_one (tb_ok _ _) (pf_nil rfl) (mmOf_ok rfl mmsk) runk) pl_nil)
end Go.Proofs.YtaodejbcmaeaaaaGreat.CE
