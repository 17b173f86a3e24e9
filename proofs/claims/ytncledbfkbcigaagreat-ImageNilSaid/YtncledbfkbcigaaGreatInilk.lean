/- The known values: always the same answer. No statement of the seat is proved here. Written by program (genseat.py). -/
import Derived.Test.YtncledbfkbcigaaGreatInilc
import Derived.Test.YtncledbfkbcigaaGreatInilm
import Derived.Test.YtncledbfkbcigaaGreatInil3
set_option linter.unusedVariables false
set_option linter.unusedSimpArgs false
namespace Go.Proofs.YtncledbfkbcigaaGreat.CE
open Go Go.RowKit
noncomputable def bk : Tb := tb (fun _ => none) (mmOf [(6, m3)])
set_option maxRecDepth 1000000 in
theorem runk : isT ((fs bk 200).call 0 9 [] .lf 1000) = true := by kernel_rfl
noncomputable def bl : Tb := tb (pfT 9) (mmOf [])
theorem mmsk : ∀ x ∈ ([(6, m3)] : List (Nat × Mm)), OneOk Tryz.prog x.1 x.2 := mm_cons one3 (mm_nil)
theorem known_ok : PfOk Tryz.prog bl := pfT_ok (tb_ok _ _) (pf_nil rfl) (mmOf_ok rfl mmsk) runk rfl
end Go.Proofs.YtncledbfkbcigaaGreat.CE
