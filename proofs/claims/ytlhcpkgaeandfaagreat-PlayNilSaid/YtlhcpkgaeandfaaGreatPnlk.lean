/- The known values: always the same answer. No statement of the seat is proved here. Written by program (genseat.py). -/
import Derived.Test.YtlhcpkgaeandfaaGreatPnlc
import Derived.Test.YtlhcpkgaeandfaaGreatPnlm
import Derived.Test.YtlhcpkgaeandfaaGreatPnl8
import Derived.Test.YtlhcpkgaeandfaaGreatPnl9
import Derived.Test.YtlhcpkgaeandfaaGreatPnl10
import Derived.Test.YtlhcpkgaeandfaaGreatPnl11
set_option linter.unusedVariables false
set_option linter.unusedSimpArgs false
namespace Go.Proofs.YtlhcpkgaeandfaaGreat.CE
open Go Go.RowKit
noncomputable def bk : Tb := tb (fun _ => none) (mmOf [(55, m8), (387, m9), (388, m10), (392, m11)])
set_option maxRecDepth 1000000 in
theorem runk : isT ((fs bk 200).call 0 4 [] .lf 1000) = true := by kernel_rfl
noncomputable def bl : Tb := tb (pfT 4) (mmOf [])
theorem mmsk : ∀ x ∈ ([(55, m8), (387, m9), (388, m10), (392, m11)] : List (Nat × Mm)), OneOk Tryz.prog x.1 x.2 := mm_cons one8 (mm_cons one9 (mm_cons one10 (mm_cons one11 (mm_nil))))
theorem known_ok : PfOk Tryz.prog bl := pfT_ok (tb_ok _ _) (pf_nil rfl) (mmOf_ok rfl mmsk) runk rfl
end Go.Proofs.YtlhcpkgaeandfaaGreat.CE
