/- A run that is known. No statement of the seat is proved here. Written by program (genseat.py). -/
import Derived.Test.YtlhcpkgaeandfaaGreatPnlc
import Derived.Test.YtlhcpkgaeandfaaGreatPnlm
import Derived.Test.YtlhcpkgaeandfaaGreatPnl1
import Derived.Test.YtlhcpkgaeandfaaGreatPnl3
import Derived.Test.YtlhcpkgaeandfaaGreatPnl7
set_option linter.unusedVariables false
set_option linter.unusedSimpArgs false
namespace Go.Proofs.YtlhcpkgaeandfaaGreat.CE
open Go Go.RowKit
noncomputable def b8 : Tb := tb (fun _ => none) (mmOf [(387, m1), (392, m3), (91, m7)])
theorem run8 : chk m8 ((fs b8 200).call 0 55 m8.as m8.M m8.nx) = true := by kernel_rfl
theorem mms8 : ∀ x ∈ ([(387, m1), (392, m3), (91, m7)] : List (Nat × Mm)), OneOk Tryz.prog x.1 x.2 := mm_cons one1 (mm_cons one3 (mm_cons one7 (mm_nil)))
theorem one8 : OneOk Tryz.prog 55 m8 := one_ok (tb_ok _ _) (pf_nil rfl) (mmOf_ok rfl mms8) run8
end Go.Proofs.YtlhcpkgaeandfaaGreat.CE
