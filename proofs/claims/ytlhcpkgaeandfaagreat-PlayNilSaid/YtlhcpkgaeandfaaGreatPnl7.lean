/- A run that is known. No statement of the seat is proved here. Written by program (genseat.py). -/
import Derived.Test.YtlhcpkgaeandfaaGreatPnlc
import Derived.Test.YtlhcpkgaeandfaaGreatPnlm
import Derived.Test.YtlhcpkgaeandfaaGreatPnl4
import Derived.Test.YtlhcpkgaeandfaaGreatPnl6
set_option linter.unusedVariables false
set_option linter.unusedSimpArgs false
namespace Go.Proofs.YtlhcpkgaeandfaaGreat.CE
open Go Go.RowKit
noncomputable def b7 : Tb := tb (fun _ => none) (mmOf [(387, m4), (392, m6)])
theorem run7 : chk m7 ((fs b7 200).call 0 91 m7.as m7.M m7.nx) = true := by kernel_rfl
theorem mms7 : ∀ x ∈ ([(387, m4), (392, m6)] : List (Nat × Mm)), OneOk Tryz.prog x.1 x.2 := mm_cons one4 (mm_cons one6 (mm_nil))
theorem one7 : OneOk Tryz.prog 91 m7 := one_ok (tb_ok _ _) (pf_nil rfl) (mmOf_ok rfl mms7) run7
end Go.Proofs.YtlhcpkgaeandfaaGreat.CE
