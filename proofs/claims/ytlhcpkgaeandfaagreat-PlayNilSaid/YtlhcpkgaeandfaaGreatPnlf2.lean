/- Closed facts of the row. No statement of the seat is proved here. Written by program (genfacts.py). -/
import Derived.Test.YtlhcpkgaeandfaaGreatRows
import Derived.Test.YtlhcpkgaeandfaaGreatPnlf0
set_option linter.unusedVariables false
set_option linter.unusedSimpArgs false
namespace Go.Proofs.YtlhcpkgaeandfaaGreat
open Go
namespace PlayNil
theorem nmd : (Rows.playNilRow.named == Tryz.prog.varsNamed 3) = true := by unfold Program.varsNamed; rw [clo]; kernel_rfl
end PlayNil
end Go.Proofs.YtlhcpkgaeandfaaGreat
