/- Closed facts of the row. No statement of the seat is proved here. Written by program (genfacts.py). -/
import Derived.Test.YtaodejbcmaeaaaaGreatRows
import Derived.Test.YtaodejbcmaeaaaaGreatDnlf0
set_option linter.unusedVariables false
set_option linter.unusedSimpArgs false
namespace Go.Proofs.YtaodejbcmaeaaaaGreat
open Go
namespace DriverNil
theorem nmd : (Rows.driverNilRow.named == Tryz.prog.varsNamed 3) = true := by unfold Program.varsNamed; rw [clo]; kernel_rfl
end DriverNil
end Go.Proofs.YtaodejbcmaeaaaaGreat
