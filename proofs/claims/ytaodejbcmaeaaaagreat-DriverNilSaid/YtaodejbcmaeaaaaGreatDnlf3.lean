/- Closed facts of the row. No statement of the seat is proved here. Written by program (genfacts.py). -/
import Derived.Test.YtaodejbcmaeaaaaGreatRows
set_option linter.unusedVariables false
set_option linter.unusedSimpArgs false
namespace Go.Proofs.YtaodejbcmaeaaaaGreat
open Go
namespace DriverNil
theorem maps : mapsRowed Tryz.prog = true := by kernel_rfl
theorem plk : (Rows.driverNilRow.plainKeys == Tryz.prog.plainKeys) = true := by kernel_rfl
theorem hrd : Tryz.prog.stopsHeard = true := by kernel_rfl
theorem may : Tryz.prog.mayEnter = true := by kernel_rfl
end DriverNil
end Go.Proofs.YtaodejbcmaeaaaaGreat
