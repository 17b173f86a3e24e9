/- Closed facts of the row. No statement of the seat is proved here. Written by program (genfacts.py). -/
import Derived.Test.YtaodejbcmaeaaaaGreatRows
import Derived.Test.YtaodejbcmaeaaaaGreatDnlf0
set_option linter.unusedVariables false
set_option linter.unusedSimpArgs false
namespace Go.Proofs.YtaodejbcmaeaaaaGreat
open Go
namespace DriverNil
theorem inPl : (Rows.driverNilRow.inPlace == Tryz.prog.inPlace 3) = true := by unfold Program.inPlace; rw [clo]; kernel_rfl
theorem unf : (Rows.driverNilRow.unfollowed == Tryz.prog.unfollowed 3) = true := by unfold Program.unfollowed; rw [clo]; kernel_rfl
theorem recs : (Rows.driverNilRow.recurses == Tryz.prog.recurses 3) = true := by have h := unf; rw [beq_iff_eq] at h; unfold Program.recurses; rw [← h]; rfl
end DriverNil
end Go.Proofs.YtaodejbcmaeaaaaGreat
