/- DriverNil: closed facts of the row. No statement of the seat is proved here. -/
import Derived.Test.YtaodejbcmaeaaaaGreatDnll
import Derived.Test.YtaodejbcmaeaaaaGreatCe29
import Derived.Test.YtaodejbcmaeaaaaGreatRows
set_option linter.unusedVariables false
set_option linter.unusedSimpArgs false
namespace Go.Proofs.YtaodejbcmaeaaaaGreat
open Go Go.ChangeShapes Go.WideShapes Go.ChangeAt Go.RowKit
namespace DriverNil
theorem named : Tryz.prog.funcNamed Rows.driverNilRow.func = some 3 := by kernel_rfl
theorem inst : Tryz.f3.isInstance Tryz.prog Rows.driverNilRow.origin Rows.driverNilRow.targs := of_decide_eq_true (by kernel_rfl)
theorem wrap : Tryz.f3.isWrapper Tryz.prog Rows.driverNilRow.wrapper Rows.driverNilRow.mainSum := by unfold Func.isWrapper; first | (rw [if_pos (by decide +kernel)]; kernel_rfl) | (rw [if_neg (by decide +kernel)]; exact ⟨rfl, rfl⟩)
end DriverNil
end Go.Proofs.YtaodejbcmaeaaaaGreat
