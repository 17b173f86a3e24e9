/- PlayNil: closed facts of the row. No statement of the seat is proved here. -/
import Derived.Test.YtlhcpkgaeandfaaGreatPnll
import Derived.Test.YtlhcpkgaeandfaaGreatCe29
import Derived.Test.YtlhcpkgaeandfaaGreatRows
set_option linter.unusedVariables false
set_option linter.unusedSimpArgs false
namespace Go.Proofs.YtlhcpkgaeandfaaGreat
open Go Go.ChangeShapes Go.WideShapes Go.ChangeAt Go.RowKit
namespace PlayNil
theorem named : Tryz.prog.funcNamed Rows.playNilRow.func = some 3 := by kernel_rfl
theorem inst : Tryz.f3.isInstance Tryz.prog Rows.playNilRow.origin Rows.playNilRow.targs := of_decide_eq_true (by kernel_rfl)
theorem wrap : Tryz.f3.isWrapper Tryz.prog Rows.playNilRow.wrapper Rows.playNilRow.mainSum := by unfold Func.isWrapper; first | (rw [if_pos (by decide +kernel)]; kernel_rfl) | (rw [if_neg (by decide +kernel)]; exact ⟨rfl, rfl⟩)
end PlayNil
end Go.Proofs.YtlhcpkgaeandfaaGreat
