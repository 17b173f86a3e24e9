/- Closed facts of the row. No statement of the seat is proved here. Written by program (genfacts.py). -/
import Derived.Test.YtlhcpkgaeandfaaGreatRows
import Derived.Test.YtlhcpkgaeandfaaGreatPnld
import Derived.Test.YtlhcpkgaeandfaaGreatPnlf1
import Derived.Test.YtlhcpkgaeandfaaGreatPnlf2
import Derived.Test.YtlhcpkgaeandfaaGreatPnlf3
set_option linter.unusedVariables false
set_option linter.unusedSimpArgs false
namespace Go.Proofs.YtlhcpkgaeandfaaGreat
open Go
namespace PlayNil
theorem and_t {a b : Bool} (h : a = true) (k : b = true) : (a && b) = true := by rw [h, k]; rfl
theorem facts : joinedFacts Tryz.prog 3 Tryz.f3 (OpenSpec.ofChange Rows.playNilSpec).bare Rows.playNilRow = true :=
  and_t (and_t (and_t (and_t (and_t (and_t (and_t (and_t (and_t (and_t (and_t (and_t (and_t (and_t (and_t (and_t (and_t (and_t (and_t (and_t (and_t (and_t (and_t (and_t (and_t (and_t (and_t (and_t (and_t (and_t (and_t (by kernel_rfl) laidOutT) maps) (by kernel_rfl)) (by kernel_rfl)) (by kernel_rfl)) (by kernel_rfl)) (by kernel_rfl)) (by kernel_rfl)) inPl) unf) recs) nmd) (by kernel_rfl)) (by kernel_rfl)) (by kernel_rfl)) (by kernel_rfl)) (by kernel_rfl)) (by kernel_rfl)) (by kernel_rfl)) (by kernel_rfl)) (by kernel_rfl)) plk) (by kernel_rfl)) hrd) may) (by kernel_rfl)) (by kernel_rfl)) (by kernel_rfl)) (by kernel_rfl)) (by kernel_rfl)) (by kernel_rfl)
end PlayNil
end Go.Proofs.YtlhcpkgaeandfaaGreat
