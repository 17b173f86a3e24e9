/- PlayNil: for every act the law answers true and leaves all as it was. No condition. -/
import Derived.Test.YtlhcpkgaeandfaaGreatPnld
import Derived.Test.YtlhcpkgaeandfaaGreatPnle
import Derived.Test.YtlhcpkgaeandfaaGreatPnlf
import Derived.Test.YtlhcpkgaeandfaaGreatCe29
import Derived.Test.YtlhcpkgaeandfaaGreatRows
set_option linter.unusedVariables false
set_option linter.unusedSimpArgs false
namespace Go.Proofs.YtlhcpkgaeandfaaGreat
open Go Go.ChangeShapes Go.WideShapes Go.ChangeAt Go.RowKit
theorem playNil_holds : Rows.PlayNilSaid :=
  OpenClaim.holds_of_cond 3 Tryz.f3 rfl rfl rfl rfl rfl rfl rfl ⟨rfl, rfl, rfl, rfl, rfl⟩ rfl rfl rfl rfl rfl PlayNil.named Tryz.func3 PlayNil.facts PlayNil.inst PlayNil.wrap
    (fun os started H enc _ F => by rw [OpenClaim.pre_eq_preRow]; exact PlayNil.lifted os started H enc F)
#print axioms playNil_holds
end Go.Proofs.YtlhcpkgaeandfaaGreat
