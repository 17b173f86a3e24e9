/- DriverNil: for every request and number the law answers true and leaves all as it was. No condition. -/
import Derived.Test.YtaodejbcmaeaaaaGreatDnld
import Derived.Test.YtaodejbcmaeaaaaGreatDnle
import Derived.Test.YtaodejbcmaeaaaaGreatDnlf
set_option linter.unusedVariables false
set_option linter.unusedSimpArgs false
namespace Go.Proofs.YtaodejbcmaeaaaaGreat
open Go Go.ChangeShapes Go.WideShapes Go.ChangeAt Go.RowKit
theorem driverNil_holds : Rows.DriverNilSaid :=
  OpenClaim.holds_of_cond 3 Tryz.f3 rfl rfl rfl rfl rfl rfl rfl ⟨rfl, rfl, rfl, rfl, rfl⟩ rfl rfl rfl rfl rfl DriverNil.named Tryz.func3 DriverNil.facts DriverNil.inst DriverNil.wrap
    (fun os started H enc _ F => by rw [OpenClaim.pre_eq_preRow]; exact DriverNil.lifted os started H enc F)
#print axioms driverNil_holds
end Go.Proofs.YtaodejbcmaeaaaaGreat
