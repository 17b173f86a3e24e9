/- CheckData: for every file's bytes and every list of places the law answers true and leaves its arguments as they were. No condition. -/
import Derived.Test.YtlmgelmloddfgaaGreatCdM15
set_option linter.unusedVariables false
set_option linter.unusedSimpArgs false
set_option linter.unusedSectionVars false
set_option maxRecDepth 100000
namespace Go.Proofs.YtlmgelmloddfgaaGreat
open Go Go.ChangeShapes Go.WideShapes Go.ChangeAt Go.RowKit
theorem checkData_holds:Rows.CheckDataSaid :=
 OpenClaim.holds_of_cond 3 Tryz.f3 rfl rfl rfl rfl rfl rfl rfl ⟨rfl,rfl,rfl,rfl,rfl⟩ rfl rfl rfl rfl rfl CheckData.named Tryz.func3 (by kernel_rfl) CheckData.inst CheckData.wrap
  (fun os started H enc _ F=>by rw [OpenClaim.pre_eq_preRow];exact CheckData.lifted os started H enc F)
#print axioms checkData_holds
end Go.Proofs.YtlmgelmloddfgaaGreat
