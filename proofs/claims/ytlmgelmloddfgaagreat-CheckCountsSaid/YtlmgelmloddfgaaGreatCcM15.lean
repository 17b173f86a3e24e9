/- CheckCounts: for every file's bytes, every place and every byte the law answers true and leaves its arguments as they were. No condition. -/
import Derived.Test.YtlmgelmloddfgaaGreatCcM14
set_option linter.unusedVariables false
set_option linter.unusedSimpArgs false
set_option linter.unusedSectionVars false
set_option maxRecDepth 100000
namespace Go.Proofs.YtlmgelmloddfgaaGreat
open Go Go.ChangeShapes Go.WideShapes Go.ChangeAt Go.RowKit
theorem checkCounts_holds:Rows.CheckCountsSaid :=
 OpenClaim.holds_of_cond 4 Tryz.f4 rfl rfl rfl rfl rfl rfl rfl ⟨rfl,rfl,rfl,rfl,rfl⟩ rfl rfl rfl rfl rfl CheckCounts.named Tryz.func4 (by kernel_rfl) CheckCounts.inst CheckCounts.wrap
  (fun os started H enc _ F=>by rw [OpenClaim.pre_eq_preRow];exact CheckCounts.lifted os started H enc F)
#print axioms checkCounts_holds
end Go.Proofs.YtlmgelmloddfgaaGreat
