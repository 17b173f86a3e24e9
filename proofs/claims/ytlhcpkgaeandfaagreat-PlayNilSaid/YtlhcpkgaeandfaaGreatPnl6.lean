/- A run that is known. No statement of the seat is proved here. Written by program (genseat.py). -/
import Derived.Test.YtlhcpkgaeandfaaGreatPnlc
import Derived.Test.YtlhcpkgaeandfaaGreatPnlm
set_option linter.unusedVariables false
set_option linter.unusedSimpArgs false
namespace Go.Proofs.YtlhcpkgaeandfaaGreat.CE
open Go Go.RowKit
noncomputable def b6 : Tb := tb (fun _ => none) (mmOf [])
theorem run6 : chk m6 ((fs b6 200).call 0 392 m6.as m6.M m6.nx) = true := by kernel_rfl
theorem mms6 : ∀ x ∈ ([] : List (Nat × Mm)), OneOk Tryz.prog x.1 x.2 := mm_nil
theorem one6 : OneOk Tryz.prog 392 m6 := one_ok (tb_ok _ _) (pf_nil rfl) (mmOf_ok rfl mms6) run6
end Go.Proofs.YtlhcpkgaeandfaaGreat.CE
