/- A run that is known. No statement of the seat is proved here. Written by program (genseat.py). -/
import Derived.Test.YtlhcpkgaeandfaaGreatPnlc
import Derived.Test.YtlhcpkgaeandfaaGreatPnlm
set_option linter.unusedVariables false
set_option linter.unusedSimpArgs false
namespace Go.Proofs.YtlhcpkgaeandfaaGreat.CE
open Go Go.RowKit
noncomputable def b11 : Tb := tb (fun _ => none) (mmOf [])
theorem run11 : chk m11 ((fs b11 200).call 0 392 m11.as m11.M m11.nx) = true := by kernel_rfl
theorem mms11 : ∀ x ∈ ([] : List (Nat × Mm)), OneOk Tryz.prog x.1 x.2 := mm_nil
theorem one11 : OneOk Tryz.prog 392 m11 := one_ok (tb_ok _ _) (pf_nil rfl) (mmOf_ok rfl mms11) run11
end Go.Proofs.YtlhcpkgaeandfaaGreat.CE
