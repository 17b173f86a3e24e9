/- The code is looked at once. No statement of the seat is proved here. Written by program (genseat.py). -/
import Derived.Test.YtlhcpkgaeandfaaGreatPnla
set_option linter.unusedVariables false
set_option linter.unusedSimpArgs false
namespace Go.Proofs.YtlhcpkgaeandfaaGreat.CE
open Go Go.RowKit
theorem ck_ok (pf : Nat → Option CV) (mm : Nat → List Mm) : ckAll (mkB fnt tyl pll exl pf mm) fnt = true := by kernel_rfl
theorem tb_ok (pf : Nat → Option CV) (mm : Nat → List Mm) : TbOk Tryz.prog (tb pf mm) := mkB_ok fnt_ok tyl_ok mixed (ck_ok pf mm) exl_ok
end Go.Proofs.YtlhcpkgaeandfaaGreat.CE
