/- The code is looked at once. No statement of the seat is proved here. Written by program (genseat.py). -/
import Derived.Test.YtaodejbcmaeaaaaGreatDnla
set_option linter.unusedVariables false
set_option linter.unusedSimpArgs false
namespace Go.Proofs.YtaodejbcmaeaaaaGreat.CE
open Go Go.RowKit
theorem ck_ok (pf : Nat → List (List CV × CV)) (mm : Nat → List Mm) : ckAll (mkB fnt tyl pll exl mdl pf mm) fnt = true := by kernel_rfl
theorem tb_ok (pf : Nat → List (List CV × CV)) (mm : Nat → List Mm) : TbOk Tryz.prog (tb pf mm) := mkB_ok fnt_ok tyl_ok mixed mdl_ok (ck_ok pf mm) exl_ok
end Go.Proofs.YtaodejbcmaeaaaaGreat.CE
