/- The law, by what is told of its arguments. No statement of the seat is proved here. Written by program (genseat.py). -/
import Derived.Test.YtaodejbcmaeaaaaGreatDnlk
set_option linter.unusedVariables false
set_option linter.unusedSimpArgs false
namespace Go.Proofs.YtaodejbcmaeaaaaGreat.CE
open Go Go.RowKit
/-- 3:100000:f -/
noncomputable def a0 : List CV := [(.agg [(.anyI .i64), (.anyI .i64), (.anyI .i64), (.cmpS (Int.ofNat 100000) false)]), (.anyI .i64)]
set_option maxRecDepth 1000000 in
theorem runl0 : isT ((fs bl 200).call 0 3 a0 .lf 1000) = true := by kernel_rfl
theorem law0 (us : List Value) (hd : DenL ⟨fun _ => none, fun _ => 0, fun _ => #[]⟩ a0 us) (w : World) : FnDoes Tryz.prog 3 us.toArray w fun e w' => e = .returned (.bool true) ∧ Eng.Fr (fun _ => False) w w' := true_ok (tb_ok _ _) known_ok (mmOf_ok rfl mmsl) runl0 hd w
/-- 3:100000:t -/
noncomputable def a1 : List CV := [(.agg [(.anyI .i64), (.anyI .i64), (.anyI .i64), (.cmpS (Int.ofNat 100000) true)]), (.anyI .i64)]
set_option maxRecDepth 1000000 in
theorem runl1 : isT ((fs bl 200).call 0 3 a1 .lf 1000) = true := by kernel_rfl
theorem law1 (us : List Value) (hd : DenL ⟨fun _ => none, fun _ => 0, fun _ => #[]⟩ a1 us) (w : World) : FnDoes Tryz.prog 3 us.toArray w fun e w' => e = .returned (.bool true) ∧ Eng.Fr (fun _ => False) w w' := true_ok (tb_ok _ _) known_ok (mmOf_ok rfl mmsl) runl1 hd w
end Go.Proofs.YtaodejbcmaeaaaaGreat.CE
