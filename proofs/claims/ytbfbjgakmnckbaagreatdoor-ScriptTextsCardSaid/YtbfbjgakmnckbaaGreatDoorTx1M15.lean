/- ScriptTexts: the row and the card. For every list of acts and every kind of act the law answers true and leaves its arguments as they were. Condition: the listed package-level variables of Go's library hold what its text lays (the card ties them to the text). -/
import Derived.Test.YtbfbjgakmnckbaaGreatDoorTx1M14
namespace Go.Proofs.YtbfbjgakmnckbaaGreatDoor
open Go Go.ChangeShapes Go.WideShapes Go.ChangeAt Go.RowKit Eng
namespace ScriptTexts
noncomputable abbrev W0 (os : Os) : World := World.laidAll Tryz.prog os Rows.scriptTextsRow.laid
abbrev A0 : Array Value := #[.slice none 0 0, .int .i64 0]
theorem reads (os : Os) {H : Type} (enc : TypeId × Value → H) : ∃ places, DataW.whole enc Tryz.prog ((W0 os).forCall (fun _ _ => 0) ⟨#[], A0, []⟩).memory Tryz.f7.params.toList Rows.scriptTextsSpec.vars false A0.toList 8 = some ([.nil, .lit (.int .i64 0)], [], places) :=
 ⟨[], by kernel_rfl⟩
theorem laid_met (os : Os) : laidMet Tryz.prog Rows.scriptTextsRow.laid ((W0 os).forCall (fun _ _ => 0) ⟨#[], A0, []⟩).memory := laidMet_laidAll _ (by kernel_rfl) (by kernel_rfl)
set_option maxRecDepth 100000 in
theorem lifted (os : Os) (started : os.Started) (H : Type) (enc : TypeId × Value → H) (F : Stop.Interp) :
  ReturnsInHanded {} Tryz.checked os 7 .any ((OpenSpec.ofChange Rows.scriptTextsSpec).preRow enc Tryz.prog Tryz.f7 Rows.scriptTextsRow.domain false Rows.scriptTextsRow.laid) (((OpenSpec.ofChange Rows.scriptTextsSpec).at F).post enc Tryz.prog Tryz.f7 false true false false) := by
 obtain ⟨places, hx⟩ := reads os enc
 refine returnsInHanded_of_row (C := Tryz.checked) (s := OpenSpec.ofChange Rows.scriptTextsSpec) own started (by kernel_rfl) Tryz.func7
  (witness_row_at (enc := enc) (C := Tryz.checked) false (W0 os) A0 (World.laidAll_os _ _ _) (by kernel_rfl) (by kernel_rfl) (by kernel_rfl)
   (OpenSpec.preRow_of_cond 8 hx (by kernel_rfl) (fun k hk => by cases hk) (by kernel_rfl) (by rw [MakeChecks.laidMetH_plain _ _ _ (by kernel_rfl)]; exact laid_met os))) ?_
 intro W base args ds gs before hval hW _ _ hz hL hS _
 exact textsContract H enc W base args ds gs before hval hW hz hL hS
theorem said : Rows.ScriptTextsSaid :=
 OpenClaim.holds_of_cond 7 Tryz.f7 rfl rfl rfl rfl rfl rfl rfl ⟨rfl, rfl, rfl, rfl, rfl⟩ rfl rfl rfl rfl rfl (by kernel_rfl) Tryz.func7 (by kernel_rfl)
  (of_decide_eq_true (by kernel_rfl)) (by unfold Func.isWrapper; first | (rw [if_pos (by decide +kernel)]; kernel_rfl) | (rw [if_neg (by decide +kernel)]; exact ⟨rfl, rfl⟩))
  (fun os started H enc _ F => by rw [OpenClaim.pre_eq_preRow]; exact lifted os started H enc F)
end ScriptTexts
theorem scriptTexts_holds : Rows.ScriptTextsCardSaid :=
 Claim7.holds_tied_plain_at .later [] [.data, .data, .data, .data, .pinned] true (true, "200094f5dea8f06616aeea5caeec875fc2fd9e96e84e7b8b4b9964390910db90") true ScriptTexts.said (fun _ h => by cases h) (by kernel_rfl) (fun _ h => by cases h) scriptTexts_row_tie rfl ⟨rfl, rfl⟩ (by kernel_rfl) rfl
  (fun f fn hf hfn => by
   obtain rfl : f = 7 := Option.some.inj ((show Tryz.prog.funcNamed "palimpsest/palimpsestlaw31.ScriptTexts" = some 7 by kernel_rfl).symm.trans hf) |>.symm
   obtain rfl : fn = Tryz.f7 := (Option.some.inj (Tryz.func7.symm.trans hfn)).symm
   refine ⟨by kernel_rfl, fun j t ht => ?_⟩
   have hm : t ∈ Tryz.f7.params.toList := by simpa using Array.mem_of_getElem? ht
   rw [params_texts] at hm
   have hall : ([46, 3].all fun u => !Tryz.prog.wantsStandIn u) = true := by kernel_rfl
   exact (show Tryz.prog.wantsStandIn t = false by simpa using List.all_eq_true.1 hall t hm))
  (by kernel_rfl)
#print axioms scriptTexts_holds
end Go.Proofs.YtbfbjgakmnckbaaGreatDoor
