/- ScriptLong: the bounds of a script, and one past them: the law answers true. Condition: the listed package-level variables of Go's library hold what its text lays (the card ties them to the text). -/
import Derived.Test.YtbfbjgakmnckbaaGreatDoorSl15
import Derived.Test.YtbfbjgakmnckbaaGreatDoorCards
import Derived.Test.YtbfbjgakmnckbaaGreatDoorTie
import Derived.ProofKit
import Derived.OpenShut
import Derived.Deep.DeepHandedRow
import Derived.Lib.LaidTab
import Derived.Stop.LaidErr
import Derived.Lay
import Derived.Shelf.Vars
import Derived.Carry
namespace Go.Proofs.YtbfbjgakmnckbaaGreatDoor
open Go Go.ChangeShapes Go.WideShapes Go.ChangeAt Go.RowKit Eng
namespace ScriptLong
theorem own : ownKnob Tryz.prog.godebug = none := by kernel_rfl
theorem laidOutT : laidOutB Tryz.prog = true := by kernel_rfl
theorem lw_of {W : World} (h : W.ShapedOpen Tryz.prog) : LW W :=
 ⟨cell_of_shapedOpen_int (t := 3) (zero := #[.int .i64 0]) h (of_decide_eq_true (by kernel_rfl)) (by kernel_rfl) rfl (by kernel_rfl) (by kernel_rfl) (by kernel_rfl)⟩
theorem params_long : Tryz.f6.params.toList = [] := by kernel_rfl
set_option maxRecDepth 100000 in
/-- WHAT THE WALK GIVES. -/
theorem longContract (H : Type) (enc : TypeId × Value → H) (W : World) (args : Array Value) (ds gs : List (DataW H)) (before : List MemPlace)
  (hW : DataW.Whole enc Tryz.prog Tryz.f6.params.toList Rows.scriptLongSpec.vars false W args.toList ds gs before) (hS : W.ShapedOpen Tryz.prog) :
  Calls Tryz.prog 6 args W fun e W' => ∃ v, e = .returned v ∧ Rows.scriptLongSpec.post enc Tryz.prog Tryz.f6 false true false false W args v W' := by
 have hW' := hW
 obtain ⟨p, q, hA0, hV, rfl, hfz, hnd⟩ := hW
 have hA : DataW.TrodAll enc Tryz.prog W 0 (fun _ => true) true Tryz.f6.params.toList args.toList ds p := hA0
 rw [params_long] at hA
 obtain ⟨rfl, rfl, rfl⟩ := trodAll_none hA
 obtain ⟨rfl, rfl⟩ := trodVars_none hV
 clear hA0 hA
 simp only [List.append_nil] at hW'
 refine Calls.mono (slong_any W (lw_of hS)) fun e W' ⟨m', ⟨he, _⟩, hm⟩ => ?_
 subst he
 have hb : Below W.heap.size W W' := (hm.fr.mono (T := fun _ => False) (fun k _ ⟨r, hr, _⟩ => by cases hr)).below
 exact ⟨_, rfl, _, _, _, [], [], [], hW', trodAll_mk1 (shut_bool Tryz.underlying4 _), rfl, rfl, hb.frame _, fun h => by cases h⟩
noncomputable abbrev W0 (os : Os) : World := World.laidAll Tryz.prog os Rows.scriptLongRow.laid
abbrev A0 : Array Value := #[]
theorem reads (os : Os) {H : Type} (enc : TypeId × Value → H) : ∃ places, DataW.whole enc Tryz.prog ((W0 os).forCall (fun _ _ => 0) ⟨#[], A0, []⟩).memory Tryz.f6.params.toList Rows.scriptLongSpec.vars false A0.toList 8 = some ([], [], places) :=
 ⟨[], by kernel_rfl⟩
theorem laid_met (os : Os) : laidMet Tryz.prog Rows.scriptLongRow.laid ((W0 os).forCall (fun _ _ => 0) ⟨#[], A0, []⟩).memory := laidMet_laidAll _ (by kernel_rfl) (by kernel_rfl)
set_option maxRecDepth 100000 in
theorem lifted (os : Os) (started : os.Started) (H : Type) (enc : TypeId × Value → H) (F : Stop.Interp) :
  ReturnsInHanded {} Tryz.checked os 6 .any ((OpenSpec.ofChange Rows.scriptLongSpec).preRow enc Tryz.prog Tryz.f6 Rows.scriptLongRow.domain false Rows.scriptLongRow.laid) (((OpenSpec.ofChange Rows.scriptLongSpec).at F).post enc Tryz.prog Tryz.f6 false true false false) := by
 obtain ⟨places, hx⟩ := reads os enc
 refine returnsInHanded_of_row (C := Tryz.checked) (s := OpenSpec.ofChange Rows.scriptLongSpec) own started (by kernel_rfl) Tryz.func6
  (witness_row_at (enc := enc) (C := Tryz.checked) false (W0 os) A0 (World.laidAll_os _ _ _) (by kernel_rfl) (by kernel_rfl) (by kernel_rfl)
   (OpenSpec.preRow_of_cond 8 hx (by kernel_rfl) (fun k hk => by cases hk) (by kernel_rfl) (by rw [MakeChecks.laidMetH_plain _ _ _ (by kernel_rfl)]; exact laid_met os))) ?_
 intro W base args ds gs before hval hW _ _ hz hL hS _
 exact longContract H enc W args ds gs before hW hS
theorem said : Rows.ScriptLongSaid :=
 OpenClaim.holds_of_cond 6 Tryz.f6 rfl rfl rfl rfl rfl rfl rfl ⟨rfl, rfl, rfl, rfl, rfl⟩ rfl rfl rfl rfl rfl (by kernel_rfl) Tryz.func6 (by kernel_rfl)
  (of_decide_eq_true (by kernel_rfl)) (by unfold Func.isWrapper; first | (rw [if_pos (by decide +kernel)]; kernel_rfl) | (rw [if_neg (by decide +kernel)]; exact ⟨rfl, rfl⟩))
  (fun os started H enc _ F => by rw [OpenClaim.pre_eq_preRow]; exact lifted os started H enc F)
end ScriptLong
theorem scriptLong_holds : Rows.ScriptLongCardSaid :=
 Claim7.holds_tied_plain_at .later [] [.data, .pinned] true (true, "200094f5dea8f06616aeea5caeec875fc2fd9e96e84e7b8b4b9964390910db90") true ScriptLong.said (fun _ h => by cases h) (by kernel_rfl) (fun _ h => by cases h) scriptLong_row_tie rfl ⟨rfl, rfl⟩ (by kernel_rfl) rfl
  (fun f fn hf hfn => by
   obtain rfl : f = 6 := Option.some.inj ((show Tryz.prog.funcNamed "palimpsest/palimpsestlaw31.ScriptLong" = some 6 by kernel_rfl).symm.trans hf) |>.symm
   obtain rfl : fn = Tryz.f6 := (Option.some.inj (Tryz.func6.symm.trans hfn)).symm
   refine ⟨by kernel_rfl, fun j t ht => ?_⟩
   have hm : t ∈ Tryz.f6.params.toList := by simpa using Array.mem_of_getElem? ht
   rw [ScriptLong.params_long] at hm
   cases hm)
  (by kernel_rfl)
#print axioms scriptLong_holds
end Go.Proofs.YtbfbjgakmnckbaaGreatDoor
