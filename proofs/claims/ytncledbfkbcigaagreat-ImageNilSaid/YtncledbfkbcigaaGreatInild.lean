/- ImageNil: for every number, entry and head the law answers true and leaves all as it was. No condition. -/
import Derived.Test.YtncledbfkbcigaaGreatInill
import Derived.Test.YtncledbfkbcigaaGreatCe29
import Derived.Test.YtncledbfkbcigaaGreatRows
import Derived.Lib.LaidTab
import Derived.Stop.LaidErr
import Derived.Lay
import Derived.Shelf.Vars
set_option linter.unusedVariables false
set_option linter.unusedSimpArgs false
namespace Go.Proofs.YtncledbfkbcigaaGreat
open Go Go.ChangeShapes Go.WideShapes Go.ChangeAt Go.RowKit
namespace ImageNil
theorem own : ownKnob Tryz.prog.godebug = Option.none := by kernel_rfl
theorem laidOutT : laidOutB Tryz.prog = true := by kernel_rfl
theorem shapes : CE.shAll Tryz.prog Tryz.f3.params.toList = some [.anyI .i64, .agg [.anyI .i64, .anyI .i64, .anyI .i64], .agg [.anyI .i64, .anyI .u64, .anyI .i64, .anyI .i64, .anyI .i64, .anyI .i64, .anyI .i64, .anyI .i64, .anyI .i64, .anyI .i64, .anyI .i64, .anyI .i64, .anyI .i64, .anyI .i64, .anyStr]] := by kernel_rfl
theorem readable : (Tryz.f3.params.toList.all fun t => Tryz.prog.readableRec t && Nat.blt t Tryz.prog.types.size) = true := by kernel_rfl
theorem res_one : Tryz.f3.resultTypes.toList = [4] := by kernel_rfl
theorem u_bool : Tryz.prog.underlying 4 = some .bool := by kernel_rfl
theorem law (us : List Value) (w : World) (h : CE.DenL CE.r0 [.anyI .i64, .agg [.anyI .i64, .anyI .i64, .anyI .i64], .agg [.anyI .i64, .anyI .u64, .anyI .i64, .anyI .i64, .anyI .i64, .anyI .i64, .anyI .i64, .anyI .i64, .anyI .i64, .anyI .i64, .anyI .i64, .anyI .i64, .anyI .i64, .anyI .i64, .anyStr]] us) :
    CE.FnDoes Tryz.prog 3 us.toArray w fun e w' => e = .returned (.bool true) ∧ Eng.Fr (fun _ => False) w w' := by
  obtain ⟨u, ur, h1, h2, rfl⟩ := h
  rcases CE.den_cmpI (-1) h1 with h | h
  · exact CE.law0 _ ⟨u, ur, h, h2, rfl⟩ w
  · exact CE.law1 _ ⟨u, ur, h, h2, rfl⟩ w
noncomputable abbrev W0 (os : Os) : World := World.laidAll Tryz.prog os Rows.imageNilRow.laid
abbrev z (k : IntKind) : Value := .int k 0
abbrev A0 : Array Value := #[z .i64, .agg #[z .i64, z .i64, z .i64], .agg #[z .i64, z .u64, z .i64, z .i64, z .i64, z .i64, z .i64, z .i64, z .i64, z .i64, z .i64, z .i64, z .i64, z .i64, .string ⟨#[]⟩]]
abbrev dz {H : Type} (k : IntKind) : DataW H := .lit (.int k 0)
theorem reads (os : Os) {H : Type} (enc : TypeId × Value → H) : DataW.whole enc Tryz.prog ((W0 os).forCall (fun _ _ => 0) ⟨#[], A0, []⟩).memory Tryz.f3.params.toList Rows.imageNilSpec.vars false A0.toList 8 =
    some ([dz .i64, .agg [dz .i64, dz .i64, dz .i64], .agg [dz .i64, dz .u64, dz .i64, dz .i64, dz .i64, dz .i64, dz .i64, dz .i64, dz .i64, dz .i64, dz .i64, dz .i64, dz .i64, dz .i64, .lit (.string [])]], [], []) := by kernel_rfl
theorem laid_met (os : Os) : laidMet Tryz.prog Rows.imageNilRow.laid ((W0 os).forCall (fun _ _ => 0) ⟨#[], A0, []⟩).memory := laidMet_laidAll _ (by kernel_rfl) (by kernel_rfl)
set_option maxRecDepth 100000 in
theorem lifted (os : Os) (started : os.Started) (H : Type) (enc : TypeId × Value → H) (F : Stop.Interp) :
    ReturnsInHanded {} Tryz.checked os 3 .any ((OpenSpec.ofChange Rows.imageNilSpec).preRow enc Tryz.prog Tryz.f3 Rows.imageNilRow.domain false Rows.imageNilRow.laid) (((OpenSpec.ofChange Rows.imageNilSpec).at F).post enc Tryz.prog Tryz.f3 false true false false) := by
  refine returnsInHanded_of_row (C := Tryz.checked) (s := OpenSpec.ofChange Rows.imageNilSpec) own started (by kernel_rfl) Tryz.func3
    (witness_row_at (enc := enc) (C := Tryz.checked) false (W0 os) A0 (World.laidAll_os _ _ _) (by kernel_rfl) (by kernel_rfl) (by kernel_rfl)
      (OpenSpec.preRow_of_cond 8 (reads os enc) (by kernel_rfl) (fun k hk => by cases hk) (by kernel_rfl) (laid_met os))) ?_
  intro W base args ds gs before hval hW _ _ _ _ _ _
  exact CE.row_post laidOutT Tryz.call3 readable shapes rfl (fun ds h => by
    match ds, h with
    | [a, b, c], _ => rfl) res_one u_bool law W base args ds gs before hval hW
end ImageNil
theorem imageNil_holds : Rows.ImageNilSaid :=
  OpenClaim.holds_of_cond 3 Tryz.f3 rfl rfl rfl rfl rfl rfl rfl ⟨rfl, rfl, rfl, rfl, rfl⟩ rfl rfl rfl rfl rfl (by kernel_rfl) Tryz.func3 (by kernel_rfl)
    (of_decide_eq_true (by kernel_rfl)) (by unfold Func.isWrapper; first | (rw [if_pos (by decide +kernel)]; kernel_rfl) | (rw [if_neg (by decide +kernel)]; exact ⟨rfl, rfl⟩))
    (fun os started H enc _ F => by rw [OpenClaim.pre_eq_preRow]; exact ImageNil.lifted os started H enc F)
#print axioms imageNil_holds
end Go.Proofs.YtncledbfkbcigaaGreat
