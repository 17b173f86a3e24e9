/- DriverNil: what the law answers; the row as it is lifted. No statement of the seat is proved here. -/
import Derived.Test.YtaodejbcmaeaaaaGreatDnll
import Derived.Test.YtaodejbcmaeaaaaGreatCe29
import Derived.Test.YtaodejbcmaeaaaaGreatRows
import Derived.Lib.LaidTab
import Derived.Stop.LaidErr
import Derived.Lay
import Derived.Shelf.Vars
set_option linter.unusedVariables false
set_option linter.unusedSimpArgs false
namespace Go.Proofs.YtaodejbcmaeaaaaGreat
open Go Go.ChangeShapes Go.WideShapes Go.ChangeAt Go.RowKit
namespace DriverNil
theorem own : ownKnob Tryz.prog.godebug = Option.none := by kernel_rfl
theorem laidOutT : laidOutB Tryz.prog = true := by kernel_rfl
theorem shapes : CE.shAll Tryz.prog Tryz.f3.params.toList = some [.agg [.anyI .i64, .anyI .i64, .anyI .i64, .anyS], .anyI .i64] := by kernel_rfl
theorem readable : (Tryz.f3.params.toList.all fun t => Tryz.prog.readableRec t && Nat.blt t Tryz.prog.types.size) = true := by kernel_rfl
theorem res_one : Tryz.f3.resultTypes.toList = [4] := by kernel_rfl
theorem u_bool : Tryz.prog.underlying 4 = some .bool := by kernel_rfl
theorem law (us : List Value) (w : World) (h : CE.DenL CE.r0 [.agg [.anyI .i64, .anyI .i64, .anyI .i64, .anyS], .anyI .i64] us) : CE.FnDoes Tryz.prog 3 us.toArray w fun e w' => e = .returned (.bool true) ∧ Eng.Fr (fun _ => False) w w' := by
  obtain ⟨u, ur, ⟨cs, hL, rfl⟩, hr, rfl⟩ := h
  obtain ⟨d, hd, h6⟩ := CE.denL_turn (c := .anyS) (cs := [.cmpS 100000 true, .cmpS 100000 false]) (pre := [.anyI .i64, .anyI .i64, .anyI .i64]) (post := []) hL (fun u hu => by
    rcases CE.den_cmpS 100000 hu with h | h
    · exact ⟨_, List.mem_cons_self .., h⟩
    · exact ⟨_, List.mem_cons_of_mem _ (List.mem_cons_self ..), h⟩)
  rcases List.mem_cons.1 hd with rfl | hd
  · exact CE.law1 _ ⟨_, ur, ⟨cs, h6, rfl⟩, hr, rfl⟩ w
  · rcases List.mem_cons.1 hd with rfl | hd
    · exact CE.law0 _ ⟨_, ur, ⟨cs, h6, rfl⟩, hr, rfl⟩ w
    · cases hd
noncomputable abbrev W0 (os : Os) : World := World.laidAll Tryz.prog os Rows.driverNilRow.laid
abbrev z (k : IntKind) : Value := .int k 0
abbrev A0 : Array Value := #[.agg #[z .i64, z .i64, z .i64, .slice none 0 0], z .i64]
abbrev dz {H : Type} (k : IntKind) : DataW H := .lit (.int k 0)
theorem reads (os : Os) {H : Type} (enc : TypeId × Value → H) : DataW.whole enc Tryz.prog ((W0 os).forCall (fun _ _ => 0) ⟨#[], A0, []⟩).memory Tryz.f3.params.toList Rows.driverNilSpec.vars false A0.toList 8 =
    some ([.agg [dz .i64, dz .i64, dz .i64, .nil], dz .i64], [], []) := by kernel_rfl
theorem laid_met (os : Os) : laidMet Tryz.prog Rows.driverNilRow.laid ((W0 os).forCall (fun _ _ => 0) ⟨#[], A0, []⟩).memory := laidMet_laidAll _ (by kernel_rfl) (by kernel_rfl)
set_option maxRecDepth 100000 in
theorem lifted (os : Os) (started : os.Started) (H : Type) (enc : TypeId × Value → H) (F : Stop.Interp) :
    ReturnsInHanded {} Tryz.checked os 3 .any ((OpenSpec.ofChange Rows.driverNilSpec).preRow enc Tryz.prog Tryz.f3 Rows.driverNilRow.domain false Rows.driverNilRow.laid) (((OpenSpec.ofChange Rows.driverNilSpec).at F).post enc Tryz.prog Tryz.f3 false true false false) := by
  refine returnsInHanded_of_row (C := Tryz.checked) (s := OpenSpec.ofChange Rows.driverNilSpec) own started (by kernel_rfl) Tryz.func3
    (witness_row_at (enc := enc) (C := Tryz.checked) false (W0 os) A0 (World.laidAll_os _ _ _) (by kernel_rfl) (by kernel_rfl) (by kernel_rfl)
      (OpenSpec.preRow_of_cond 8 (reads os enc) (by kernel_rfl) (fun k hk => by cases hk) (by kernel_rfl) (laid_met os))) ?_
  intro W base args ds gs before hval hW _ _ _ _ _ _
  exact CE.row_post laidOutT Tryz.call3 readable shapes rfl (fun ds h => by
    match ds, h with
    | [a, b], _ => rfl) res_one u_bool law W base args ds gs before hval hW
end DriverNil
end Go.Proofs.YtaodejbcmaeaaaaGreat
