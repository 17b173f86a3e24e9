/- PlayNil: for every act the law answers true and leaves all as it was. No condition. -/
import Derived.Test.YtlhcpkgaeandfaaGreatPnll
import Derived.Test.YtlhcpkgaeandfaaGreatCe29
import Derived.Test.YtlhcpkgaeandfaaGreatRows
import Derived.Lib.LaidTab
import Derived.Stop.LaidErr
import Derived.Lay
import Derived.Shelf.Vars
set_option linter.unusedVariables false
set_option linter.unusedSimpArgs false
namespace Go.Proofs.YtlhcpkgaeandfaaGreat
open Go Go.ChangeShapes Go.WideShapes Go.ChangeAt Go.RowKit
namespace PlayNil
theorem own : ownKnob Tryz.prog.godebug = Option.none := by kernel_rfl
theorem laidOutT : laidOutB Tryz.prog = true := by kernel_rfl
theorem shapes : CE.shAll Tryz.prog Tryz.f3.params.toList = some [.agg [.anyI .i64, .anyStr, .anyStr, .anyStr, .anyI .i64, .anyI .i64, .anyS, .anyI .i64, .anyI .i64, .anyB, .anyI .i64, .anyI .i64, .anyS]] := by kernel_rfl
theorem readable : (Tryz.f3.params.toList.all fun t => Tryz.prog.readableRec t && Nat.blt t Tryz.prog.types.size) = true := by kernel_rfl
theorem res_one : Tryz.f3.resultTypes.toList = [4] := by kernel_rfl
theorem u_bool : Tryz.prog.underlying 4 = some .bool := by kernel_rfl
theorem law (us : List Value) (w : World) (h : CE.DenL CE.r0 [.agg [.anyI .i64, .anyStr, .anyStr, .anyStr, .anyI .i64, .anyI .i64, .anyS, .anyI .i64, .anyI .i64, .anyB, .anyI .i64, .anyI .i64, .anyS]] us) :
    CE.FnDoes Tryz.prog 3 us.toArray w fun e w' => e = .returned (.bool true) ∧ Eng.Fr (fun _ => False) w w' := by
  obtain ⟨u, ur, ⟨cs, hL, rfl⟩, hr, rfl⟩ := h
  obtain ⟨d, hd, h6⟩ := CE.denL_turn (c := .anyS) (cs := [.cmpS 20000 true, .cmpS 20000 false]) (pre := [.anyI .i64, .anyStr, .anyStr, .anyStr, .anyI .i64, .anyI .i64]) (post := [.anyI .i64, .anyI .i64, .anyB, .anyI .i64, .anyI .i64, .anyS]) hL (fun u hu => by
    rcases CE.den_cmpS 20000 hu with h | h
    · exact ⟨_, List.mem_cons_self .., h⟩
    · exact ⟨_, List.mem_cons_of_mem _ (List.mem_cons_self ..), h⟩)
  rcases List.mem_cons.1 hd with rfl | hd
  · exact CE.law2 _ ⟨_, ur, ⟨cs, h6, rfl⟩, hr, rfl⟩ w
  · rcases List.mem_cons.1 hd with rfl | hd
    · obtain ⟨d, hd, h12⟩ := CE.denL_turn (c := .anyS) (cs := [.cmpS 1000 true, .cmpS 1000 false]) (pre := [.anyI .i64, .anyStr, .anyStr, .anyStr, .anyI .i64, .anyI .i64, .cmpS 20000 false, .anyI .i64, .anyI .i64, .anyB, .anyI .i64, .anyI .i64]) (post := []) h6 (fun u hu => by
        rcases CE.den_cmpS 1000 hu with h | h
        · exact ⟨_, List.mem_cons_self .., h⟩
        · exact ⟨_, List.mem_cons_of_mem _ (List.mem_cons_self ..), h⟩)
      rcases List.mem_cons.1 hd with rfl | hd
      · exact CE.law1 _ ⟨_, ur, ⟨cs, h12, rfl⟩, hr, rfl⟩ w
      · rcases List.mem_cons.1 hd with rfl | hd
        · exact CE.law0 _ ⟨_, ur, ⟨cs, h12, rfl⟩, hr, rfl⟩ w
        · cases hd
    · cases hd
noncomputable abbrev W0 (os : Os) : World := World.laidAll Tryz.prog os Rows.playNilRow.laid
abbrev z (k : IntKind) : Value := .int k 0
abbrev A0 : Array Value := #[.agg #[z .i64, .string ⟨#[]⟩, .string ⟨#[]⟩, .string ⟨#[]⟩, z .i64, z .i64, .slice none 0 0, z .i64, z .i64, .bool false, z .i64, z .i64, .slice none 0 0]]
abbrev dz {H : Type} (k : IntKind) : DataW H := .lit (.int k 0)
theorem reads (os : Os) {H : Type} (enc : TypeId × Value → H) : DataW.whole enc Tryz.prog ((W0 os).forCall (fun _ _ => 0) ⟨#[], A0, []⟩).memory Tryz.f3.params.toList Rows.playNilSpec.vars false A0.toList 8 =
    some ([.agg [dz .i64, .lit (.string []), .lit (.string []), .lit (.string []), dz .i64, dz .i64, .nil, dz .i64, dz .i64, .lit (.bool false), .agg [dz .i64, dz .i64], .nil]], [], []) := by kernel_rfl
theorem laid_met (os : Os) : laidMet Tryz.prog Rows.playNilRow.laid ((W0 os).forCall (fun _ _ => 0) ⟨#[], A0, []⟩).memory := laidMet_laidAll _ (by kernel_rfl) (by kernel_rfl)
set_option maxRecDepth 100000 in
theorem lifted (os : Os) (started : os.Started) (H : Type) (enc : TypeId × Value → H) (F : Stop.Interp) :
    ReturnsInHanded {} Tryz.checked os 3 .any ((OpenSpec.ofChange Rows.playNilSpec).preRow enc Tryz.prog Tryz.f3 Rows.playNilRow.domain false Rows.playNilRow.laid) (((OpenSpec.ofChange Rows.playNilSpec).at F).post enc Tryz.prog Tryz.f3 false true false false) := by
  refine returnsInHanded_of_row (C := Tryz.checked) (s := OpenSpec.ofChange Rows.playNilSpec) own started (by kernel_rfl) Tryz.func3
    (witness_row_at (enc := enc) (C := Tryz.checked) false (W0 os) A0 (World.laidAll_os _ _ _) (by kernel_rfl) (by kernel_rfl) (by kernel_rfl)
      (OpenSpec.preRow_of_cond 8 (reads os enc) (by kernel_rfl) (fun k hk => by cases hk) (by kernel_rfl) (laid_met os))) ?_
  intro W base args ds gs before hval hW _ _ _ _ _ _
  exact CE.row_post laidOutT Tryz.call3 readable shapes rfl (fun ds h => by
    match ds, h with
    | [a], _ => rfl) res_one u_bool law W base args ds gs before hval hW
end PlayNil
end Go.Proofs.YtlhcpkgaeandfaaGreat
