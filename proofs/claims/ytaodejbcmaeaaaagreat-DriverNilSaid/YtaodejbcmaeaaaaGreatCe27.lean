/- The concrete evaluator: tables out of a program. No statement of the seat is proved here. -/
import Derived.Test.YtaodejbcmaeaaaaGreatCe26
set_option linter.unusedVariables false
set_option linter.unusedSimpArgs false
namespace Go.Proofs.YtaodejbcmaeaaaaGreat.CE
open Go Go.RowKit
open Go.Proofs.YtaodejbcmaeaaaaGreat.Eng (Fr Pl pl TyI TyK Tab TabOk kix)

/-! ## tries out of lists -/
noncomputable def ofL {α : Type} : List (Nat × α) → T α
  | [] => .lf
  | (i, x) :: l => (ofL l).set i x
theorem ofL_mem {α : Type} {i : Nat} {x : α} : ∀ {l : List (Nat × α)}, (ofL l).get i = some x → (i, x) ∈ l
  | [], h => by simp [ofL, T.get_lf] at h
  | (j, y) :: l, h => by
    simp only [ofL, T.get_set] at h
    split at h
    · rename_i e; subst e; cases h; exact List.mem_cons_self ..
    · exact List.mem_cons_of_mem _ (ofL_mem h)

/-! ## types -/
def tyKind (P : Program) : TypeDesc → Option TK
  | .struct fs => match fs.toList.all fun f => (P.info? f.type).isSome with
    | true => some (.struct (fs.toList.map fun f => (f.offset, P.cellsOf f.type, f.type)))
    | false => none
  | .slice e => some (.slice e)
  | .string => some .str
  | .int k => some (.int k)
  | .bool => some .bool
  | .interface _ => some .iface
  | .array n e => some (.arr n e)
  | .map k e => some (.map k e)
  | .pointer e => some (.ptr e)
  | .func _ _ _ => some .fnc
  | _ => none
def zeroL (z : Value) : List CV := z.cells.toList.map ofVal0
def isAggV : Value → Bool
  | .agg _ => true
  | _ => false
def eqF (P : Program) (t : Nat) : TypeDesc → Bool
  | .struct fs => !P.stoodInHeld t && !P.eqGuardType P.depth t && fs.toList.all fun f => decide (f.name ≠ "_")
  | _ => false
/-- What the evaluator knows of a type. -/
def tyOf (P : Program) (t : Nat) (eq : Bool) : Option TI := match P.info? t, P.underlying t with
  | some inf, some d => match inf.zero, tyKind P d with
    | some z, some k => match Nat.beq (lenL (zeroL z)) inf.size, bB (isAggV z) k.agg, (match eq with | true => eqF P t d | false => true) with
      | true, true, true => some ⟨k, inf.size, inf.bytes, zeroL z, eq⟩
      | _, _, _ => none
    | _, _ => none
  | _, _ => none

theorem den_zeroL (r : Rl) (z : Value) : DenL r (zeroL z) z.cells.toList := by
  unfold zeroL
  generalize z.cells.toList = l
  induction l with
  | nil => simp [DenL]
  | cons v l ih => exact DenL.cons (den_ofVal0 r v) ih

theorem fields_mapM {P : Program} : ∀ {l : List Field}, (l.all fun f => (P.info? f.type).isSome) = true → l.mapM (fun f => (P.info? f.type).map fun i => (f.offset, i.size)) = some (l.map fun f => (f.offset, P.cellsOf f.type))
  | [], _ => rfl
  | f :: l, h => by
    simp only [List.all_cons, Bool.and_eq_true] at h
    obtain ⟨i, hi⟩ := Option.isSome_iff_exists.1 h.1
    rw [List.mapM_cons, fields_mapM h.2, hi]
    simp [Program.cellsOf, hi]

theorem tyOf_ok {P : Program} {t : Nat} {eq : Bool} {ti : TI} (h : tyOf P t eq = some ti) : TyOk P t ti := by
  unfold tyOf at h
  split at h
  · rename_i inf d hinf hd
    split at h
    · rename_i z k hz hk
      split at h
      · rename_i h1 h2 h3
        injection h with h
        subst h
        have h1 := natbeq_t h1
        rw [lenL_eq] at h1
        rw [bB_eq] at h2
        have h2 : isAggV z = k.agg := beq_iff_eq.1 h2
        have hzc : zeroL z = z.cells.toList.map ofVal0 := rfl
        have key : ∀ (kI : TyK), kI.ok P d → TKR P t k kI → TyOk P t ⟨k, inf.size, inf.bytes, zeroL z, eq⟩ := by
          intro kI hok hr
          refine ⟨⟨⟨kI, inf.size, inf.bytes, z.cells.toList⟩, ⟨⟨inf, hinf, rfl, rfl, by rw [hz]; simp⟩, ⟨d, hd, hok⟩⟩, hr, rfl, rfl, fun r => den_zeroL r z⟩, fun he => ?_, h1, inf, z, hinf, hz, fun ha => ?_, fun ha => ?_⟩
          · have he : eq = true := he
            subst he
            have h3 : eqF P t d = true := h3
            unfold eqF at h3
            split at h3
            · rename_i fs
              simp only [Bool.and_eq_true, Bool.not_eq_true', List.all_eq_true, decide_eq_true_eq] at h3
              refine ⟨h3.1.1, h3.1.2, fun flds hf f hm => ?_⟩
              rw [hd] at hf
              injection hf with hf; injection hf with hf; subst hf
              exact h3.2 f hm
            · cases h3
          · have ha : k.agg = true := ha
            rw [ha] at h2
            cases z with
            | agg cs => exact ⟨cs.toList, by simp, fun r => den_zeroL r (.agg cs)⟩
            | _ => exact absurd h2 (by simp [isAggV])
          · have ha : k.agg = false := ha
            rw [ha] at h2
            intro c hc r
            have hone : zeroL z = [ofVal0 z] := by cases z <;> first | rfl | (simp [isAggV] at h2)
            have hc : nth (zeroL z) 0 = some c := hc
            rw [hone] at hc
            simp only [CE.nth, Option.some.injEq] at hc
            subst hc
            exact den_ofVal0 r z
        unfold tyKind at hk
        split at hk
        · rename_i fs
          split at hk
          · rename_i hall
            injection hk with hk; subst hk
            have hm := fields_mapM hall
            refine key (.struct (fs.toList.map fun f : Field => (f.offset, P.cellsOf f.type))) ⟨fs, rfl, hm⟩ ⟨by simp [Function.comp_def], fs, hd, by simp [Function.comp_def]⟩
          · cases hk
        · injection hk with hk; subst hk; exact key (.slice _) rfl rfl
        · injection hk with hk; subst hk; exact key .str rfl rfl
        · injection hk with hk; subst hk; exact key (.int _) rfl rfl
        · injection hk with hk; subst hk; exact key .bool rfl rfl
        · injection hk with hk; subst hk; exact key .iface ⟨_, rfl⟩ rfl
        · injection hk with hk; subst hk; exact key (.arr _ _) rfl rfl
        · injection hk with hk; subst hk; exact key .plain ⟨rfl, fun ms e => by cases e⟩ ⟨rfl, hd⟩
        · injection hk with hk; subst hk; exact key .plain ⟨rfl, fun ms e => by cases e⟩ ⟨rfl, hd⟩
        · injection hk with hk; subst hk; exact key .plain ⟨rfl, fun ms e => by cases e⟩ ⟨rfl, _, _, _, hd⟩
        · cases hk
      · cases h
    · cases h
  · cases h

/-! ## functions -/
theorem fn_ok {P : Program} {g : Nat} {fn : Func} {c : Code} (hf : P.funcs[g]? = some fn) (hb : fn.body = some c) (hn : (fn.name == "runtime.NumGoroutine") = false) : Eng.Enters P g ∧ ∃ fn', P.funcs[g]? = some fn' ∧ fn'.body = some c ∧ fn'.ntmps = fn.ntmps ∧ fn'.results.toList = fn.results.toList := by
  refine ⟨fun args w => ?_, fn, hf, hb, rfl, rfl⟩
  have h1 : fn.name ≠ "runtime.NumGoroutine" := by simpa using hn
  simp [callFunc, hf, h1, hb]
end Go.Proofs.YtaodejbcmaeaaaaGreat.CE
