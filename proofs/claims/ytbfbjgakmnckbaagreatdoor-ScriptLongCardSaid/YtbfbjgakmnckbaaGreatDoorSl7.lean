/- The plain law of scripts: an act may be just when it can be told and nothing is left of it. No statement of the seat is proved here. -/
import Derived.Test.YtbfbjgakmnckbaaGreatDoorSl6
import Derived.Lib.ItoaLen
namespace Go.Proofs.YtbfbjgakmnckbaaGreatDoor
open Go Go.RowKit Eng

/-- What a list of letters tells of an act, whole. -/
def Core (f : List UInt8) (a : PAct) : Prop := ∀ ws, telF f a = some (ws, nilAct a.kind) ↔ (onlyOk f a = true ∧ ((120 : UInt8) ∈ f → a.bytes.length ≤ 524288) ∧ (ws = f.map fun c => Str (letS c a)) ∧ a = onlyX f a (nilAct a.kind))
theorem core0 (a : PAct) : Core [97, 78, 66, 82, 79] a := by
 obtain ⟨kind, name, other, third, at_, n, bytes, bits, order, on, fk, keep, picks⟩ := a
 intro ws
 by_cases h1 : nameB name = true <;> by_cases h2 : nameB other = true <;> by_cases h3 : other = Str [] <;>
  simp [telF, telL, onlyOk, okL1, onlyX, takeL1, nilAct, letS, Str_bs, h1, h2, h3, PAct.mk.injEq, and_assoc, eq_comm]
theorem core1 (a : PAct) : Core [97, 119] a := by
 obtain ⟨kind, name, other, third, at_, n, bytes, bits, order, on, fk, keep, picks⟩ := a
 intro ws
 by_cases h1 : nameB name = true <;>
  simp [telF, telL, onlyOk, okL1, onlyX, takeL1, nilAct, letS, Str_bs, h1, PAct.mk.injEq, and_assoc, eq_comm]
theorem core2 (a : PAct) : Core [97] a := by
 obtain ⟨kind, name, other, third, at_, n, bytes, bits, order, on, fk, keep, picks⟩ := a
 intro ws
 by_cases h1 : nameB name = true <;>
  simp [telF, telL, onlyOk, okL1, onlyX, takeL1, nilAct, letS, Str_bs, h1, PAct.mk.injEq, and_assoc, eq_comm]
theorem core3 (a : PAct) : Core [97, 65, 78] a := by
 obtain ⟨kind, name, other, third, at_, n, bytes, bits, order, on, fk, keep, picks⟩ := a
 intro ws
 by_cases h1 : nameB name = true <;>
  simp [telF, telL, onlyOk, okL1, onlyX, takeL1, nilAct, letS, Str_bs, h1, PAct.mk.injEq, and_assoc, eq_comm]
theorem core4 (a : PAct) : Core [97, 65, 120] a := by
 obtain ⟨kind, name, other, third, at_, n, bytes, bits, order, on, fk, keep, picks⟩ := a
 intro ws
 by_cases h1 : nameB name = true <;> by_cases h5 : bytes.length ≤ 524288 <;>
  simp [telF, telL, onlyOk, okL1, onlyX, takeL1, nilAct, letS, Str_bs, h1, h5, PAct.mk.injEq, and_assoc, eq_comm]
theorem core5 (a : PAct) : Core [97, 65, 120, 66] a := by
 obtain ⟨kind, name, other, third, at_, n, bytes, bits, order, on, fk, keep, picks⟩ := a
 intro ws
 by_cases h1 : nameB name = true <;> by_cases h5 : bytes.length ≤ 524288 <;>
  simp [telF, telL, onlyOk, okL1, onlyX, takeL1, nilAct, letS, Str_bs, h1, h5, PAct.mk.injEq, and_assoc, eq_comm]
theorem core6 (a : PAct) : Core [97, 111] a := by
 obtain ⟨kind, name, other, third, at_, n, bytes, bits, order, on, fk, keep, picks⟩ := a
 intro ws
 by_cases h1 : nameB name = true <;> by_cases h2 : nameB other = true <;>
  simp [telF, telL, onlyOk, okL1, onlyX, takeL1, nilAct, letS, Str_bs, h1, h2, PAct.mk.injEq, and_assoc, eq_comm]
theorem core7 (a : PAct) : Core [97, 111, 66, 98] a := by
 obtain ⟨kind, name, other, third, at_, n, bytes, bits, order, on, fk, keep, picks⟩ := a
 intro ws
 by_cases h1 : nameB name = true <;> by_cases h2 : nameB other = true <;>
  simp [telF, telL, onlyOk, okL1, onlyX, takeL1, nilAct, letS, Str_bs, h1, h2, PAct.mk.injEq, and_assoc, eq_comm]
theorem core8 (a : PAct) : Core [97, 111, 98] a := by
 obtain ⟨kind, name, other, third, at_, n, bytes, bits, order, on, fk, keep, picks⟩ := a
 intro ws
 by_cases h1 : nameB name = true <;> by_cases h2 : nameB other = true <;>
  simp [telF, telL, onlyOk, okL1, onlyX, takeL1, nilAct, letS, Str_bs, h1, h2, PAct.mk.injEq, and_assoc, eq_comm]
theorem core9 (a : PAct) : Core [97, 111, 116] a := by
 obtain ⟨kind, name, other, third, at_, n, bytes, bits, order, on, fk, keep, picks⟩ := a
 intro ws
 by_cases h1 : nameB name = true <;> by_cases h2 : nameB other = true <;> by_cases h4 : nameB third = true <;>
  simp [telF, telL, onlyOk, okL1, onlyX, takeL1, nilAct, letS, Str_bs, h1, h2, h4, PAct.mk.injEq, and_assoc, eq_comm]
theorem core10 (a : PAct) : Core [97, 78] a := by
 obtain ⟨kind, name, other, third, at_, n, bytes, bits, order, on, fk, keep, picks⟩ := a
 intro ws
 by_cases h1 : nameB name = true <;>
  simp [telF, telL, onlyOk, okL1, onlyX, takeL1, nilAct, letS, Str_bs, h1, PAct.mk.injEq, and_assoc, eq_comm]
theorem core11 (a : PAct) : Core [97, 79, 115] a := by
 obtain ⟨kind, name, other, third, at_, n, bytes, bits, order, on, fk, keep, picks⟩ := a
 intro ws
 by_cases h1 : nameB name = true <;> by_cases h2 : nameB other = true <;> by_cases h3 : other = Str [] <;>
  simp [telF, telL, onlyOk, okL1, onlyX, takeL1, nilAct, letS, Str_bs, h1, h2, h3, PAct.mk.injEq, and_assoc, eq_comm]
theorem core12 (a : PAct) : Core [97, 111, 66, 82, 112] a := by
 obtain ⟨kind, name, other, third, at_, n, bytes, bits, order, on, fk, keep, picks⟩ := a
 intro ws
 by_cases h1 : nameB name = true <;> by_cases h2 : nameB other = true <;>
  simp [telF, telL, onlyOk, okL1, onlyX, takeL1, nilAct, letS, Str_bs, h1, h2, PAct.mk.injEq, and_assoc, eq_comm]
theorem core_all (a : PAct) (k : Nat) (hk : k < 23) : Core (lettersL (k + 1 : Nat)) a := by
 match k, hk with
 | 0, _ => exact core0 a
 | 1, _ => exact core1 a
 | 2, _ => exact core2 a
 | 3, _ => exact core3 a
 | 4, _ => exact core4 a
 | 5, _ => exact core3 a
 | 6, _ => exact core5 a
 | 7, _ => exact core2 a
 | 8, _ => exact core6 a
 | 9, _ => exact core6 a
 | 10, _ => exact core6 a
 | 11, _ => exact core7 a
 | 12, _ => exact core6 a
 | 13, _ => exact core8 a
 | 14, _ => exact core6 a
 | 15, _ => exact core9 a
 | 16, _ => exact core10 a
 | 17, _ => exact core2 a
 | 18, _ => exact core11 a
 | 19, _ => exact core12 a
 | 20, _ => exact core6 a
 | 21, _ => exact core2 a
 | 22, _ => exact core2 a
 | k + 23, h => exact absurd h (by omega)
theorem x_letters (k : Nat) (hk : k < 23) (h : (120 : UInt8) ∉ lettersL (k + 1 : Nat)) (a : PAct) : (onlyX (lettersL (k + 1 : Nat)) a (nilAct a.kind)).bytes = [] := by
 match k, hk with
 | 0, _ => rfl
 | 1, _ => rfl
 | 2, _ => rfl
 | 3, _ => rfl
 | 4, _ => exact absurd h (by decide)
 | 5, _ => rfl
 | 6, _ => exact absurd h (by decide)
 | 7, _ => rfl
 | 8, _ => rfl
 | 9, _ => rfl
 | 10, _ => rfl
 | 11, _ => rfl
 | 12, _ => rfl
 | 13, _ => rfl
 | 14, _ => rfl
 | 15, _ => rfl
 | 16, _ => rfl
 | 17, _ => rfl
 | 18, _ => rfl
 | 19, _ => rfl
 | 20, _ => rfl
 | 21, _ => rfl
 | 22, _ => rfl
 | k + 23, h => exact absurd h (by omega)
theorem onlyX_rest (f : List UInt8) (a : PAct) : ∀ x : PAct, (onlyX f a x).fk = x.fk ∧ (onlyX f a x).keep = x.keep ∧ (onlyX f a x).picks = x.picks := by
 induction f with
 | nil => intro x; exact ⟨rfl, rfl, rfl⟩
 | cons c f ih =>
  intro x
  have h1 : (takeL1 c a x).fk = x.fk ∧ (takeL1 c a x).keep = x.keep ∧ (takeL1 c a x).picks = x.picks := by
   unfold takeL1
   repeat' split
   all_goals exact ⟨rfl, rfl, rfl⟩
  have := ih (takeL1 c a x)
  exact ⟨this.1.trans h1.1, this.2.1.trans h1.2.1, this.2.2.trans h1.2.2⟩
theorem form_ne (k : Nat) (hk : k < 25) : formL (k + 1 : Nat) ≠ [] := by
 match k, hk with
 | 0, _ | 1, _ | 2, _ | 3, _ | 4, _ | 5, _ | 6, _ | 7, _ | 8, _ | 9, _ | 10, _ | 11, _ | 12, _ | 13, _ | 14, _ | 15, _ | 16, _ | 17, _ | 18, _ | 19, _ | 20, _ | 21, _ | 22, _ | 23, _ | 24, _ => exact (by decide)
 | k + 25, h => exact absurd h (by omega)

/-- An act may be just when it is told whole. -/
theorem may_iff (a : PAct) (k : Nat) (hk : k < 25) (hak : a.kind = (k + 1 : Nat)) (ws : List ByteArray) : telK a.kind a = some (ws, nilAct a.kind) ↔ (mayB a = true ∧ ws = (restW a).map Str) := by
 have hform : decide (Str (formL a.kind) = Str []) = false := by
  rw [decide_eq_false_iff_not, Str.inj, hak]; exact form_ne k hk
 by_cases h24 : a.kind = 24
 ·-- a fate
  have hl : lettersL a.kind = [] := by rw [h24]; rfl
  have hfull : fullX a = { nilAct a.kind with fk := a.fk, keep := a.keep } := by
   unfold fullX
   simp only
   rw [if_neg (by omega), if_pos h24, hl]
   rfl
  rw [telK, if_pos h24]
  simp only [mayB, hl, onlyOk, List.all_nil, Bool.true_and, Bool.and_eq_true, sameB_iff, hfull, Bool.not_eq_true', badB, bad1, hform, Bool.false_or, Bool.or_eq_false_iff, decide_eq_false_iff_not, Bool.and_eq_false_iff, Bool.not_eq_false', decide_eq_true_eq, restW, List.map_nil, List.nil_append, fateW, if_pos h24]
  obtain ⟨kind, name, other, third, at_, n, bytes, bits, order, on, fk, keep, picks⟩ := a
  simp only at h24 hak
  subst h24
  unfold fateS
  simp only
  by_cases h0 : fk = 0
  ·subst h0
   simp only [if_pos, nilAct, Option.some.injEq, Prod.mk.injEq, PAct.mk.injEq, true_and, and_true]
   constructor
   ·rintro ⟨rfl, rfl, rfl, rfl, rfl, rfl, rfl, rfl, rfl, rfl, rfl, rfl⟩
    simp
   ·rintro ⟨⟨⟨_, h1⟩, h2⟩, rfl⟩
    obtain ⟨rfl, rfl, rfl, rfl, rfl, rfl, rfl, rfl, rfl, rfl⟩ := h2
    have hk0 : keep = 0 := h1.resolve_left (by simp)
    subst hk0
    simp
  ·rw [if_neg h0]
   by_cases h12 : fk = 1 ∨ fk = 2
   ·rw [if_pos h12]
    simp only [nilAct, Option.some.injEq, Prod.mk.injEq, PAct.mk.injEq, true_and, and_true, if_neg h0]
    constructor
    ·rintro ⟨rfl, rfl, rfl, rfl, rfl, rfl, rfl, rfl, rfl, rfl, rfl⟩
     refine ⟨⟨⟨⟨⟨⟨by simp, by simp⟩, by omega⟩, by omega⟩, .inl h0⟩, by simp⟩, by simp⟩
    ·rintro ⟨⟨_, h2⟩, rfl⟩
     obtain ⟨rfl, rfl, rfl, rfl, rfl, rfl, rfl, rfl, rfl, rfl⟩ := h2
     simp
   ·rw [if_neg h12]
    constructor
    ·intro h; cases h
    ·rintro ⟨⟨⟨⟨⟨⟨_, _⟩, h1⟩, h2⟩, _⟩, _⟩, _⟩
     omega
 ·by_cases h25 : a.kind = 25
  ·have hl : lettersL a.kind = [] := by rw [h25]; rfl
   have hfull : fullX a = { nilAct a.kind with picks := a.picks } := by
    unfold fullX
    simp only
    rw [if_pos h25, if_neg h24, hl]
    rfl
   rw [telK, if_neg h24, if_pos h25]
   simp only [mayB, hl, onlyOk, List.all_nil, Bool.true_and, Bool.and_eq_true, sameB_iff, hfull, Bool.not_eq_true', badB, bad1, hform, Bool.false_or, Bool.or_eq_false_iff, decide_eq_false_iff_not, Bool.and_eq_false_iff, Bool.not_eq_false', decide_eq_true_eq, restW, List.map_nil, List.nil_append, fateW, if_neg h24]
   obtain ⟨kind, name, other, third, at_, n, bytes, bits, order, on, fk, keep, picks⟩ := a
   simp only at h25 hak
   subst h25
   unfold picksS
   simp only [List.map_map]
   by_cases h0 : picks.length ≤ 65536
   ·rw [if_pos h0]
    simp only [nilAct, Option.some.injEq, Prod.mk.injEq, PAct.mk.injEq, true_and, and_true]
    constructor
    ·rintro ⟨rfl, rfl, rfl, rfl, rfl, rfl, rfl, rfl, rfl, rfl, rfl, rfl⟩
     refine ⟨⟨⟨⟨⟨⟨by simp, by omega⟩, by omega⟩, by omega⟩, .inr rfl⟩, by simp⟩, rfl⟩
    ·rintro ⟨⟨_, h2⟩, rfl⟩
     obtain ⟨rfl, rfl, rfl, rfl, rfl, rfl, rfl, rfl, rfl, rfl, rfl⟩ := h2
     exact ⟨rfl, by simp⟩
   ·rw [if_neg h0]
    constructor
    ·intro h; cases h
    ·rintro ⟨⟨⟨⟨⟨⟨_, h1⟩, _⟩, _⟩, _⟩, _⟩, _⟩
     omega
  ·have hk23 : k < 23 := by omega
   have hfull : fullX a = onlyX (lettersL a.kind) a (nilAct a.kind) := by
    unfold fullX
    simp only
    rw [if_neg h25, if_neg h24]
   have hc := core_all a k hk23 ws
   rw [← hak] at hc
   rw [telK, if_neg h24, if_neg h25, hc]
   have hr := onlyX_rest (lettersL a.kind) a (nilAct a.kind)
   have hx := x_letters k hk23
   rw [← hak] at hx
   have hxa := fun h => hx h a
   clear hx
   simp only [mayB, Bool.and_eq_true, sameB_iff, hfull, Bool.not_eq_true', badB, bad1, hform, Bool.false_or, Bool.or_eq_false_iff, decide_eq_false_iff_not, Bool.and_eq_false_iff, Bool.not_eq_false', decide_eq_true_eq, restW, fateW, if_neg h24, List.nil_append]
   constructor
   ·rintro ⟨h1, h2, h3, h4⟩
    rw [← h4] at hr hxa
    obtain ⟨r1, r2, r3⟩ := hr
    refine ⟨⟨⟨⟨⟨⟨?_, ?_⟩, ?_⟩, ?_⟩, ?_⟩, h1, h4.symm⟩, ?_⟩
    ·by_cases hm : (120 : UInt8) ∈ lettersL a.kind
     ·have := h2 hm; omega
     ·rw [hxa hm]; simp
    ·rw [r3]; simp [nilAct]
    ·rw [r1]; simp [nilAct]
    ·rw [r1]; simp [nilAct]
    ·right; rw [r2]; rfl
    ·rw [h3, r3]; simp [nilAct]
   ·rintro ⟨⟨⟨⟨⟨⟨h1, h2⟩, h3⟩, h4⟩, h5⟩, h6, h7⟩, h8⟩
    rw [h7] at hr
    refine ⟨h6, fun _ => by omega, ?_, h7.symm⟩
    rw [h8, hr.2.2]
    simp [nilAct]
end Go.Proofs.YtbfbjgakmnckbaaGreatDoor
namespace Go.Proofs.YtbfbjgakmnckbaaGreatDoor
open Go Go.RowKit Eng
attribute [local irreducible] Br Rn RnU Cl RdG CpG Ld Rd Lp Dr Oth Cut fin Fits Eng.Enters Md NA

/-- What is asked of the library's variables, whatever they hold. -/
structure LW (w : World) : Prop where
 ml : ∃ m, w.cell? ⟨0, 0, none⟩ = some (.int .i64 m)
/-- .. where a number may be none: the two errors are errors. -/
structure ErrW (w : World) : Prop where
 es : ∃ ev, w.cell? ⟨6, 0, none⟩ = some ev ∧ (ev = .nilIface ∨ ∃ te pe, ev = .iface te pe)
 er : ∃ ev, w.cell? ⟨7, 0, none⟩ = some ev ∧ (ev = .nilIface ∨ ∃ te pe, ev = .iface te pe)
theorem cell_fr {w w' : World} (h : Fr (fun _ => False) w w') {p : Addr} {v : Value} (hc : w.cell? p = some v) : w'.cell? p = some v :=
 (World.cell?_of_block (h.block p.block (World.block_lt_of_cell? w p hc) id)).trans hc
theorem LW.fr {w w' : World} (h : LW w) (hf : Fr (fun _ => False) w w') : LW w' :=
 ⟨let ⟨m, hm⟩ := h.ml; ⟨m, cell_fr hf hm⟩⟩
theorem ErrW.fr {w w' : World} (h : ErrW w) (hf : Fr (fun _ => False) w w') : ErrW w' :=
 ⟨let ⟨m, hm, h2⟩ := h.es; ⟨m, cell_fr hf hm, h2⟩, let ⟨m, hm, h2⟩ := h.er; ⟨m, cell_fr hf hm, h2⟩⟩

theorem join_eq (ws : List (List UInt8)) : Lib.join ws [32] = joinB ws := by
 cases ws with
 | nil => rfl
 | cons x r =>
  rw [Lib.join_cons, joinB, Lib.joinTail]
  simp only [List.flatMap]
  rfl
/-- A row that is owned: where its cells lie. -/
theorem row_at {w : World} {A : Option Addr} {cap n t : Nat} {xs : List Value} (h : w.ownsRow 0 t 1 (.slice A n cap) n xs) (hn : 0 < n) : ∃ b, A = some ⟨b, 0, none⟩ ∧ b < w.heap.size ∧ n ≤ cap ∧ xs.length = n ∧ ∀ (j : Nat) v, xs[j]? = some v → w.cell? ⟨b, j, none⟩ = some v := by
 have hl : xs.length = n := by have := h.1; omega
 rcases h.2 with ⟨_, h0⟩ | ⟨g, cap', cur, hv, _, hb, hc, _⟩
 ·omega
 ·injection hv with e1 e2 e3
  subst e1 e3
  refine ⟨g, rfl, (Array.getElem?_eq_some_iff.1 hb).1, hc, hl, fun j v hj => ?_⟩
  obtain ⟨b, hb', hcell⟩ := row_cell h hj
  injection hb' with hb'; injection hb' with hb'
  subst hb'
  exact hcell
theorem join_any {A : Option Addr} {cap n : Nat} {ws : List ByteArray} {w : World} (h : w.ownsRow 0 9 1 (.slice A n cap) n (ws.map Value.string)) (hn : 0 < n) (hlen : (joinB (ws.map bs)).length ≤ 140737488355328) (hn2 : n ≤ 140737488355328) :
  Calls Tryz.prog 71 #[.slice A n cap, .string (Str [32])] w fun e w' => e = .returned (.string (Str (joinB (ws.map bs)))) ∧ Fr (fun _ => False) w w' := by
 obtain ⟨b, rfl, hb, hc, hl, hcells⟩ := row_at h hn
 rw [List.length_map] at hl
 have := Tryz.strings_Join b 0 cap ws (Str [32]) w (fun j x hj => by rw [Nat.zero_add]; exact hcells j _ (by rw [List.getElem?_map, hj]; rfl)) hb (by omega) (by omega)
 rw [show (ws.map fun x => x.data.toList) = ws.map bs from rfl, show (Str [32]).data.toList = [32] from rfl, join_eq, hl] at this
 refine (this hlen).mono ?_
 rintro e w' ⟨rfl, hb⟩
 exact ⟨rfl, Fr.of_below hb (Nat.le_refl _)⟩
theorem join_enters : Eng.Enters Tryz.prog 71 := enters_mk fun _ _ => by kernel_rfl

/-! ## Split -/
theorem index32 (s : ByteArray) : Lib.indexB s (Str [32]) = Lib.indexByte (bs s) 32 := Lib.index_one _ _
theorem split_words : ∀ (k : Nat) (s : ByteArray), Lib.countB s (Str [32]) = k → Lib.splitB (Str [32]) 0 k s = (wordsL (bs s)).map Str
 | k, s, hk => by
  rcases Lib.indexB_cases s (Str [32]) with hm | ⟨i, hi, hle⟩
  ·rw [Lib.splitB_miss _ _ _ _ hm, wordsL_one]
   ·simp [Str_bs]
   ·intro hmem
    rw [index32] at hm
    obtain ⟨j, hj, he⟩ := List.getElem_of_mem hmem
    exact Lib.indexByte_none hm j (by rw [List.getElem?_eq_getElem hj, he])
  ·have hi2 := hi
   rw [index32] at hi2
   obtain ⟨h1, h2⟩ := Lib.indexByte_some hi2
   have hc := Lib.countB_hit s (Str [32]) i (by decide) hi
   cases k with
   | zero => omega
   | succ k =>
    have hlt : i < (bs s).length := (List.getElem?_eq_some_iff.1 h1).1
    have hsplit : bs s = (bs s).take i ++ 32 :: (bs s).drop (i + 1) := by
     conv => lhs; rw [← List.take_append_drop i (bs s)]
     rw [List.drop_eq_getElem_cons hlt]
     have : (bs s)[i] = 32 := by rw [List.getElem?_eq_getElem hlt] at h1; exact Option.some.inj h1
     rw [this]
    have hno : (32 : UInt8) ∉ (bs s).take i := by
     intro hmem
     obtain ⟨j, hj, he⟩ := List.getElem_of_mem hmem
     rw [List.length_take] at hj
     rw [List.getElem_take] at he
     exact h2 j (by omega) (by rw [List.getElem?_eq_getElem (by omega), he])
    have e1 : s.extract 0 (i + 0) = Str ((bs s).take i) := by
     conv => lhs; rw [← Str_bs s]
     rw [Str.extract]; simp
    have e2 : s.extract (i + (Str [32]).size) s.size = Str ((bs s).drop (i + 1)) := by
     conv => lhs; rw [← Str_bs s]
     rw [Str.extract, Str.size]
     show Str (((bs s).drop (i + 1)).take ((bs s).length - (i + 1))) = _
     rw [List.take_of_length_le (by simp)]
    rw [Lib.splitB_hit _ _ _ _ i hi, e1, e2]
    rw [e2] at hc
    rw [split_words k (Str ((bs s).drop (i + 1))) (by omega), bs_Str]
    have hw : wordsL (bs s) = (bs s).take i :: wordsL ((bs s).drop (i + 1)) := by
     conv => lhs; rw [hsplit]
     exact wordsL_blank _ _ hno
    show _ = (wordsL (bs s)).map Str
    rw [hw]
    rfl
theorem split_len {l : List UInt8} : Lib.countB (Str l) (Str [32]) + 1 = (wordsL l).length := by
 have h := split_words _ (Str l) rfl
 have h2 := Lib.splitB_all (Str [32]) (by decide) 0 _ (Str l) rfl
 rw [h, List.length_map, bs_Str] at h2
 exact h2.symm
theorem split_any (l : List UInt8) (w : World) (hw : LW w) (hl : l.length ≤ 4294967280) :
  Ctr Tryz.prog 35 [.string (Str l), .string (Str [32])] [] (fun e m' => ∃ b, e = .returned (.slice (some ⟨b, 0, none⟩) (wordsL l).length (wordsL l).length) ∧ m' = [.blk b (.cells (strsOf (wordsL l)).toArray 9)]) w := by
 obtain ⟨m, hm⟩ := hw.ml
 refine (Tryz.strings_Split (Str l) (Str [32]) m w (by rw [Str.size]; omega) hm (by decide)).mono ?_
 rintro e w' ⟨rfl, rfl⟩
 refine ⟨_, ⟨w.heap.size, by rw [split_len], rfl⟩, ?_⟩
 have e1 : (Lib.splitB (Str [32]) 0 (Lib.countB (Str l) (Str [32])) (Str l)).map Value.string = strsOf (wordsL l) := by
  rw [split_words _ (Str l) rfl, bs_Str, List.map_map]; rfl
 rw [e1]
 exact (MemOk.nil w _).alloc _
theorem split_enters : Eng.Enters Tryz.prog 35 := enters_mk fun _ _ => by kernel_rfl

/-! ## ParseInt -/
theorem bytesW_fr (w : World) (e : TypeId) (s : ByteArray) : Fr (fun _ => False) w (Lib.bytesWorld w e s) := Fr.of_below (Lib.bytesWorld_below w e s) (Nat.le_refl _)
/-- The word is a number. -/
def OkP (l : List UInt8) : Prop := ∃ v, Lib.parseIntB 64 l = .ok v
/-- Words that are read as numbers are numbers, or the two errors are errors. -/
def LWW (ws : List (List UInt8)) (w : World) : Prop := ErrW w ∨ ∀ s ∈ ws, OkP s
/-- .. but the first word. -/
def LWT (ws : List (List UInt8)) (w : World) : Prop := ErrW w ∨ ∀ s ∈ ws.tail, OkP s
def LWK (k : Nat) (ws : List (List UInt8)) (w : World) : Prop := LWT ws w ∧ (k = 24 → LWW ws w)
theorem LWT.drop {ws ws' : List (List UInt8)} {w : World} (h : LWT ws w) (hs : ∀ s ∈ ws', s ∈ ws.tail) : LWW ws' w := h.imp_right fun h s hm => h s (hs s hm)
theorem LWW.drop {ws ws' : List (List UInt8)} {w : World} (h : LWW ws w) (hs : ∀ s ∈ ws', s ∈ ws) : LWW ws' w := h.imp_right fun h s hm => h s (hs s hm)
theorem LWW.head {s : List UInt8} {ws : List (List UInt8)} {w : World} (h : LWW (s :: ws) w) : ErrW w ∨ OkP s := h.imp_right fun h => h s (List.mem_cons_self ..)
theorem parse_any (l : List UInt8) (w : World) (hw : ErrW w ∨ OkP l) (hl : l.length ≤ 281474976710656) :
  Calls Tryz.prog 171 #[.string (Str l), .int .i64 10, .int .i64 64] w fun e w' => ((∃ v, Lib.parseIntB 64 l = .ok v ∧ e = .returned (.tuple #[.int .i64 v, .nilIface])) ∨ ((∀ v, Lib.parseIntB 64 l ≠ .ok v) ∧ ∃ n t N, e = .returned (.tuple #[.int .i64 n, .iface t (.pointer (some ⟨N, 0, none⟩))]))) ∧ Fr (fun _ => False) w w' := by
 have hsz := Str.size l
 cases hp : Lib.parseIntB 64 l
 ·rename_i v
  refine (Tryz.strconv_ParseInt_10_at64_ok (Str l) (by omega) v hp w).mono ?_
  rintro e w' ⟨rfl, rfl | ⟨t, rfl⟩⟩
  ·exact ⟨.inl ⟨v, rfl, rfl⟩, Fr.refl _ _⟩
  ·exact ⟨.inl ⟨v, rfl, rfl⟩, bytesW_fr _ _ _⟩
 ·obtain ⟨ev, h1, h2⟩ := (hw.resolve_right fun ⟨v, hv⟩ => by rw [hp] at hv; cases hv).es
  have hc : Calls Tryz.prog 171 #[.string (Str l), .int .i64 10, .int .i64 64] w fun e w' => ∃ N, e = .returned (.tuple #[.int .i64 (0), .iface 219 (.pointer (some ⟨N, 0, none⟩))]) ∧ w.heap.size ≤ N ∧ w'.heap[N]? = some (.cells #[.string ⟨#[80, 97, 114, 115, 101, 73, 110, 116]⟩, .string (Str l), ev] 224 (0, 0)) ∧ Below w.heap.size w w' := Any.strconv_ParseInt_10_at64_syntax Tryz.laysC174 (Str l) (by omega) hp ev w h1 h2
  refine hc.mono ?_
  rintro e w' ⟨N, rfl, _, _, hb⟩
  exact ⟨.inr ⟨(fun v hv => by cases hv), _, _, N, rfl⟩, Fr.of_below hb (Nat.le_refl _)⟩
 ·obtain ⟨ev, h1, h2⟩ := (hw.resolve_right fun ⟨v, hv⟩ => by rw [hp] at hv; cases hv).er
  refine (Tryz.strconv_ParseInt_10_at64_range (Str l) (by omega) hp ev w h1 h2).mono ?_
  rintro e w' ⟨N, rfl, _, _, hb⟩
  exact ⟨.inr ⟨(fun v hv => by cases hv), _, _, N, rfl⟩, Fr.of_below hb (Nat.le_refl _)⟩
theorem parse_enters : Eng.Enters Tryz.prog 171 := enters_mk fun _ _ => by kernel_rfl

/-! ## Equal -/
theorem bytesOf_nums (bs : List UInt8) : Lib.bytesOf (numsOf bs) = bs := by
 unfold Lib.bytesOf numsOf
 rw [List.map_map]
 conv => rhs; rw [← List.map_id bs]
 apply List.map_congr_left
 intro x _
 simp
theorem equalB_any (xs ys : List UInt8) (A A' : Option Addr) (c c' : Nat) (w : World) (h : BytsIn w A xs) (h' : BytsIn w A' ys) :
  Calls Tryz.prog 46 #[.slice A xs.length c, .slice A' ys.length c'] w fun e w' => e = .returned (.bool (decide (xs = ys))) ∧ Fr (fun _ => False) w w' := by
 have h1 := run_bytes' (P := Tryz.prog) (s := 23) (d := 9) ty23_ok rfl ty5_ok rfl ty9_ok rfl h c
 have h2 := run_bytes' (P := Tryz.prog) (s := 23) (d := 9) ty23_ok rfl ty5_ok rfl ty9_ok rfl h' c'
 rw [numsOf_length] at h1 h2
 refine (Tryz.bytes_Equal _ _ _ _ w h1 h2).mono ?_
 rintro e w' ⟨rfl, rfl⟩
 rw [bytesOf_nums, bytesOf_nums]
 exact ⟨by rw [show (xs == ys) = decide (xs = ys) from by rw [Bool.eq_iff_iff]; simp], Fr.refl _ _⟩
theorem equalI_any (xs ys : List Int) (A A' : Option Addr) (c c' : Nat) (w : World) (h : IntsIn .i64 w A xs) (h' : IntsIn .i64 w A' ys) (hl : xs.length ≤ 140737488355328) (hl' : ys.length ≤ 140737488355328) :
  Calls Tryz.prog 47 #[.slice A xs.length c, .slice A' ys.length c'] w fun e w' => e = .returned (.bool (decide (xs = ys))) ∧ Fr (fun _ => False) w w' := by
 by_cases hlen : xs.length = ys.length
 ·by_cases h0 : xs.length = 0
  ·have e1 : xs = [] := List.eq_nil_of_length_eq_zero h0
   have e2 : ys = [] := List.eq_nil_of_length_eq_zero (by omega)
   subst e1 e2
   refine (Tryz.slices_Equal_int_empty A A' c 0 c' w (by omega)).mono ?_
   rintro e w' ⟨rfl, rfl⟩
   exact ⟨rfl, Fr.refl _ _⟩
  ·obtain ⟨b, o, rfl, hc⟩ := h (by omega)
   obtain ⟨b', o', rfl, hc'⟩ := h' (by omega)
   refine (Tryz.slices_Equal_int b o xs.length c b' o' ys.length c' xs ys w (Nat.le_refl _) (Nat.le_refl _) (by omega) (by omega) hc hc').mono ?_
   rintro e w' ⟨rfl, q, rfl⟩
   rw [List.take_length, List.take_length]
   exact ⟨by rw [show (xs == ys) = decide (xs = ys) from by rw [Bool.eq_iff_iff]; simp], (Fr.refl _ _).drewN q⟩
 ·refine (Tryz.slices_Equal_int_lens A A' xs.length c ys.length c' w hlen).mono ?_
  rintro e w' ⟨rfl, rfl⟩
  exact ⟨by rw [decide_eq_false (fun h => hlen (by rw [h]))], Fr.refl _ _⟩
theorem equalB_enters : Eng.Enters Tryz.prog 46 := enters_mk fun _ _ => by kernel_rfl
theorem equalI_enters : Eng.Enters Tryz.prog 47 := enters_mk fun _ _ => by kernel_rfl
end Go.Proofs.YtbfbjgakmnckbaaGreatDoor
namespace Go.Proofs.YtbfbjgakmnckbaaGreatDoor
open Go Go.RowKit Eng
attribute [local irreducible] Br Rn RnU Cl RdG CpG Ld Rd Lp Dr Oth Cut fin Fits Eng.Enters Md NA

theorem and_end (b : Bool) (x y : Bool) (h : x = y) : (b && x) = (b && y) := by rw [h]
set_option maxRecDepth 100000 in
set_option maxHeartbeats 1000000 in
theorem ssame_any (a b : PAct) (bA bA' pA pA' : Option Addr) (bc bc' pc pc' : Nat) (w : World) (ha : ActIn w a bA pA) (hb : ActIn w b bA' pA') :
  Calls Tryz.prog 15 #[.agg (actL a bA bc pA pc).toArray, .agg (actL b bA' bc' pA' pc').toArray] w fun e w' => e = .returned (.bool (sameB a b)) ∧ Fr (fun _ => False) w w' := by
 have h1 := fun w' (hf : Fr (fun _ => False) w w') => Byts.in_ (BytsIn.byts (cx := CX 0 [] w) (m := []) ha.bytes (fun _ h => h)) (w := w') ((MemOk.nil w _).same hf)
 have h2 := fun w' (hf : Fr (fun _ => False) w w') => Byts.in_ (BytsIn.byts (cx := CX 0 [] w) (m := []) hb.bytes (fun _ h => h)) (w := w') ((MemOk.nil w _).same hf)
 have h3 := fun w' (hf : Fr (fun _ => False) w w') => Ints.in_ (IntsIn.ints (cx := CX 0 [] w) (m := []) ha.picks (fun _ h => h)) (w := w') ((MemOk.nil w _).same hf)
 have h4 := fun w' (hf : Fr (fun _ => False) w w') => Ints.in_ (IntsIn.ints (cx := CX 0 [] w) (m := []) hb.picks (fun _ h => h)) (w := w') ((MemOk.nil w _).same hf)
 have k3 := ha.ok.picks
 have k4 := hb.ok.picks
 clear ha hb
 refine enter (cx := ⟨Tryz.prog, 87, w, fun _ => False, tab, [], [46, 47], [], []⟩) [(0, .agg (actL a bA bc pA pc).toArray), (1, .agg (actL b bA' bc' pA' pc').toArray)] tab_ok Tryz.func15 rfl rfl rfl rfl (MemOk.nil w _) ?_
 conv => whnf
 (repeat ((first | refine ⟨_, cpg equalB_enters (fun _ w' hm => equalB_any _ _ _ _ _ _ w' (h1 w' hm.fr) (h2 w' hm.fr)), ?_⟩ | refine ⟨_, cpg equalI_enters (fun _ w' hm => equalI_any _ _ _ _ _ _ w' (h3 w' hm.fr) (h4 w' hm.fr) k3 k4), ?_⟩ | refine ⟨_, Rd.g (rd_all fun w => fate_eqlS _ _ _ _ _ _ w), ?_⟩ | refine stp (by (repeat constructor); first | done | fail) ?_ | refine stn (by (repeat constructor); first | done | fail) ?_ | refine sto (by (repeat constructor); first | done | fail) (by first | omega | (simp only; omega)) ?_ | refine .mk fun Ap capp => ?_ | refine ⟨?_, trivial⟩ | intro _); conv => whnf))
 refine fin1 rfl rfl (fun w' hm => ⟨?_, hm.fr⟩)
 rfl
theorem ssame_enters : Eng.Enters Tryz.prog 15 := enters_mk fun _ _ => by kernel_rfl
end Go.Proofs.YtbfbjgakmnckbaaGreatDoor
namespace Go.Proofs.YtbfbjgakmnckbaaGreatDoor
open Go Go.RowKit Eng
attribute [local irreducible] Br Rn RnU Cl RdG CpG Ld Rd Lp Dr Oth Cut fin Fits Eng.Enters Md NA

theorem NumAct.fr {w w' : World} {x : PAct} (h : NumAct w x) (hf : Fr (fun _ => False) w w') : NumAct w' x :=
 ⟨h.at_.fr hf, h.n.fr hf, h.bits.fr hf, h.order.fr hf, h.keep.fr hf, fun p hp => (h.picks p hp).fr hf⟩
theorem over_enters (k : Nat) (hk : k < 25) : Eng.Enters Tryz.prog (overF k) := by
 match k, hk with
 | 0, _ | 1, _ | 2, _ | 3, _ | 4, _ | 5, _ | 6, _ | 7, _ | 8, _ | 9, _ | 10, _ | 11, _ | 12, _ | 13, _ | 14, _ | 15, _ | 16, _ | 17, _ | 18, _ | 19, _ | 20, _ | 21, _ | 22, _ | 23, _ | 24, _ => exact enters_mk fun _ _ => (by kernel_rfl)
 | k + 25, h => exact absurd h (by omega)
/-- What the closure that line hands to face owns. -/
abbrev LM (tB : Nat) (A : Option Addr) (cap n : Nat) (xs : List Value) (aB : Nat) (x : PAct) (bA pA : Option Addr) (bc pc : Nat) (kB i cB : Nat) : Mem :=
 [.blk tB (.cells #[.slice A n cap] 125), .row A cap n 9 1 xs, .blk aB (.cells (actL x bA bc pA pc).toArray 29), .blk kB (.cells (kindV i).toArray 78), .blk cB (.cells #[.pointer (some ⟨tB, 0, none⟩)] 124)]
def LineR (r : Option (List ByteArray × PAct)) (tB n : Nat) (xs : List Value) (aB : Nat) (x : PAct) (bA pA : Option Addr) (kB i cB : Nat) (e : Ending) (m' : Mem) : Prop :=
 (r = none ∧ e = .panicked (refusal 2)) ∨ ∃ ws x' A' cap' bA' bc' pA' pc' N XS, r = some (ws, x') ∧ e = .returned (.tuple #[]) ∧ x'.Ok ∧ (∀ w, BytsIn w bA x.bytes → BytsIn w bA' x'.bytes) ∧ (∀ w, IntsIn .i64 w pA x.picks → IntsIn .i64 w pA' x'.picks) ∧ N = n + ws.length ∧ XS = xs ++ ws.map Value.string ∧ m' = LM tB A' cap' N XS aB x' bA' pA' bc' pc' kB i cB
set_option maxRecDepth 100000 in
theorem line1_any (tB : Nat) (A : Option Addr) (cap n : Nat) (xs : List Value) (aB : Nat) (x : PAct) (bA pA : Option Addr) (bc pc : Nat) (kB i cB : Nat) (w : World) (hn : n ≤ 900000000) (hi : i < 25) (hx : x.Ok) (hm : MemOk w (Foot (LM tB A cap n xs aB x bA pA bc pc kB i cB)) (LM tB A cap n xs aB x bA pA bc pc kB i cB) w)
  (hv : Stb (LM tB A cap n xs aB x bA pA bc pc kB i cB) w (fun w => NumAct w x)) (hb : Stb (LM tB A cap n xs aB x bA pA bc pc kB i cB) w (fun w => BytsIn w bA x.bytes)) (hp : Stb (LM tB A cap n xs aB x bA pA bc pc kB i cB) w (fun w => IntsIn .i64 w pA x.picks)) :
  Ctr Tryz.prog 70 [.pointer (some ⟨kB, 0, none⟩), .pointer (some ⟨aB, 0, none⟩), .pointer (some ⟨cB, 0, none⟩)] (LM tB A cap n xs aB x bA pA bc pc kB i cB) (LineR (telK (i + 1 : Nat) x) tB n xs aB x bA pA kB i cB) w := by
 refine enter (cx := CXS 8 [] w (Foot (LM tB A cap n xs aB x bA pA bc pc kB i cB))) [(0, .pointer (some ⟨kB, 0, none⟩)), (1, .pointer (some ⟨aB, 0, none⟩)), (2, .pointer (some ⟨cB, 0, none⟩))] tab_ok Tryz.func70 rfl rfl rfl rfl hm ?_
 conv => whnf
 (repeat ((first | refine stp (by (repeat constructor); first | done | fail) ?_ | refine stn (by (repeat constructor); first | done | fail) ?_ | refine sto (by (repeat constructor); first | done | fail) (by first | omega | (simp only; omega)) ?_ | refine .mk fun Ap capp => ?_ | refine ⟨?_, trivial⟩ | intro _); conv => whnf))
 refine ⟨over_enters i hi, cl_mem (.cons .here (.cons .here (.cons .here .nil))) (fun w' hm' => over_any _ _ _ _ _ _ _ _ _ _ _ w' (by omega) hm'.part hx (stb hm' (fun w'' hm'' => hv w'' hm''.fr)) (stb hm' (fun w'' hm'' => hb w'' hm''.fr)) (stb hm' (fun w'' hm'' => hp w'' hm''.fr)) i hi) ?_⟩
 rintro e m' (⟨h1, rfl⟩ | ⟨ws, x', A', cap', bA', bc', pA', pc', N, XS, h1, rfl, hx', hN, hB, hP, hl, hX, rfl⟩)
 ·exact fin_panic (fun w' hm => ⟨_, .inl ⟨h1, rfl⟩, hm⟩)
 ·conv => whnf
  refine fin0 rfl (fun w' hm => ?_) (by first | exact .inr rfl | exact .inl rfl)
  exact ⟨_, .inr ⟨ws, x', A', cap', bA', bc', pA', pc', N, XS, h1, rfl, hx', hB, hP, hl, hX, rfl⟩, hm.sel (by (repeat constructor); first | done | fail)⟩
theorem line1_enters : Eng.Enters Tryz.prog 70 := enters_mk fun _ _ => by kernel_rfl

/-! ## how long a line is -/
theorem join_length : ∀ (ws : List (List UInt8)) (B : Nat), (∀ w ∈ ws, w.length ≤ B) → (joinB ws).length ≤ ws.length * (B + 1)
 | [], B, _ => by simp [joinB]
 | w :: r, B, h => by
  have h1 := h w (List.mem_cons_self ..)
  have h2 : ∀ r : List (List UInt8), (∀ w ∈ r, w.length ≤ B) → (r.flatMap fun x => 32 :: x).length ≤ r.length * (B + 1) := by
   intro r
   induction r with
   | nil => intro _; simp
   | cons x r ih =>
    intro h
    have := ih (fun y hy => h y (List.mem_cons_of_mem _ hy))
    have hx := h x (List.mem_cons_self ..)
    simp only [List.flatMap_cons, List.length_append, List.length_cons, Nat.add_mul]
    omega
  have := h2 r (fun y hy => h y (List.mem_cons_of_mem _ hy))
  simp only [joinB, List.length_append, List.length_cons, Nat.add_mul]
  omega
theorem itoa_len {n : Int} (h : -9223372036854775808 ≤ n ∧ n ≤ 9223372036854775807) : (Lib.itoa n).length ≤ 1048577 := by
 have := Lib.itoa_length_le n h.1 h.2
 omega
theorem hexF_len {bs : List UInt8} (h : bs.length ≤ 524288) : (hexF bs).length ≤ 1048577 := by
 unfold hexF
 split
 ·simp
 ·rw [hexs_length]; omega
theorem flagW_len (c : Int) (on : Bool) : (flagW c on).length ≤ 1048577 := by
 unfold flagW
 repeat' split
 all_goals simp
theorem word_len (k : Int) : (wordL k).length ≤ 1048577 := by
 have := (cutF_len (formL k)).1
 have := formL_len k
 show (cutF (formL k)).1.length ≤ _
 omega
theorem restW_len {a : PAct} (ha : a.Ok) (h : mayB a = true) : ∀ w ∈ restW a, w.length ≤ 1048577 := by
 intro w hw
 have hb := (may_bytes h).1
 have hok := okL1_mem (may_ok h)
 simp only [restW, List.mem_append, List.mem_map] at hw
 rcases hw with ⟨c, hc, rfl⟩ | hw | ⟨p, hp, rfl⟩
 ·have ho := hok c hc
  unfold okL1 at ho
  unfold letS
  by_cases h1 : c = 97
  ·rw [if_pos h1] at ho ⊢
   have := nameB_size ho
   rw [bs_size]; omega
  rw [if_neg h1] at ho ⊢
  by_cases h2 : c = 111
  ·rw [if_pos (.inl h2)] at ho
   rw [if_pos h2]
   subst h2
   simp only [Bool.or_eq_true, Bool.and_eq_true] at ho
   have := nameB_size (ho.resolve_right (fun hh => absurd hh.1 (by decide)))
   rw [bs_size]; omega
  rw [if_neg h2]
  by_cases h3 : c = 79
  ·rw [if_pos (.inr h3)] at ho
   rw [if_pos h3]
   split
   ·simp
   ·rename_i hne
    simp only [Bool.or_eq_true, Bool.and_eq_true, decide_eq_true_eq] at ho
    have := nameB_size (ho.resolve_right (fun hh => hne hh.2))
    rw [bs_size]; omega
  rw [if_neg (fun hh => hh.elim h2 h3)] at ho
  rw [if_neg h3]
  by_cases h4 : c = 116
  ·rw [if_pos h4] at ho ⊢
   have := nameB_size ho
   rw [bs_size]; omega
  rw [if_neg h4]
  split
  ·exact itoa_len ha.at_
  split
  ·exact itoa_len ha.n
  split
  ·exact itoa_len ha.bits
  split
  ·exact itoa_len ha.order
  split
  ·exact hexF_len hb
  ·exact flagW_len _ _
 ·unfold fateW at hw
  split at hw
  ·split at hw
   ·simp only [List.mem_singleton] at hw; subst hw; decide
   ·simp only [List.mem_cons, List.not_mem_nil, or_false] at hw
    rcases hw with rfl | rfl
    ·split <;> decide
    ·exact itoa_len ha.keep
  ·cases hw
 ·exact itoa_len (ha.picksR p hp)
theorem lineW_len {a : PAct} (h : mayB a = true) : (lineW a).length ≤ 65600 := by
 have h1 := (may_bytes h).2
 have h2 := (cutF_len (formL a.kind)).2
 have h3 := formL_len a.kind
 have h4 : (fateW a).length ≤ 2 := by
  unfold fateW
  repeat' split
  all_goals simp
 simp only [lineW, restW, List.length_cons, List.length_append, List.length_map, lettersL]
 omega
theorem line_len {a : PAct} (ha : a.Ok) (h : mayB a = true) : (lineL a).length ≤ 140737488355328 := by
 have h1 := join_length (lineW a) 1048577 (fun w hw => by
  rcases List.mem_cons.1 hw with rfl | hw
  ·exact word_len _
  ·exact restW_len ha h w hw)
 have h2 := lineW_len h
 have := Nat.mul_le_mul_right (1048577 + 1) h2
 exact Nat.le_trans h1 (by omega)
end Go.Proofs.YtbfbjgakmnckbaaGreatDoor
namespace Go.Proofs.YtbfbjgakmnckbaaGreatDoor
open Go Go.RowKit Eng
attribute [local irreducible] Br Rn RnU Cl RdG CpG Ld Rd Lp Dr Oth Cut fin Fits Eng.Enters Md NA

/-- An act lies in memory, and its numbers have Go's numerals. -/
structure ActW (w : World) (a : PAct) (bA pA : Option Addr) : Prop where
 act : ActIn w a bA pA
 num : NumAct w a
theorem ActIn.stb {a : PAct} {bA pA : Option Addr} {w w' : World} (h : ActIn w a bA pA) (hf : Fr (fun _ => False) w w') : ActIn w' a bA pA :=
 ⟨h.ok, Byts.in_ (BytsIn.byts (cx := CX 0 [] w) (m := []) h.bytes (fun _ h => h)) ((MemOk.nil w _).same hf), Ints.in_ (IntsIn.ints (cx := CX 0 [] w) (m := []) h.picks (fun _ h => h)) ((MemOk.nil w _).same hf)⟩
theorem ActW.stb {a : PAct} {bA pA : Option Addr} {w w' : World} (h : ActW w a bA pA) (hf : Fr (fun _ => False) w w') : ActW w' a bA pA := ⟨h.act.stb hf, h.num.fr hf⟩
theorem telL_kind {c : UInt8} {x x' : PAct} {s : ByteArray} (h : telL c x = some (s, x')) : x'.kind = x.kind := by
 unfold telL at h
 repeat' split at h
 all_goals first | cases h; rfl | cases h
theorem telF_kind : ∀ {f : List UInt8} {x x' : PAct} {ws : List ByteArray}, telF f x = some (ws, x') → x'.kind = x.kind
 | [], x, x', ws, h => by cases h; rfl
 | c :: f, x, x', ws, h => by
  simp only [telF] at h
  cases h1 : telL c x with
  | none => rw [h1] at h; cases h
  | some p =>
   rw [h1] at h
   simp only at h
   cases h2 : telF f p.2 with
   | none => rw [h2] at h; cases h
   | some q =>
    rw [h2] at h
    simp only [Option.some.injEq, Prod.mk.injEq] at h
    rw [← h.2, telF_kind h2, telL_kind h1]
theorem telK_kind {k : Int} {x x' : PAct} {ws : List ByteArray} (h : telK k x = some (ws, x')) : x'.kind = x.kind := by
 unfold telK fateS picksS at h
 repeat' split at h
 all_goals first | exact telF_kind h | (cases h; rfl) | cases h
theorem refusal_inj {n m : Int} (h : refusal n = refusal m) : n = m := by
 simp only [refusal, List.cons.injEq, PanicEntry.mk.injEq, Value.iface.injEq, Value.agg.injEq, and_true, true_and] at h
 simpa using h
set_option maxRecDepth 100000 in
set_option maxHeartbeats 1000000 in
theorem line_any (a : PAct) (bA pA : Option Addr) (bc pc : Nat) (w : World) (ha : ActW w a bA pA) :
  Calls Tryz.prog 34 #[.agg (actL a bA bc pA pc).toArray] w fun e w' => e = .returned (.tuple #[.string (if mayB a then Str (lineL a) else Str []), .int .i64 (if mayB a then 0 else 2)]) ∧ Fr (fun _ => False) w w' := by
 refine enter (cx := ⟨Tryz.prog, 38, w, fun _ => False, tab, [], [15], [], []⟩) [(0, .agg (actL a bA bc pA pc).toArray)] tab_ok Tryz.func34 rfl rfl rfl rfl (MemOk.nil w _) ?_
 have hok := ha.act.ok
 conv => whnf
 intro aB
 conv => whnf
 (repeat ((first | refine stp (by (repeat constructor); first | done | fail) ?_ | refine stn (by (repeat constructor); first | done | fail) ?_ | refine sto (by (repeat constructor); first | done | fail) (by first | omega | (simp only; omega)) ?_ | refine .mk fun Ap capp => ?_ | refine ⟨?_, trivial⟩ | intro _); conv => whnf))
 refine ⟨of_enters, cl_mem .nil (fun w' hm' => of_any _ w') ?_⟩
 rintro e m' ⟨rfl, ⟨hk, rfl⟩ | ⟨hk1, hk2, rfl⟩⟩
 ·have hmay : mayB a = false := by
   cases hm : mayB a with
   | false => rfl
   | true => have := may_kind hm; omega
  conv => whnf
  intro kB
  conv => whnf
  (repeat ((first | refine stp (by (repeat constructor); first | done | fail) ?_ | refine stn (by (repeat constructor); first | done | fail) ?_ | refine sto (by (repeat constructor); first | done | fail) (by first | omega | (simp only; omega)) ?_ | refine .mk fun Ap capp => ?_ | refine ⟨?_, trivial⟩ | intro _); conv => whnf))
  refine br_n (br_f rfl ?_)
  conv => whnf
  refine fin2 rfl rfl rfl (fun w' hm => ⟨?_, hm.fr⟩)
  rw [hmay]; rfl
 ·obtain ⟨i, hi⟩ : ∃ i : Nat, i = (a.kind - 1).toNat := ⟨_, rfl⟩
  have hki : a.kind = (i + 1 : Nat) := by omega
  have hi25 : i < 25 := by omega
  rw [← hi]
  conv => whnf
  intro kB
  conv => whnf
  refine rn_store (cs' := kindV i) tab_ok rfl (by (repeat constructor); first | done | fail) rfl rfl rfl rfl ?_
  conv => whnf
  (repeat ((first | refine stp (by (repeat constructor); first | done | fail) ?_ | refine stn (by (repeat constructor); first | done | fail) ?_ | refine sto (by (repeat constructor); first | done | fail) (by first | omega | (simp only; omega)) ?_ | refine .mk fun Ap capp => ?_ | refine ⟨?_, trivial⟩ | intro _); conv => whnf))
  refine br_n (br_t rfl ?_)
  conv => whnf
  (repeat ((first | refine stp (by (repeat constructor); first | done | fail) ?_ | refine stn (by (repeat constructor); first | done | fail) ?_ | refine sto (by (repeat constructor); first | done | fail) (by first | omega | (simp only; omega)) ?_); conv => whnf))
  intro wB
  conv => whnf
  (repeat ((first | refine stp (by (repeat constructor); first | done | fail) ?_ | refine stn (by (repeat constructor); first | done | fail) ?_ | refine sto (by (repeat constructor); first | done | fail) (by first | omega | (simp only; omega)) ?_); conv => whnf))
  intro tB
  conv => whnf
  (repeat ((first | refine stp (by (repeat constructor); first | done | fail) ?_ | refine stn (by (repeat constructor); first | done | fail) ?_ | refine sto (by (repeat constructor); first | done | fail) (by first | omega | (simp only; omega)) ?_); conv => whnf))
  intro cB
  conv => whnf
  (repeat ((first | refine stp (by (repeat constructor); first | done | fail) ?_ | refine stn (by (repeat constructor); first | done | fail) ?_ | refine sto (by (repeat constructor); first | done | fail) (by first | omega | (simp only; omega)) ?_); conv => whnf))
  have hN := fun (w' : World) (hf : Fr (fun _ => False) w w') => ha.stb hf
  refine ⟨face_enters, cl_sub (SubM.torow (b := wB) (xs := [.string (Str (wordL (i + 1 : Nat)))]) (n := 1) (by (repeat constructor); first | done | fail) rfl rfl) (cl_mem (m1 := LM tB (some ⟨wB, 0, none⟩) 1 1 [.string (Str (wordL (i + 1 : Nat)))] aB a bA pA bc pc kB i cB) (R := FaceR (LineR (telK (i + 1 : Nat) a) tB 1 [.string (Str (wordL (i + 1 : Nat)))] aB a bA pA kB i cB)) (by (repeat constructor); first | done | fail) (fun w' hm' => ?_) ?_)⟩
  ·have st : ∀ {p : World → Prop}, (∀ w', ActW w' a bA pA → p w') → Stb (LM tB (some ⟨wB, 0, none⟩) 1 1 [.string (Str (wordL (i + 1 : Nat)))] aB a bA pA bc pc kB i cB) w' p := fun h => stb hm' (fun w'' hm'' => h w'' (hN w'' hm''.fr))
   have hA := st (fun w' h => h)
   refine face_any 70 [.pointer (some ⟨kB, 0, none⟩), .pointer (some ⟨aB, 0, none⟩), .pointer (some ⟨cB, 0, none⟩)] _ w' (LineR (telK (i + 1 : Nat) a) tB 1 [.string (Str (wordL (i + 1 : Nat)))] aB a bA pA kB i cB) line1_enters hm'.part (fun w1 hf hm1 => ?_) ?_
   ·exact line1_any tB _ 1 1 _ aB a bA pA bc pc kB i cB w1 (by omega) hi25 hok hm1 (fun w2 h2 => (hA w2 (hf.trans h2)).num) (fun w2 h2 => (hA w2 (hf.trans h2)).act.bytes) (fun w2 h2 => (hA w2 (hf.trans h2)).act.picks)
   ·rintro e m' (⟨_, rfl⟩ | ⟨_, _, _, _, _, _, _, _, _, _, _, rfl, _⟩)
    ·exact .inr ⟨2, rfl⟩
    ·exact .inl ⟨_, rfl⟩
  rintro e m' ⟨e0, ⟨hr, rfl⟩ | ⟨ws, x', A', cap', bA', bc', pA', pc', N, XS, hr, rfl, hx', hB, hP, hl, hX, rfl⟩, ⟨v, he, rfl⟩ | ⟨n, he, rfl⟩⟩
  ·cases he
  ·have hn : n = 2 := refusal_inj (by injection he with he; exact he.symm)
   subst hn
   have hmay : mayB a = false := by
    cases hm : mayB a with
    | false => rfl
    | true =>
     have := (may_iff a i hi25 hki ((restW a).map Str)).2 ⟨hm, rfl⟩
     rw [hki, hr] at this
     cases this
   conv => whnf
   refine br_t rfl ?_
   conv => whnf
   (repeat ((first | refine stp (by (repeat constructor); first | done | fail) ?_ | refine stn (by (repeat constructor); first | done | fail) ?_ | refine sto (by (repeat constructor); first | done | fail) (by first | omega | (simp only; omega)) ?_ | refine .mk fun Ap capp => ?_ | refine ⟨?_, trivial⟩ | intro _); conv => whnf))
   refine br_t rfl ?_
   conv => whnf
   (repeat ((first | refine stp (by (repeat constructor); first | done | fail) ?_ | refine stn (by (repeat constructor); first | done | fail) ?_ | refine sto (by (repeat constructor); first | done | fail) (by first | omega | (simp only; omega)) ?_ | refine .mk fun Ap capp => ?_ | refine ⟨?_, trivial⟩ | intro _); conv => whnf))
   refine fin2 rfl rfl rfl (fun w' hm => ⟨?_, hm.fr⟩)
   rw [hmay]; rfl
  ·have hkx : x'.kind = a.kind := telK_kind hr
   conv => whnf
   refine br_f rfl ?_
   conv => whnf
   (repeat ((first | refine stp (by (repeat constructor); first | done | fail) ?_ | refine stn (by (repeat constructor); first | done | fail) ?_ | refine sto (by (repeat constructor); first | done | fail) (by first | omega | (simp only; omega)) ?_ | refine .mk fun Ap capp => ?_ | refine ⟨?_, trivial⟩ | intro _); conv => whnf))
   refine ⟨ssame_enters, cl_same _ (fun w' hm' => ssame_any x' (nilAct x'.kind) bA' none pA' none bc' 0 pc' 0 w' ⟨hx', hB w' (hN w' hm'.fr).act.bytes, hP w' (hN w' hm'.fr).act.picks⟩ ⟨nilAct_ok hx'.kind, BytsIn.nil _ _, IntsIn.nil _ _ _⟩) ?_⟩
   conv => whnf
   (repeat ((first | refine stp (by (repeat constructor); first | done | fail) ?_ | refine stn (by (repeat constructor); first | done | fail) ?_ | refine sto (by (repeat constructor); first | done | fail) (by first | omega | (simp only; omega)) ?_ | refine .mk fun Ap capp => ?_ | refine ⟨?_, trivial⟩ | intro _); conv => whnf))
   refine br_n (br (fun hs => ?_) (fun hs => ?_))
   ·have hs2 := (sameB_iff _ _).1 hs
    rw [hkx] at hs2
    rw [hs2, ← hki] at hr
    obtain ⟨hmay, hws⟩ := (may_iff a i hi25 hki ws).1 hr
    have hXS : XS = ((lineW a).map Str).map Value.string := by rw [hX, hws, lineW, ← hki]; rfl
    have hNN : N = (lineW a).length := by rw [hl, hws, lineW, List.length_map, List.length_cons]; omega
    clear hX hl hws hr
    subst hXS hNN
    have hW := lineW_len hmay
    have hL := line_len hok hmay
    have eL : joinB (((lineW a).map Str).map bs) = lineL a := by
     rw [List.map_map, show (bs ∘ Str) = id from funext fun l => bs_Str l, List.map_id]; rfl
    conv => whnf
    (repeat ((first | refine stp (by (repeat constructor); first | done | fail) ?_ | refine stn (by (repeat constructor); first | done | fail) ?_ | refine sto (by (repeat constructor); first | done | fail) (by first | omega | (simp only; omega)) ?_ | refine .mk fun Ap capp => ?_ | refine ⟨?_, trivial⟩ | intro _); conv => whnf))
    refine ⟨join_enters, cl_same _ (fun w' hm' => join_any (ws := (lineW a).map Str) (hm'.ok (.row A' cap' (lineW a).length 9 1 (((lineW a).map Str).map Value.string)) (Has.mem (by (repeat constructor); first | done | fail))) (by simp [lineW]) (by rw [eL]; exact hL) (by omega)) ?_⟩
    conv => whnf
    refine fin2 rfl rfl rfl (fun w' hm => ⟨?_, hm.fr⟩)
    rw [hmay, eL]; rfl
   ·have hmay : mayB a = false := by
     cases hm : mayB a with
     | false => rfl
     | true =>
      have := (may_iff a i hi25 hki ((restW a).map Str)).2 ⟨hm, rfl⟩
      rw [hki, hr] at this
      simp only [Option.some.injEq, Prod.mk.injEq] at this
      rw [(sameB_iff _ _).2 (by rw [hkx]; rw [this.2, hki])] at hs
      cases hs
    conv => whnf
    refine fin2 rfl rfl rfl (fun w' hm => ⟨?_, hm.fr⟩)
    rw [hmay]; rfl
  ·cases he
theorem line_enters : Eng.Enters Tryz.prog 34 := enters_mk fun _ _ => by kernel_rfl

set_option maxRecDepth 100000 in
theorem check_any (a : PAct) (bA pA : Option Addr) (bc pc : Nat) (w : World) (ha : ActW w a bA pA) :
  Calls Tryz.prog 19 #[.agg (actL a bA bc pA pc).toArray] w fun e w' => e = .returned (.int .i64 (if mayB a then 0 else 2)) ∧ Fr (fun _ => False) w w' := by
 refine enter (cx := CX 11 [] w) [(0, .agg (actL a bA bc pA pc).toArray)] tab_ok Tryz.func19 rfl rfl rfl rfl (MemOk.nil w _) ?_
 conv => whnf
 (repeat ((first | refine ⟨line_enters, cl_same _ (fun w' hm' => line_any a bA pA bc pc w' (ha.stb hm'.fr)) ?_⟩ | refine stp (by (repeat constructor); first | done | fail) ?_ | refine stn (by (repeat constructor); first | done | fail) ?_ | refine sto (by (repeat constructor); first | done | fail) (by first | omega | (simp only; omega)) ?_ | refine .mk fun Ap capp => ?_ | refine ⟨?_, trivial⟩ | intro _); conv => whnf))
 exact fin1 rfl rfl (fun w' hm => ⟨rfl, hm.fr⟩)
theorem check_enters : Eng.Enters Tryz.prog 19 := enters_mk fun _ _ => by kernel_rfl
/-- What Line answers. -/
def lineE (a : PAct) : Int := if mayB a then (if 1048576 < (lineL a).length then 3 else 0) else 2
def lineS (a : PAct) : List UInt8 := if mayB a && decide ((lineL a).length ≤ 1048576) then lineL a else []
set_option maxRecDepth 100000 in
theorem Line_any (a : PAct) (bA pA : Option Addr) (bc pc : Nat) (w : World) (ha : ActW w a bA pA) :
  Calls Tryz.prog 11 #[.agg (actL a bA bc pA pc).toArray] w fun e w' => e = .returned (.tuple #[.string (Str (lineS a)), .int .i64 (lineE a)]) ∧ Fr (fun _ => False) w w' := by
 refine enter (cx := CX 20 [] w) [(0, .agg (actL a bA bc pA pc).toArray)] tab_ok Tryz.func11 rfl rfl rfl rfl (MemOk.nil w _) ?_
 cases hmay : mayB a with
 | false =>
  have hc := fun w' hf => line_any a bA pA bc pc w' (ha.stb hf)
  simp only [hmay, Bool.false_eq_true, if_false] at hc
  conv => whnf
  (repeat ((first | refine ⟨line_enters, cl_same _ (fun w' hm' => hc w' hm'.fr) ?_⟩ | refine stp (by (repeat constructor); first | done | fail) ?_ | refine stn (by (repeat constructor); first | done | fail) ?_ | refine sto (by (repeat constructor); first | done | fail) (by first | omega | (simp only; omega)) ?_ | refine .mk fun Ap capp => ?_ | refine ⟨?_, trivial⟩ | intro _); conv => whnf))
  refine br_n (br_f rfl ?_)
  conv => whnf
  refine fin2 rfl rfl rfl (fun w' hm => ⟨?_, hm.fr⟩)
  simp [lineS, lineE, hmay]
 | true =>
  have hc := fun w' hf => line_any a bA pA bc pc w' (ha.stb hf)
  simp only [hmay, if_true] at hc
  have hsz := Str.size (lineL a)
  conv => whnf
  (repeat ((first | refine ⟨line_enters, cl_same _ (fun w' hm' => hc w' hm'.fr) ?_⟩ | refine stp (by (repeat constructor); first | done | fail) ?_ | refine stn (by (repeat constructor); first | done | fail) ?_ | refine sto (by (repeat constructor); first | done | fail) (by first | omega | (simp only; omega)) ?_ | refine .mk fun Ap capp => ?_ | refine ⟨?_, trivial⟩ | intro _); conv => whnf))
  refine br_n (br_t rfl ?_)
  conv => whnf
  (repeat ((first | refine stp (by (repeat constructor); first | done | fail) ?_ | refine stn (by (repeat constructor); first | done | fail) ?_ | refine sto (by (repeat constructor); first | done | fail) (by first | omega | (simp only; omega)) ?_ | refine .mk fun Ap capp => ?_ | refine ⟨?_, trivial⟩ | intro _); conv => whnf))
  refine br_d (fun h => ?_) (fun h => ?_)
  ·conv => whnf
   refine fin2 rfl rfl rfl (fun w' hm => ⟨?_, hm.fr⟩)
   rw [hsz] at h
   have h2 : ¬ (lineL a).length ≤ 1048576 := by omega
   have h3 : 1048576 < (lineL a).length := by omega
   simp [lineS, lineE, hmay, h2, h3]
  ·conv => whnf
   refine fin2 rfl rfl rfl (fun w' hm => ⟨?_, hm.fr⟩)
   rw [hsz] at h
   have h2 : (lineL a).length ≤ 1048576 := by omega
   have h3 : ¬ 1048576 < (lineL a).length := by omega
   simp [lineS, lineE, hmay, h2, h3]
theorem Line_enters : Eng.Enters Tryz.prog 11 := enters_mk fun _ _ => by kernel_rfl
end Go.Proofs.YtbfbjgakmnckbaaGreatDoor
namespace Go.Proofs.YtbfbjgakmnckbaaGreatDoor
open Go Go.RowKit Eng

theorem eqE_nn (t : Nat) (w : World) : (eqSem .neq 110 (.tmp t) (.const .nilIface) .nilIface .nilIface).run Tryz.prog w = .ok (.bool false) w := by kernel_rfl
theorem eqE_in (t u N : Nat) (w : World) : (eqSem .neq 110 (.tmp t) (.const .nilIface) (.iface u (.pointer (some ⟨N, 0, none⟩))) .nilIface).run Tryz.prog w = .ok (.bool true) w := by kernel_rfl
attribute [local irreducible] Br Rn RnU Cl RdG CpG Ld Rd Lp Dr Oth Cut fin Fits Eng.Enters Md NA
/-- A slice of strings reads so. -/
def StrsIn (w : World) (p : Option Addr) (ws : List (List UInt8)) : Prop := 0 < ws.length → ∃ b o, p = some ⟨b, o, none⟩ ∧ ∀ j s, ws[j]? = some s → w.cell? ⟨b, o + j, none⟩ = some (.string (Str s))
theorem StrsIn.tail {w : World} {p : Option Addr} {s : List UInt8} {ws : List (List UInt8)} {cap : Nat} (h : StrsIn w p (s :: ws)) (hc : ws.length + 1 ≤ cap) : StrsIn w (cutA p cap 1 1) ws := by
 intro hn
 obtain ⟨b, o, rfl, hcell⟩ := h (by simp)
 refine ⟨b, o + 1, ?_, fun j s hj => ?_⟩
 ·have : cap ≠ 1 := by omega
  unfold cutA
  rw [if_neg this]
  rfl
 ·have := hcell (j + 1) s (by simpa using hj)
  rwa [show o + 1 + j = o + (j + 1) by omega]
abbrev NM (rB : Nat) (A : Option Addr) (n cap : Nat) : Mem := [.blk rB (.cells #[.slice A n cap] 85)]
set_option maxRecDepth 100000 in
theorem wrong_any (w : World) : Ctr Tryz.prog 170 [] [] (fun e m' => e = .panicked (refusal 410) ∧ m' = []) w := by
 refine enter (cx := CXS 2 [] w (Foot [])) [] tab_ok Tryz.func170 rfl rfl rfl rfl (MemOk.nil w _) ?_
 conv => whnf
 (repeat ((first | refine stp (by (repeat constructor); first | done | fail) ?_ | refine stn (by (repeat constructor); first | done | fail) ?_ | refine sto (by (repeat constructor); first | done | fail) (by first | omega | (simp only; omega)) ?_ | refine .mk fun Ap capp => ?_ | refine ⟨?_, trivial⟩ | intro _); conv => whnf))
 exact fin_panic (fun w' hm => ⟨_, ⟨rfl, rfl⟩, hm⟩)
theorem wrong_enters : Eng.Enters Tryz.prog 170 := enters_mk fun _ _ => by kernel_rfl
/-- What next hands out. -/
def NextR (rB : Nat) (A : Option Addr) (ws : List (List UInt8)) (e : Ending) (m' : Mem) : Prop :=
 (ws = [] ∧ e = .panicked (refusal 410)) ∨ ∃ s ws' A' cap', ws = s :: ws' ∧ e = .returned (.string (Str s)) ∧ ws'.length ≤ cap' ∧ (∀ w, StrsIn w A ws → StrsIn w A' ws') ∧ m' = NM rB A' ws'.length cap'
set_option maxRecDepth 100000 in
theorem next_any (rB : Nat) (A : Option Addr) (cap : Nat) (ws : List (List UInt8)) (w : World) (hc : ws.length ≤ cap) (hm : MemOk w (Foot (NM rB A ws.length cap)) (NM rB A ws.length cap) w) (hs : Stb (NM rB A ws.length cap) w (fun w => StrsIn w A ws)) :
  Ctr Tryz.prog 166 [.pointer (some ⟨rB, 0, none⟩)] (NM rB A ws.length cap) (NextR rB A ws) w := by
 refine enter (cx := CXS 26 [] w (Foot (NM rB A ws.length cap))) [(0, .pointer (some ⟨rB, 0, none⟩))] tab_ok Tryz.func166 rfl rfl rfl rfl hm ?_
 conv => whnf
 (repeat ((first | refine stp (by (repeat constructor); first | done | fail) ?_ | refine stn (by (repeat constructor); first | done | fail) ?_ | refine sto (by (repeat constructor); first | done | fail) (by first | omega | (simp only; omega)) ?_ | refine .mk fun Ap capp => ?_ | refine ⟨?_, trivial⟩ | intro _); conv => whnf))
 refine br_d (fun h0 => ?_) (fun h0 => ?_)
 ·have hnil : ws = [] := List.eq_nil_of_length_eq_zero (by omega)
  conv => whnf
  (repeat ((first | refine stp (by (repeat constructor); first | done | fail) ?_ | refine stn (by (repeat constructor); first | done | fail) ?_ | refine sto (by (repeat constructor); first | done | fail) (by first | omega | (simp only; omega)) ?_ | refine .mk fun Ap capp => ?_ | refine ⟨?_, trivial⟩ | intro _); conv => whnf))
  refine ⟨wrong_enters, cl_mem .nil (fun w' hm' => wrong_any w') ?_⟩
  rintro e m' ⟨rfl, rfl⟩
  exact fin_panic (fun w' hm => ⟨_, .inl ⟨hnil, rfl⟩, hm⟩)
 ·obtain ⟨s, ws', rfl⟩ : ∃ s ws', ws = s :: ws' := by
   cases ws with
   | nil => exact absurd rfl h0
   | cons s ws' => exact ⟨s, ws', rfl⟩
  obtain ⟨b, o, rfl, hcell⟩ := hs.now (by simp)
  have hld : ∀ m, Ld (CXS 26 [] w (Foot (NM rB (some ⟨b, o, none⟩) (s :: ws').length cap))) m 9 (.pointer (some ⟨b, o, none⟩)) (.string (Str s)) := by
   intro m
   unfold Ld
   intro w' hm'
   obtain ⟨b', o', hb, hc'⟩ := hs w' hm'.fr (by simp)
   injection hb with hb; injection hb with hb1 hb2
   subst hb1 hb2
   exact run_load1 (tab_ok _ _ rfl) rfl (hc' 0 s rfl)
  rw [List.length_cons] at *
  conv => whnf
  (repeat ((first | refine stp (by (repeat constructor); first | done | fail) ?_ | refine stn (by (repeat constructor); first | done | fail) ?_ | refine sto (by (repeat constructor); first | done | fail) (by first | omega | (simp only; omega)) ?_ | refine .mk fun Ap capp => ?_ | refine ⟨?_, trivial⟩ | intro _); conv => whnf))
  refine ⟨⟨by omega, by omega, Pl.mk _ _⟩, ?_⟩
  conv => whnf
  refine rn_load (hld _) ?_
  conv => whnf
  (repeat ((first | refine stp (by (repeat constructor); first | done | fail) ?_ | refine stn (by (repeat constructor); first | done | fail) ?_ | refine sto (by (repeat constructor); first | done | fail) (by first | omega | (simp only; omega)) ?_ | refine .mk fun Ap capp => ?_ | refine ⟨?_, trivial⟩ | intro _); conv => whnf))
  refine ⟨⟨by omega, by omega, by omega, .inr (Pl.mk _ _)⟩, ?_⟩
  conv => whnf
  (repeat ((first | refine stp (by (repeat constructor); first | done | fail) ?_ | refine stn (by (repeat constructor); first | done | fail) ?_ | refine sto (by (repeat constructor); first | done | fail) (by first | omega | (simp only; omega)) ?_ | refine .mk fun Ap capp => ?_ | refine ⟨?_, trivial⟩ | intro _); conv => whnf))
  refine fin1 rfl rfl (fun w' hm => ⟨_, .inr ⟨s, ws', cutA (some ⟨b, o, none⟩) cap 1 1, cap - 1, rfl, rfl, by omega, fun w h => h.tail hc, rfl⟩, ?_⟩)
  exact hm
end Go.Proofs.YtbfbjgakmnckbaaGreatDoor
namespace Go.Proofs.YtbfbjgakmnckbaaGreatDoor
open Go Go.RowKit Eng
attribute [local irreducible] Br Rn RnU Cl RdG CpG Ld Rd Lp Dr Oth Cut fin Fits Eng.Enters Md NA

/-- The numeral that a word is has Go's numeral. -/
def NumW (w : World) (s : List UInt8) : Prop := ∀ v, Lib.parseIntB 64 s = .ok v → NumOk w v
/-- A word was read at a letter. -/
structure RdStep (c : UInt8) (s : List UInt8) (x x' : PAct) : Prop where
 ok : x'.Ok
 kind : x'.kind = x.kind
 num : ∀ w, NumW w s → NumAct w x → NumAct w x'
 bytes : c ≠ 120 → x'.bytes = x.bytes
 picks : x'.picks = x.picks
 sound : ∀ a : PAct, a.Ok → okL1 c a = true → (c = 120 → x.bytes = []) → s = letS c a → x' = takeL1 c a x
abbrev RM (rB : Nat) (A : Option Addr) (n cap : Nat) (aB : Nat) (x : PAct) (bA pA : Option Addr) (bc pc : Nat) : Mem :=
 [.blk rB (.cells #[.slice A n cap] 85), .blk aB (.cells (actL x bA bc pA pc).toArray 29)]
/-- What becomes of one letter that is read. -/
def LetRd (c : UInt8) (rB : Nat) (A : Option Addr) (ws : List (List UInt8)) (aB : Nat) (x : PAct) (bA pA : Option Addr) (bc pc : Nat) (e : Ending) (m' : Mem) : Prop :=
 (e = .panicked (refusal 410) ∧ ∀ s ws', ws = s :: ws' → ∀ a : PAct, a.Ok → okL1 c a = true → s ≠ letS c a) ∨
 ∃ s ws' x' A' cap', ws = s :: ws' ∧ e = .returned (.tuple #[]) ∧ ws'.length ≤ cap' ∧ (∀ w, StrsIn w A ws → StrsIn w A' ws') ∧ RdStep c s x x' ∧ m' = RM rB A' ws'.length cap' aB x' bA pA bc pc
theorem next_enters : Eng.Enters Tryz.prog 166 := enters_mk fun _ _ => by kernel_rfl
/-! ## numerals -/
open Go.Lib in
theorem parseM_dec (M u : Nat) (hM : M ≤ 18446744073709551615) (hu : u ≤ M) (r : List UInt8) : parseUintM M 0 (decDigits u ++ r) = parseUintM M u r := by
 induction u using Nat.strongRecOn generalizing r with
 | _ u ih =>
  rw [decDigits]
  split
  ·rename_i h
   simp only [List.cons_append, List.nil_append, parseUintM]
   have e1 : (UInt8.ofNat (48 + u)).toNat = 48 + u := by rw [UInt8.toNat_ofNat']; omega
   rw [e1, if_pos (by omega), if_neg (by omega), if_neg (by omega)]
   congr 1; omega
  ·rename_i h
   rw [List.append_assoc, ih (u / 10) (by omega) (by omega)]
   simp only [List.cons_append, List.nil_append, parseUintM]
   have e1 : (UInt8.ofNat (48 + u % 10)).toNat = 48 + u % 10 := by rw [UInt8.toNat_ofNat']; omega
   rw [e1, if_pos (by omega), if_neg (by omega), if_neg (by omega)]
   congr 1; omega
open Go.Lib in
theorem parse_itoa (n : Int) (h : -9223372036854775808 ≤ n ∧ n ≤ 9223372036854775807) : parseIntB 64 (itoa n) = .ok n := by
 have hd : ∀ u : Nat, u ≤ 18446744073709551615 → parseUintB 64 (decDigits u) = .ok u := by
  intro u hu
  rw [parseUintB, if_neg (decDigits_ne u)]
  have := parseM_dec (2 ^ 64 - 1) u (by decide) (by omega) []
  rw [List.append_nil] at this
  rw [this]
  rfl
 unfold itoa
 split
 ·rename_i hn
  have h1 := hd n.natAbs (by omega)
  simp only [parseIntB]
  rw [show (45 : UInt8).toNat = 45 from rfl]
  simp only [or_true, if_true, h1]
  rw [if_neg (by simp), if_neg (by simp; omega)]
  congr 1; omega
 ·rename_i hn
  have h1 := hd n.toNat (by omega)
  cases hc : decDigits n.toNat with
  | nil => exact absurd hc (decDigits_ne _)
  | cons c r =>
   have hm := decDigits_mem n.toNat c (by rw [hc]; exact List.mem_cons_self ..)
   rw [hc] at h1
   simp only [parseIntB]
   rw [if_neg (by omega), h1]
   simp only
   rw [if_neg (by rintro ⟨_, h⟩; omega), if_neg (by rintro ⟨h, _⟩; omega), if_neg (by omega)]
   congr 1; omega
open Go.Lib in
theorem parse_range {l : List UInt8} {v : Int} (h : parseIntB 64 l = .ok v) : -9223372036854775808 ≤ v ∧ v ≤ 9223372036854775807 := by
 unfold parseIntB at h
 split at h
 ·cases h
 ·simp only at h
  split at h
  ·cases h
  ·cases h
  ·split at h
   ·cases h
   ·split at h
    ·cases h
    ·rename_i h1 h2
     cases h
     simp only [show 64 - 1 = 63 from rfl] at h1 h2
     have e63 : (2 : Nat) ^ 63 = 9223372036854775808 := by decide
     rw [e63] at h1 h2
     split
     ·rename_i hn; simp only [hn, true_and] at h2; omega
     ·rename_i hn; simp only [hn, not_false_eq_true, true_and] at h1; omega
section
variable (rB : Nat) (A : Option Addr) (cap : Nat) (ws : List (List UInt8)) (aB : Nat) (x : PAct) (bA pA : Option Addr) (bc pc : Nat) (w : World) (hc : ws.length ≤ cap) (hx : x.Ok) (hl : ∀ s ∈ ws, s.length ≤ 1099511627776)
 (hm : MemOk w (Foot (RM rB A ws.length cap aB x bA pA bc pc)) (RM rB A ws.length cap aB x bA pA bc pc) w) (hs : Stb (RM rB A ws.length cap aB x bA pA bc pc) w (fun w => StrsIn w A ws))
include hc hx hl hm hs
set_option maxRecDepth 100000 in
theorem rN_any :
  Ctr Tryz.prog 165 [.pointer (some ⟨rB, 0, none⟩), .pointer (some ⟨aB, 1, none⟩), .bool false] (RM rB A ws.length cap aB x bA pA bc pc) (LetRd 97 rB A ws aB x bA pA bc pc) w := by
 refine enter (cx := CXS 19 [] w (Foot (RM rB A ws.length cap aB x bA pA bc pc))) [(0, .pointer (some ⟨rB, 0, none⟩)), (1, .pointer (some ⟨aB, 1, none⟩)), (2, .bool false)] tab_ok Tryz.func165 rfl rfl rfl rfl hm ?_
 conv => whnf
 (repeat ((first | refine stp (by (repeat constructor); first | done | fail) ?_ | refine stn (by (repeat constructor); first | done | fail) ?_ | refine sto (by (repeat constructor); first | done | fail) (by first | omega | (simp only; omega)) ?_ | refine .mk fun Ap capp => ?_ | refine ⟨?_, trivial⟩ | intro _); conv => whnf))
 refine ⟨next_enters, cl_mem (.cons .here .nil) (fun w' hm' => next_any rB A cap ws w' hc hm'.part (stb hm' (fun w'' hm'' => hs w'' hm''.fr))) ?_⟩
 rintro e m' (⟨rfl, rfl⟩ | ⟨s, ws', A', cap', rfl, rfl, hc', hS, rfl⟩)
 ·exact fin_panic (fun w' hm => ⟨_, .inl ⟨rfl, fun s ws' h => by cases h⟩, hm⟩)
 have hsl := hl s (List.mem_cons_self ..)
 have hsz := Str.size s
 conv => whnf
 (repeat ((first | refine stp (by (repeat constructor); first | done | fail) ?_ | refine stn (by (repeat constructor); first | done | fail) ?_ | refine sto (by (repeat constructor); first | done | fail) (by first | omega | (simp only; omega)) ?_ | refine .mk fun Ap capp => ?_ | refine ⟨?_, trivial⟩ | intro _); conv => whnf))
 refine br_f rfl ?_
 conv => whnf
 (repeat ((first | refine stp (by (repeat constructor); first | done | fail) ?_ | refine stn (by (repeat constructor); first | done | fail) ?_ | refine sto (by (repeat constructor); first | done | fail) (by first | omega | (simp only; omega)) ?_ | refine .mk fun Ap capp => ?_ | refine ⟨?_, trivial⟩ | intro _); conv => whnf))
 refine fin0 rfl (fun w' hm => ?_) (by first | exact .inr rfl | exact .inl rfl)
 refine ⟨_, .inr ⟨s, ws', { x with name := Str s }, A', cap', rfl, rfl, hc', hS, ⟨{ hx with name := by show (Str s).size ≤ _; omega }, rfl, fun _ _ h => ⟨h.at_, h.n, h.bits, h.order, h.keep, h.picks⟩, fun _ => rfl, rfl, ?_⟩, rfl⟩, hm.sel (by (repeat constructor); first | done | fail)⟩
 intro a _ _ _ h
 subst h
 show _ = { x with name := a.name }
 rw [show Str (letS 97 a) = a.name from Str_bs a.name]

set_option maxRecDepth 100000 in
theorem rO_any :
  Ctr Tryz.prog 165 [.pointer (some ⟨rB, 0, none⟩), .pointer (some ⟨aB, 2, none⟩), .bool false] (RM rB A ws.length cap aB x bA pA bc pc) (LetRd 111 rB A ws aB x bA pA bc pc) w := by
 refine enter (cx := CXS 19 [] w (Foot (RM rB A ws.length cap aB x bA pA bc pc))) [(0, .pointer (some ⟨rB, 0, none⟩)), (1, .pointer (some ⟨aB, 2, none⟩)), (2, .bool false)] tab_ok Tryz.func165 rfl rfl rfl rfl hm ?_
 conv => whnf
 (repeat ((first | refine stp (by (repeat constructor); first | done | fail) ?_ | refine stn (by (repeat constructor); first | done | fail) ?_ | refine sto (by (repeat constructor); first | done | fail) (by first | omega | (simp only; omega)) ?_ | refine .mk fun Ap capp => ?_ | refine ⟨?_, trivial⟩ | intro _); conv => whnf))
 refine ⟨next_enters, cl_mem (.cons .here .nil) (fun w' hm' => next_any rB A cap ws w' hc hm'.part (stb hm' (fun w'' hm'' => hs w'' hm''.fr))) ?_⟩
 rintro e m' (⟨rfl, rfl⟩ | ⟨s, ws', A', cap', rfl, rfl, hc', hS, rfl⟩)
 ·exact fin_panic (fun w' hm => ⟨_, .inl ⟨rfl, fun s ws' h => by cases h⟩, hm⟩)
 have hsl := hl s (List.mem_cons_self ..)
 have hsz := Str.size s
 conv => whnf
 (repeat ((first | refine stp (by (repeat constructor); first | done | fail) ?_ | refine stn (by (repeat constructor); first | done | fail) ?_ | refine sto (by (repeat constructor); first | done | fail) (by first | omega | (simp only; omega)) ?_ | refine .mk fun Ap capp => ?_ | refine ⟨?_, trivial⟩ | intro _); conv => whnf))
 refine br_f rfl ?_
 conv => whnf
 (repeat ((first | refine stp (by (repeat constructor); first | done | fail) ?_ | refine stn (by (repeat constructor); first | done | fail) ?_ | refine sto (by (repeat constructor); first | done | fail) (by first | omega | (simp only; omega)) ?_ | refine .mk fun Ap capp => ?_ | refine ⟨?_, trivial⟩ | intro _); conv => whnf))
 refine fin0 rfl (fun w' hm => ?_) (by first | exact .inr rfl | exact .inl rfl)
 refine ⟨_, .inr ⟨s, ws', { x with other := Str s }, A', cap', rfl, rfl, hc', hS, ⟨{ hx with other := by show (Str s).size ≤ _; omega }, rfl, fun _ _ h => ⟨h.at_, h.n, h.bits, h.order, h.keep, h.picks⟩, fun _ => rfl, rfl, ?_⟩, rfl⟩, hm.sel (by (repeat constructor); first | done | fail)⟩
 intro a _ _ _ h
 subst h
 show _ = { x with other := a.other }
 rw [show Str (letS 111 a) = a.other from Str_bs a.other]

set_option maxRecDepth 100000 in
theorem rT_any :
  Ctr Tryz.prog 165 [.pointer (some ⟨rB, 0, none⟩), .pointer (some ⟨aB, 3, none⟩), .bool false] (RM rB A ws.length cap aB x bA pA bc pc) (LetRd 116 rB A ws aB x bA pA bc pc) w := by
 refine enter (cx := CXS 19 [] w (Foot (RM rB A ws.length cap aB x bA pA bc pc))) [(0, .pointer (some ⟨rB, 0, none⟩)), (1, .pointer (some ⟨aB, 3, none⟩)), (2, .bool false)] tab_ok Tryz.func165 rfl rfl rfl rfl hm ?_
 conv => whnf
 (repeat ((first | refine stp (by (repeat constructor); first | done | fail) ?_ | refine stn (by (repeat constructor); first | done | fail) ?_ | refine sto (by (repeat constructor); first | done | fail) (by first | omega | (simp only; omega)) ?_ | refine .mk fun Ap capp => ?_ | refine ⟨?_, trivial⟩ | intro _); conv => whnf))
 refine ⟨next_enters, cl_mem (.cons .here .nil) (fun w' hm' => next_any rB A cap ws w' hc hm'.part (stb hm' (fun w'' hm'' => hs w'' hm''.fr))) ?_⟩
 rintro e m' (⟨rfl, rfl⟩ | ⟨s, ws', A', cap', rfl, rfl, hc', hS, rfl⟩)
 ·exact fin_panic (fun w' hm => ⟨_, .inl ⟨rfl, fun s ws' h => by cases h⟩, hm⟩)
 have hsl := hl s (List.mem_cons_self ..)
 have hsz := Str.size s
 conv => whnf
 (repeat ((first | refine stp (by (repeat constructor); first | done | fail) ?_ | refine stn (by (repeat constructor); first | done | fail) ?_ | refine sto (by (repeat constructor); first | done | fail) (by first | omega | (simp only; omega)) ?_ | refine .mk fun Ap capp => ?_ | refine ⟨?_, trivial⟩ | intro _); conv => whnf))
 refine br_f rfl ?_
 conv => whnf
 (repeat ((first | refine stp (by (repeat constructor); first | done | fail) ?_ | refine stn (by (repeat constructor); first | done | fail) ?_ | refine sto (by (repeat constructor); first | done | fail) (by first | omega | (simp only; omega)) ?_ | refine .mk fun Ap capp => ?_ | refine ⟨?_, trivial⟩ | intro _); conv => whnf))
 refine fin0 rfl (fun w' hm => ?_) (by first | exact .inr rfl | exact .inl rfl)
 refine ⟨_, .inr ⟨s, ws', { x with third := Str s }, A', cap', rfl, rfl, hc', hS, ⟨{ hx with third := by show (Str s).size ≤ _; omega }, rfl, fun _ _ h => ⟨h.at_, h.n, h.bits, h.order, h.keep, h.picks⟩, fun _ => rfl, rfl, ?_⟩, rfl⟩, hm.sel (by (repeat constructor); first | done | fail)⟩
 intro a _ _ _ h
 subst h
 show _ = { x with third := a.third }
 rw [show Str (letS 116 a) = a.third from Str_bs a.third]

set_option maxRecDepth 100000 in
theorem rE_any :
  Ctr Tryz.prog 165 [.pointer (some ⟨rB, 0, none⟩), .pointer (some ⟨aB, 2, none⟩), .bool true] (RM rB A ws.length cap aB x bA pA bc pc) (LetRd 79 rB A ws aB x bA pA bc pc) w := by
 refine enter (cx := CXS 19 [] w (Foot (RM rB A ws.length cap aB x bA pA bc pc))) [(0, .pointer (some ⟨rB, 0, none⟩)), (1, .pointer (some ⟨aB, 2, none⟩)), (2, .bool true)] tab_ok Tryz.func165 rfl rfl rfl rfl hm ?_
 conv => whnf
 (repeat ((first | refine stp (by (repeat constructor); first | done | fail) ?_ | refine stn (by (repeat constructor); first | done | fail) ?_ | refine sto (by (repeat constructor); first | done | fail) (by first | omega | (simp only; omega)) ?_ | refine .mk fun Ap capp => ?_ | refine ⟨?_, trivial⟩ | intro _); conv => whnf))
 refine ⟨next_enters, cl_mem (.cons .here .nil) (fun w' hm' => next_any rB A cap ws w' hc hm'.part (stb hm' (fun w'' hm'' => hs w'' hm''.fr))) ?_⟩
 rintro e m' (⟨rfl, rfl⟩ | ⟨s, ws', A', cap', rfl, rfl, hc', hS, rfl⟩)
 ·exact fin_panic (fun w' hm => ⟨_, .inl ⟨rfl, fun s ws' h => by cases h⟩, hm⟩)
 have hsl := hl s (List.mem_cons_self ..)
 have hsz := Str.size s
 conv => whnf
 (repeat ((first | refine stp (by (repeat constructor); first | done | fail) ?_ | refine stn (by (repeat constructor); first | done | fail) ?_ | refine sto (by (repeat constructor); first | done | fail) (by first | omega | (simp only; omega)) ?_ | refine .mk fun Ap capp => ?_ | refine ⟨?_, trivial⟩ | intro _); conv => whnf))
 refine br (fun hb => ?_) (fun hb => ?_)
 ·have h45 : s = [45] := Str.inj.1 (of_decide_eq_true hb)
  conv => whnf
  (repeat ((first | refine stp (by (repeat constructor); first | done | fail) ?_ | refine stn (by (repeat constructor); first | done | fail) ?_ | refine sto (by (repeat constructor); first | done | fail) (by first | omega | (simp only; omega)) ?_ | refine .mk fun Ap capp => ?_ | refine ⟨?_, trivial⟩ | intro _); conv => whnf))
  refine fin0 rfl (fun w' hm => ?_) (by first | exact .inr rfl | exact .inl rfl)
  refine ⟨_, .inr ⟨s, ws', { x with other := Str [] }, A', cap', rfl, rfl, hc', hS, ⟨{ hx with other := by show 0 ≤ _; omega }, rfl, fun _ _ h => ⟨h.at_, h.n, h.bits, h.order, h.keep, h.picks⟩, fun _ => rfl, rfl, ?_⟩, rfl⟩, hm.sel (by (repeat constructor); first | done | fail)⟩
  intro a _ ho _ h
  show _ = { x with other := a.other }
  have h : s = (if a.other = Str [] then [45] else bs a.other) := h
  have ho : (nameB a.other || (decide ((79 : UInt8) = 79) && decide (a.other = Str []))) = true := ho
  by_cases h0 : a.other = Str []
  ·rw [h0]
  ·rw [if_neg h0, h45] at h
   simp only [Bool.or_eq_true, Bool.and_eq_true, decide_eq_true_eq] at ho
   exact absurd h.symm (nameB_ne (ho.resolve_right (fun hh => h0 hh.2))).2
 ·have h45 : s ≠ [45] := fun h => (of_decide_eq_false hb) (Str.inj.2 h)
  conv => whnf
  (repeat ((first | refine stp (by (repeat constructor); first | done | fail) ?_ | refine stn (by (repeat constructor); first | done | fail) ?_ | refine sto (by (repeat constructor); first | done | fail) (by first | omega | (simp only; omega)) ?_ | refine .mk fun Ap capp => ?_ | refine ⟨?_, trivial⟩ | intro _); conv => whnf))
  refine fin0 rfl (fun w' hm => ?_) (by first | exact .inr rfl | exact .inl rfl)
  refine ⟨_, .inr ⟨s, ws', { x with other := Str s }, A', cap', rfl, rfl, hc', hS, ⟨{ hx with other := by show (Str s).size ≤ _; omega }, rfl, fun _ _ h => ⟨h.at_, h.n, h.bits, h.order, h.keep, h.picks⟩, fun _ => rfl, rfl, ?_⟩, rfl⟩, hm.sel (by (repeat constructor); first | done | fail)⟩
  intro a _ _ _ h
  show _ = { x with other := a.other }
  have h : s = (if a.other = Str [] then [45] else bs a.other) := h
  by_cases h0 : a.other = Str []
  ·rw [if_pos h0] at h; exact absurd h h45
  ·rw [if_neg h0] at h; rw [h, Str_bs]

set_option maxRecDepth 100000 in
theorem rFw_any :
  Ctr Tryz.prog 163 [.pointer (some ⟨rB, 0, none⟩), .pointer (some ⟨aB, 9, none⟩), .string (Str [114, 119]), .string (Str [114, 111])] (RM rB A ws.length cap aB x bA pA bc pc) (LetRd 119 rB A ws aB x bA pA bc pc) w := by
 refine enter (cx := CXS 14 [] w (Foot (RM rB A ws.length cap aB x bA pA bc pc))) [(0, .pointer (some ⟨rB, 0, none⟩)), (1, .pointer (some ⟨aB, 9, none⟩)), (2, .string (Str [114, 119])), (3, .string (Str [114, 111]))] tab_ok Tryz.func163 rfl rfl rfl rfl hm ?_
 conv => whnf
 (repeat ((first | refine stp (by (repeat constructor); first | done | fail) ?_ | refine stn (by (repeat constructor); first | done | fail) ?_ | refine sto (by (repeat constructor); first | done | fail) (by first | omega | (simp only; omega)) ?_ | refine .mk fun Ap capp => ?_ | refine ⟨?_, trivial⟩ | intro _); conv => whnf))
 refine ⟨next_enters, cl_mem (.cons .here .nil) (fun w' hm' => next_any rB A cap ws w' hc hm'.part (stb hm' (fun w'' hm'' => hs w'' hm''.fr))) ?_⟩
 rintro e m' (⟨rfl, rfl⟩ | ⟨s, ws', A', cap', rfl, rfl, hc', hS, rfl⟩)
 ·exact fin_panic (fun w' hm => ⟨_, .inl ⟨rfl, fun s ws' h => by cases h⟩, hm⟩)
 have hsl := hl s (List.mem_cons_self ..)
 have hsz := Str.size s
 conv => whnf
 (repeat ((first | refine stp (by (repeat constructor); first | done | fail) ?_ | refine stn (by (repeat constructor); first | done | fail) ?_ | refine sto (by (repeat constructor); first | done | fail) (by first | omega | (simp only; omega)) ?_ | refine .mk fun Ap capp => ?_ | refine ⟨?_, trivial⟩ | intro _); conv => whnf))
 refine fin0 rfl (fun w' hm => ?_) (by first | exact .inr rfl | exact .inl rfl)
 refine ⟨_, .inr ⟨s, ws', { x with on := decide (Str s = Str [114, 119]) }, A', cap', rfl, rfl, hc', hS, ⟨{ hx with kind := hx.kind }, rfl, fun _ _ h => ⟨h.at_, h.n, h.bits, h.order, h.keep, h.picks⟩, fun _ => rfl, rfl, ?_⟩, rfl⟩, hm.sel (by (repeat constructor); first | done | fail)⟩
 intro a _ _ _ h
 subst h
 show _ = { x with on := a.on }
 have h : letS 119 a = (if a.on then [114, 119] else [114, 111]) := rfl
 rw [h]
 cases a.on <;> rfl

set_option maxRecDepth 100000 in
theorem rFs_any :
  Ctr Tryz.prog 163 [.pointer (some ⟨rB, 0, none⟩), .pointer (some ⟨aB, 9, none⟩), .string (Str [115, 97, 102, 101]), .string (Str [117, 110, 115, 97, 102, 101])] (RM rB A ws.length cap aB x bA pA bc pc) (LetRd 115 rB A ws aB x bA pA bc pc) w := by
 refine enter (cx := CXS 14 [] w (Foot (RM rB A ws.length cap aB x bA pA bc pc))) [(0, .pointer (some ⟨rB, 0, none⟩)), (1, .pointer (some ⟨aB, 9, none⟩)), (2, .string (Str [115, 97, 102, 101])), (3, .string (Str [117, 110, 115, 97, 102, 101]))] tab_ok Tryz.func163 rfl rfl rfl rfl hm ?_
 conv => whnf
 (repeat ((first | refine stp (by (repeat constructor); first | done | fail) ?_ | refine stn (by (repeat constructor); first | done | fail) ?_ | refine sto (by (repeat constructor); first | done | fail) (by first | omega | (simp only; omega)) ?_ | refine .mk fun Ap capp => ?_ | refine ⟨?_, trivial⟩ | intro _); conv => whnf))
 refine ⟨next_enters, cl_mem (.cons .here .nil) (fun w' hm' => next_any rB A cap ws w' hc hm'.part (stb hm' (fun w'' hm'' => hs w'' hm''.fr))) ?_⟩
 rintro e m' (⟨rfl, rfl⟩ | ⟨s, ws', A', cap', rfl, rfl, hc', hS, rfl⟩)
 ·exact fin_panic (fun w' hm => ⟨_, .inl ⟨rfl, fun s ws' h => by cases h⟩, hm⟩)
 have hsl := hl s (List.mem_cons_self ..)
 have hsz := Str.size s
 conv => whnf
 (repeat ((first | refine stp (by (repeat constructor); first | done | fail) ?_ | refine stn (by (repeat constructor); first | done | fail) ?_ | refine sto (by (repeat constructor); first | done | fail) (by first | omega | (simp only; omega)) ?_ | refine .mk fun Ap capp => ?_ | refine ⟨?_, trivial⟩ | intro _); conv => whnf))
 refine fin0 rfl (fun w' hm => ?_) (by first | exact .inr rfl | exact .inl rfl)
 refine ⟨_, .inr ⟨s, ws', { x with on := decide (Str s = Str [115, 97, 102, 101]) }, A', cap', rfl, rfl, hc', hS, ⟨{ hx with kind := hx.kind }, rfl, fun _ _ h => ⟨h.at_, h.n, h.bits, h.order, h.keep, h.picks⟩, fun _ => rfl, rfl, ?_⟩, rfl⟩, hm.sel (by (repeat constructor); first | done | fail)⟩
 intro a _ _ _ h
 subst h
 show _ = { x with on := a.on }
 have h : letS 115 a = (if a.on then [115, 97, 102, 101] else [117, 110, 115, 97, 102, 101]) := rfl
 rw [h]
 cases a.on <;> rfl

set_option maxRecDepth 100000 in
theorem rFp_any :
  Ctr Tryz.prog 163 [.pointer (some ⟨rB, 0, none⟩), .pointer (some ⟨aB, 9, none⟩), .string (Str [112, 97, 99, 107, 101, 100]), .string (Str [112, 108, 97, 105, 110])] (RM rB A ws.length cap aB x bA pA bc pc) (LetRd 112 rB A ws aB x bA pA bc pc) w := by
 refine enter (cx := CXS 14 [] w (Foot (RM rB A ws.length cap aB x bA pA bc pc))) [(0, .pointer (some ⟨rB, 0, none⟩)), (1, .pointer (some ⟨aB, 9, none⟩)), (2, .string (Str [112, 97, 99, 107, 101, 100])), (3, .string (Str [112, 108, 97, 105, 110]))] tab_ok Tryz.func163 rfl rfl rfl rfl hm ?_
 conv => whnf
 (repeat ((first | refine stp (by (repeat constructor); first | done | fail) ?_ | refine stn (by (repeat constructor); first | done | fail) ?_ | refine sto (by (repeat constructor); first | done | fail) (by first | omega | (simp only; omega)) ?_ | refine .mk fun Ap capp => ?_ | refine ⟨?_, trivial⟩ | intro _); conv => whnf))
 refine ⟨next_enters, cl_mem (.cons .here .nil) (fun w' hm' => next_any rB A cap ws w' hc hm'.part (stb hm' (fun w'' hm'' => hs w'' hm''.fr))) ?_⟩
 rintro e m' (⟨rfl, rfl⟩ | ⟨s, ws', A', cap', rfl, rfl, hc', hS, rfl⟩)
 ·exact fin_panic (fun w' hm => ⟨_, .inl ⟨rfl, fun s ws' h => by cases h⟩, hm⟩)
 have hsl := hl s (List.mem_cons_self ..)
 have hsz := Str.size s
 conv => whnf
 (repeat ((first | refine stp (by (repeat constructor); first | done | fail) ?_ | refine stn (by (repeat constructor); first | done | fail) ?_ | refine sto (by (repeat constructor); first | done | fail) (by first | omega | (simp only; omega)) ?_ | refine .mk fun Ap capp => ?_ | refine ⟨?_, trivial⟩ | intro _); conv => whnf))
 refine fin0 rfl (fun w' hm => ?_) (by first | exact .inr rfl | exact .inl rfl)
 refine ⟨_, .inr ⟨s, ws', { x with on := decide (Str s = Str [112, 97, 99, 107, 101, 100]) }, A', cap', rfl, rfl, hc', hS, ⟨{ hx with kind := hx.kind }, rfl, fun _ _ h => ⟨h.at_, h.n, h.bits, h.order, h.keep, h.picks⟩, fun _ => rfl, rfl, ?_⟩, rfl⟩, hm.sel (by (repeat constructor); first | done | fail)⟩
 intro a _ _ _ h
 subst h
 show _ = { x with on := a.on }
 have h : letS 112 a = (if a.on then [112, 97, 99, 107, 101, 100] else [112, 108, 97, 105, 110]) := rfl
 rw [h]
 cases a.on <;> rfl

set_option maxRecDepth 100000 in
theorem rFb_any :
  Ctr Tryz.prog 163 [.pointer (some ⟨rB, 0, none⟩), .pointer (some ⟨aB, 9, none⟩), .string (Str [111, 110]), .string (Str [111, 102, 102])] (RM rB A ws.length cap aB x bA pA bc pc) (LetRd 98 rB A ws aB x bA pA bc pc) w := by
 refine enter (cx := CXS 14 [] w (Foot (RM rB A ws.length cap aB x bA pA bc pc))) [(0, .pointer (some ⟨rB, 0, none⟩)), (1, .pointer (some ⟨aB, 9, none⟩)), (2, .string (Str [111, 110])), (3, .string (Str [111, 102, 102]))] tab_ok Tryz.func163 rfl rfl rfl rfl hm ?_
 conv => whnf
 (repeat ((first | refine stp (by (repeat constructor); first | done | fail) ?_ | refine stn (by (repeat constructor); first | done | fail) ?_ | refine sto (by (repeat constructor); first | done | fail) (by first | omega | (simp only; omega)) ?_ | refine .mk fun Ap capp => ?_ | refine ⟨?_, trivial⟩ | intro _); conv => whnf))
 refine ⟨next_enters, cl_mem (.cons .here .nil) (fun w' hm' => next_any rB A cap ws w' hc hm'.part (stb hm' (fun w'' hm'' => hs w'' hm''.fr))) ?_⟩
 rintro e m' (⟨rfl, rfl⟩ | ⟨s, ws', A', cap', rfl, rfl, hc', hS, rfl⟩)
 ·exact fin_panic (fun w' hm => ⟨_, .inl ⟨rfl, fun s ws' h => by cases h⟩, hm⟩)
 have hsl := hl s (List.mem_cons_self ..)
 have hsz := Str.size s
 conv => whnf
 (repeat ((first | refine stp (by (repeat constructor); first | done | fail) ?_ | refine stn (by (repeat constructor); first | done | fail) ?_ | refine sto (by (repeat constructor); first | done | fail) (by first | omega | (simp only; omega)) ?_ | refine .mk fun Ap capp => ?_ | refine ⟨?_, trivial⟩ | intro _); conv => whnf))
 refine fin0 rfl (fun w' hm => ?_) (by first | exact .inr rfl | exact .inl rfl)
 refine ⟨_, .inr ⟨s, ws', { x with on := decide (Str s = Str [111, 110]) }, A', cap', rfl, rfl, hc', hS, ⟨{ hx with kind := hx.kind }, rfl, fun _ _ h => ⟨h.at_, h.n, h.bits, h.order, h.keep, h.picks⟩, fun _ => rfl, rfl, ?_⟩, rfl⟩, hm.sel (by (repeat constructor); first | done | fail)⟩
 intro a _ _ _ h
 subst h
 show _ = { x with on := a.on }
 have h : letS 98 a = (if a.on then [111, 110] else [111, 102, 102]) := rfl
 rw [h]
 cases a.on <;> rfl

set_option maxRecDepth 100000 in
theorem rA_any (hw : Stb (RM rB A ws.length cap aB x bA pA bc pc) w (LWW ws)) :
  Ctr Tryz.prog 164 [.pointer (some ⟨rB, 0, none⟩), .pointer (some ⟨aB, 4, none⟩)] (RM rB A ws.length cap aB x bA pA bc pc) (LetRd 65 rB A ws aB x bA pA bc pc) w := by
 refine enter (cx := CXS 18 [] w (Foot (RM rB A ws.length cap aB x bA pA bc pc))) [(0, .pointer (some ⟨rB, 0, none⟩)), (1, .pointer (some ⟨aB, 4, none⟩))] tab_ok Tryz.func164 rfl rfl rfl rfl hm ?_
 conv => whnf
 (repeat ((first | refine stp (by (repeat constructor); first | done | fail) ?_ | refine stn (by (repeat constructor); first | done | fail) ?_ | refine sto (by (repeat constructor); first | done | fail) (by first | omega | (simp only; omega)) ?_ | refine .mk fun Ap capp => ?_ | refine ⟨?_, trivial⟩ | intro _); conv => whnf))
 refine ⟨next_enters, cl_mem (.cons .here .nil) (fun w' hm' => next_any rB A cap ws w' hc hm'.part (stb hm' (fun w'' hm'' => hs w'' hm''.fr))) ?_⟩
 rintro e m' (⟨rfl, rfl⟩ | ⟨s, ws', A', cap', rfl, rfl, hc', hS, rfl⟩)
 ·exact fin_panic (fun w' hm => ⟨_, .inl ⟨rfl, fun s ws' h => by cases h⟩, hm⟩)
 have hsl := hl s (List.mem_cons_self ..)
 conv => whnf
 refine ⟨parse_enters, cl_ex (R := fun w e w' => ((∃ v, Lib.parseIntB 64 s = .ok v ∧ e = .returned (.tuple #[.int .i64 v, .nilIface])) ∨ ((∀ v, Lib.parseIntB 64 s ≠ .ok v) ∧ ∃ n t N, e = .returned (.tuple #[.int .i64 n, .iface t (.pointer (some ⟨N, 0, none⟩))]))) ∧ Fr (fun _ => False) w w') (fun w' hm' => parse_any s w' (hw w' hm'.fr).head (by omega)) ?_⟩
 rintro w' e w'' hm' ⟨⟨v, hv, rfl⟩ | ⟨hno, n, t, N, rfl⟩, hf⟩
 ·have hvr := parse_range hv
  refine ⟨_, hm'.same hf, ?_⟩
  clear hf hm'
  conv => whnf
  (repeat ((first | refine stp (by (repeat constructor); first | done | fail) ?_ | refine stn (by (repeat constructor); first | done | fail) ?_ | refine sto (by (repeat constructor); first | done | fail) (by first | omega | (simp only; omega)) ?_ | refine .mk fun Ap capp => ?_ | refine ⟨?_, trivial⟩ | intro _); conv => whnf))
  refine Rd.n (rd_all fun w => eqE_nn _ w) ?_
  conv => whnf
  refine br_f rfl ?_
  conv => whnf
  (repeat ((first | refine stp (by (repeat constructor); first | done | fail) ?_ | refine stn (by (repeat constructor); first | done | fail) ?_ | refine sto (by (repeat constructor); first | done | fail) (by first | omega | (simp only; omega)) ?_ | refine .mk fun Ap capp => ?_ | refine ⟨?_, trivial⟩ | intro _); conv => whnf))
  refine fin0 rfl (fun w' hm => ?_) (by first | exact .inr rfl | exact .inl rfl)
  refine ⟨_, .inr ⟨s, ws', { x with at_ := v }, A', cap', rfl, rfl, hc', hS, ⟨{ hx with at_ := hvr }, rfl, fun w hn h => { h with at_ := hn v hv }, fun _ => rfl, rfl, ?_⟩, rfl⟩, hm.sel (by (repeat constructor); first | done | fail)⟩
  intro a ha _ _ h
  have h : s = Lib.itoa a.at_ := h
  rw [h, parse_itoa _ ha.at_] at hv
  cases hv
  rfl
 ·refine ⟨_, hm'.same hf, ?_⟩
  clear hf hm'
  conv => whnf
  (repeat ((first | refine stp (by (repeat constructor); first | done | fail) ?_ | refine stn (by (repeat constructor); first | done | fail) ?_ | refine sto (by (repeat constructor); first | done | fail) (by first | omega | (simp only; omega)) ?_ | refine .mk fun Ap capp => ?_ | refine ⟨?_, trivial⟩ | intro _); conv => whnf))
  refine Rd.n (rd_all fun w => eqE_in _ _ _ w) ?_
  conv => whnf
  refine br_t rfl ?_
  conv => whnf
  refine ⟨wrong_enters, cl_mem .nil (fun w' hm' => wrong_any w') ?_⟩
  rintro e m' ⟨rfl, rfl⟩
  refine fin_panic (fun w' hm => ⟨_, .inl ⟨rfl, ?_⟩, hm⟩)
  intro s' ws'' hss a ha _ h
  cases hss
  have h : s = Lib.itoa a.at_ := h
  exact hno a.at_ (by rw [h, parse_itoa _ ha.at_])

set_option maxRecDepth 100000 in
theorem rM_any (hw : Stb (RM rB A ws.length cap aB x bA pA bc pc) w (LWW ws)) :
  Ctr Tryz.prog 164 [.pointer (some ⟨rB, 0, none⟩), .pointer (some ⟨aB, 5, none⟩)] (RM rB A ws.length cap aB x bA pA bc pc) (LetRd 78 rB A ws aB x bA pA bc pc) w := by
 refine enter (cx := CXS 18 [] w (Foot (RM rB A ws.length cap aB x bA pA bc pc))) [(0, .pointer (some ⟨rB, 0, none⟩)), (1, .pointer (some ⟨aB, 5, none⟩))] tab_ok Tryz.func164 rfl rfl rfl rfl hm ?_
 conv => whnf
 (repeat ((first | refine stp (by (repeat constructor); first | done | fail) ?_ | refine stn (by (repeat constructor); first | done | fail) ?_ | refine sto (by (repeat constructor); first | done | fail) (by first | omega | (simp only; omega)) ?_ | refine .mk fun Ap capp => ?_ | refine ⟨?_, trivial⟩ | intro _); conv => whnf))
 refine ⟨next_enters, cl_mem (.cons .here .nil) (fun w' hm' => next_any rB A cap ws w' hc hm'.part (stb hm' (fun w'' hm'' => hs w'' hm''.fr))) ?_⟩
 rintro e m' (⟨rfl, rfl⟩ | ⟨s, ws', A', cap', rfl, rfl, hc', hS, rfl⟩)
 ·exact fin_panic (fun w' hm => ⟨_, .inl ⟨rfl, fun s ws' h => by cases h⟩, hm⟩)
 have hsl := hl s (List.mem_cons_self ..)
 conv => whnf
 refine ⟨parse_enters, cl_ex (R := fun w e w' => ((∃ v, Lib.parseIntB 64 s = .ok v ∧ e = .returned (.tuple #[.int .i64 v, .nilIface])) ∨ ((∀ v, Lib.parseIntB 64 s ≠ .ok v) ∧ ∃ n t N, e = .returned (.tuple #[.int .i64 n, .iface t (.pointer (some ⟨N, 0, none⟩))]))) ∧ Fr (fun _ => False) w w') (fun w' hm' => parse_any s w' (hw w' hm'.fr).head (by omega)) ?_⟩
 rintro w' e w'' hm' ⟨⟨v, hv, rfl⟩ | ⟨hno, n, t, N, rfl⟩, hf⟩
 ·have hvr := parse_range hv
  refine ⟨_, hm'.same hf, ?_⟩
  clear hf hm'
  conv => whnf
  (repeat ((first | refine stp (by (repeat constructor); first | done | fail) ?_ | refine stn (by (repeat constructor); first | done | fail) ?_ | refine sto (by (repeat constructor); first | done | fail) (by first | omega | (simp only; omega)) ?_ | refine .mk fun Ap capp => ?_ | refine ⟨?_, trivial⟩ | intro _); conv => whnf))
  refine Rd.n (rd_all fun w => eqE_nn _ w) ?_
  conv => whnf
  refine br_f rfl ?_
  conv => whnf
  (repeat ((first | refine stp (by (repeat constructor); first | done | fail) ?_ | refine stn (by (repeat constructor); first | done | fail) ?_ | refine sto (by (repeat constructor); first | done | fail) (by first | omega | (simp only; omega)) ?_ | refine .mk fun Ap capp => ?_ | refine ⟨?_, trivial⟩ | intro _); conv => whnf))
  refine fin0 rfl (fun w' hm => ?_) (by first | exact .inr rfl | exact .inl rfl)
  refine ⟨_, .inr ⟨s, ws', { x with n := v }, A', cap', rfl, rfl, hc', hS, ⟨{ hx with n := hvr }, rfl, fun w hn h => { h with n := hn v hv }, fun _ => rfl, rfl, ?_⟩, rfl⟩, hm.sel (by (repeat constructor); first | done | fail)⟩
  intro a ha _ _ h
  have h : s = Lib.itoa a.n := h
  rw [h, parse_itoa _ ha.n] at hv
  cases hv
  rfl
 ·refine ⟨_, hm'.same hf, ?_⟩
  clear hf hm'
  conv => whnf
  (repeat ((first | refine stp (by (repeat constructor); first | done | fail) ?_ | refine stn (by (repeat constructor); first | done | fail) ?_ | refine sto (by (repeat constructor); first | done | fail) (by first | omega | (simp only; omega)) ?_ | refine .mk fun Ap capp => ?_ | refine ⟨?_, trivial⟩ | intro _); conv => whnf))
  refine Rd.n (rd_all fun w => eqE_in _ _ _ w) ?_
  conv => whnf
  refine br_t rfl ?_
  conv => whnf
  refine ⟨wrong_enters, cl_mem .nil (fun w' hm' => wrong_any w') ?_⟩
  rintro e m' ⟨rfl, rfl⟩
  refine fin_panic (fun w' hm => ⟨_, .inl ⟨rfl, ?_⟩, hm⟩)
  intro s' ws'' hss a ha _ h
  cases hss
  have h : s = Lib.itoa a.n := h
  exact hno a.n (by rw [h, parse_itoa _ ha.n])

end
end Go.Proofs.YtbfbjgakmnckbaaGreatDoor
namespace Go.Proofs.YtbfbjgakmnckbaaGreatDoor
open Go Go.RowKit Eng
attribute [local irreducible] Br Rn RnU Cl RdG CpG Ld Rd Lp Dr Oth Cut fin Fits Eng.Enters Md NA
abbrev CM (rB : Nat) (A : Option Addr) (n cap : Nat) (xB : Nat) (z : Int) (T : Nat) : Mem := [.blk rB (.cells #[.slice A n cap] 85), .blk xB (.cells #[.int .i64 z] T)]
/-- A number was read into a cell. -/
def CellR (rB : Nat) (A : Option Addr) (ws : List (List UInt8)) (xB T : Nat) (e : Ending) (m' : Mem) : Prop :=
 (e = .panicked (refusal 410) ∧ ∀ s ws', ws = s :: ws' → ∀ v, Lib.parseIntB 64 s ≠ .ok v) ∨
 ∃ s ws' v A' cap', ws = s :: ws' ∧ e = .returned (.tuple #[]) ∧ Lib.parseIntB 64 s = .ok v ∧ ws'.length ≤ cap' ∧ (∀ w, StrsIn w A ws → StrsIn w A' ws') ∧ m' = CM rB A' ws'.length cap' xB v T
section
variable (rB : Nat) (A : Option Addr) (cap : Nat) (ws : List (List UInt8)) (xB : Nat) (z : Int) (w : World) (hc : ws.length ≤ cap) (hl : ∀ s ∈ ws, s.length ≤ 1099511627776)
include hc hl
set_option maxRecDepth 100000 in
theorem long1_any (hm : MemOk w (Foot (CM rB A ws.length cap xB z 2)) (CM rB A ws.length cap xB z 2) w) (hs : Stb (CM rB A ws.length cap xB z 2) w (fun w => StrsIn w A ws)) (hw : Stb (CM rB A ws.length cap xB z 2) w (LWW ws)) :
  Ctr Tryz.prog 164 [.pointer (some ⟨rB, 0, none⟩), .pointer (some ⟨xB, 0, none⟩)] (CM rB A ws.length cap xB z 2) (CellR rB A ws xB 2) w := by
 refine enter (cx := CXS 18 [] w (Foot (CM rB A ws.length cap xB z 2))) [(0, .pointer (some ⟨rB, 0, none⟩)), (1, .pointer (some ⟨xB, 0, none⟩))] tab_ok Tryz.func164 rfl rfl rfl rfl hm ?_
 conv => whnf
 (repeat ((first | refine stp (by (repeat constructor); first | done | fail) ?_ | refine stn (by (repeat constructor); first | done | fail) ?_ | refine sto (by (repeat constructor); first | done | fail) (by first | omega | (simp only; omega)) ?_ | refine .mk fun Ap capp => ?_ | refine ⟨?_, trivial⟩ | intro _); conv => whnf))
 refine ⟨next_enters, cl_mem (.cons .here .nil) (fun w' hm' => next_any rB A cap ws w' hc hm'.part (stb hm' (fun w'' hm'' => hs w'' hm''.fr))) ?_⟩
 rintro e m' (⟨rfl, rfl⟩ | ⟨s, ws', A', cap', rfl, rfl, hc', hS, rfl⟩)
 ·exact fin_panic (fun w' hm => ⟨_, .inl ⟨rfl, fun s ws' h => by cases h⟩, hm⟩)
 have hsl := hl s (List.mem_cons_self ..)
 conv => whnf
 refine ⟨parse_enters, cl_ex (R := fun w e w' => ((∃ v, Lib.parseIntB 64 s = .ok v ∧ e = .returned (.tuple #[.int .i64 v, .nilIface])) ∨ ((∀ v, Lib.parseIntB 64 s ≠ .ok v) ∧ ∃ n t N, e = .returned (.tuple #[.int .i64 n, .iface t (.pointer (some ⟨N, 0, none⟩))]))) ∧ Fr (fun _ => False) w w') (fun w' hm' => parse_any s w' (hw w' hm'.fr).head (by omega)) ?_⟩
 rintro w' e w'' hm' ⟨⟨v, hv, rfl⟩ | ⟨hno, n, t, N, rfl⟩, hf⟩
 ·refine ⟨_, hm'.same hf, ?_⟩
  clear hf hm'
  conv => whnf
  (repeat ((first | refine stp (by (repeat constructor); first | done | fail) ?_ | refine stn (by (repeat constructor); first | done | fail) ?_ | refine sto (by (repeat constructor); first | done | fail) (by first | omega | (simp only; omega)) ?_ | refine .mk fun Ap capp => ?_ | refine ⟨?_, trivial⟩ | intro _); conv => whnf))
  refine Rd.n (rd_all fun w => eqE_nn _ w) ?_
  conv => whnf
  refine br_f rfl ?_
  conv => whnf
  (repeat ((first | refine stp (by (repeat constructor); first | done | fail) ?_ | refine stn (by (repeat constructor); first | done | fail) ?_ | refine sto (by (repeat constructor); first | done | fail) (by first | omega | (simp only; omega)) ?_ | refine .mk fun Ap capp => ?_ | refine ⟨?_, trivial⟩ | intro _); conv => whnf))
  refine fin0 rfl (fun w' hm => ?_) (by first | exact .inr rfl | exact .inl rfl)
  exact ⟨_, .inr ⟨s, ws', v, A', cap', rfl, rfl, hv, hc', hS, rfl⟩, hm.sel (by (repeat constructor); first | done | fail)⟩
 ·refine ⟨_, hm'.same hf, ?_⟩
  clear hf hm'
  conv => whnf
  (repeat ((first | refine stp (by (repeat constructor); first | done | fail) ?_ | refine stn (by (repeat constructor); first | done | fail) ?_ | refine sto (by (repeat constructor); first | done | fail) (by first | omega | (simp only; omega)) ?_ | refine .mk fun Ap capp => ?_ | refine ⟨?_, trivial⟩ | intro _); conv => whnf))
  refine Rd.n (rd_all fun w => eqE_in _ _ _ w) ?_
  conv => whnf
  refine br_t rfl ?_
  conv => whnf
  refine ⟨wrong_enters, cl_mem .nil (fun w' hm' => wrong_any w') ?_⟩
  rintro e m' ⟨rfl, rfl⟩
  refine fin_panic (fun w' hm => ⟨_, .inl ⟨rfl, ?_⟩, hm⟩)
  intro s' ws'' hss
  cases hss
  exact hno
omit hc hl in
theorem long_enters : Eng.Enters Tryz.prog 164 := enters_mk fun _ _ => by kernel_rfl
set_option maxRecDepth 100000 in
theorem whole1_any (hm : MemOk w (Foot (CM rB A ws.length cap xB z 3)) (CM rB A ws.length cap xB z 3) w) (hs : Stb (CM rB A ws.length cap xB z 3) w (fun w => StrsIn w A ws)) (hw : Stb (CM rB A ws.length cap xB z 3) w (LWW ws)) :
  Ctr Tryz.prog 168 [.pointer (some ⟨rB, 0, none⟩), .pointer (some ⟨xB, 0, none⟩)] (CM rB A ws.length cap xB z 3) (CellR rB A ws xB 3) w := by
 refine enter (cx := CXS 10 [] w (Foot (CM rB A ws.length cap xB z 3))) [(0, .pointer (some ⟨rB, 0, none⟩)), (1, .pointer (some ⟨xB, 0, none⟩))] tab_ok Tryz.func168 rfl rfl rfl rfl hm ?_
 conv => whnf
 (repeat ((first | refine stp (by (repeat constructor); first | done | fail) ?_ | refine stn (by (repeat constructor); first | done | fail) ?_ | refine sto (by (repeat constructor); first | done | fail) (by first | omega | (simp only; omega)) ?_); conv => whnf))
 intro yB
 conv => whnf
 (repeat ((first | refine stp (by (repeat constructor); first | done | fail) ?_ | refine stn (by (repeat constructor); first | done | fail) ?_ | refine sto (by (repeat constructor); first | done | fail) (by first | omega | (simp only; omega)) ?_); conv => whnf))
 refine ⟨long_enters, cl_mem (m1 := CM rB A ws.length cap yB 0 2) (by (repeat constructor); first | done | fail) (fun w' hm' => long1_any rB A cap ws yB 0 w' hc hl hm'.part (stb hm' (fun w'' hm'' => hs w'' hm''.fr)) (stb hm' (fun w'' hm'' => hw w'' hm''.fr))) ?_⟩
 rintro e m' (⟨rfl, hno⟩ | ⟨s, ws', v, A', cap', rfl, rfl, hv, hc', hS, rfl⟩)
 ·exact fin_panic (fun w' hm => ⟨_, .inl ⟨rfl, hno⟩, hm⟩)
 ·conv => whnf
  (repeat ((first | refine stp (by (repeat constructor); first | done | fail) ?_ | refine stn (by (repeat constructor); first | done | fail) ?_ | refine sto (by (repeat constructor); first | done | fail) (by first | omega | (simp only; omega)) ?_ | refine .mk fun Ap capp => ?_ | refine ⟨?_, trivial⟩ | intro _); conv => whnf))
  refine fin0 rfl (fun w' hm => ?_) (by first | exact .inr rfl | exact .inl rfl)
  exact ⟨_, .inr ⟨s, ws', v, A', cap', rfl, rfl, hv, hc', hS, rfl⟩, hm.sel (by (repeat constructor); first | done | fail)⟩
end
section
variable (rB : Nat) (A : Option Addr) (cap : Nat) (ws : List (List UInt8)) (aB : Nat) (x : PAct) (bA pA : Option Addr) (bc pc : Nat) (w : World) (hc : ws.length ≤ cap) (hx : x.Ok) (hl : ∀ s ∈ ws, s.length ≤ 1099511627776)
 (hm : MemOk w (Foot (RM rB A ws.length cap aB x bA pA bc pc)) (RM rB A ws.length cap aB x bA pA bc pc) w) (hs : Stb (RM rB A ws.length cap aB x bA pA bc pc) w (fun w => StrsIn w A ws)) (hw : Stb (RM rB A ws.length cap aB x bA pA bc pc) w (LWW ws))
include hc hx hl hm hs hw
set_option maxRecDepth 100000 in
theorem rB_any :
  Ctr Tryz.prog 168 [.pointer (some ⟨rB, 0, none⟩), .pointer (some ⟨aB, 7, none⟩)] (RM rB A ws.length cap aB x bA pA bc pc) (LetRd 66 rB A ws aB x bA pA bc pc) w := by
 refine enter (cx := CXS 10 [] w (Foot (RM rB A ws.length cap aB x bA pA bc pc))) [(0, .pointer (some ⟨rB, 0, none⟩)), (1, .pointer (some ⟨aB, 7, none⟩))] tab_ok Tryz.func168 rfl rfl rfl rfl hm ?_
 conv => whnf
 (repeat ((first | refine stp (by (repeat constructor); first | done | fail) ?_ | refine stn (by (repeat constructor); first | done | fail) ?_ | refine sto (by (repeat constructor); first | done | fail) (by first | omega | (simp only; omega)) ?_); conv => whnf))
 intro yB
 conv => whnf
 (repeat ((first | refine stp (by (repeat constructor); first | done | fail) ?_ | refine stn (by (repeat constructor); first | done | fail) ?_ | refine sto (by (repeat constructor); first | done | fail) (by first | omega | (simp only; omega)) ?_); conv => whnf))
 refine ⟨long_enters, cl_mem (m1 := CM rB A ws.length cap yB 0 2) (by (repeat constructor); first | done | fail) (fun w' hm' => long1_any rB A cap ws yB 0 w' hc hl hm'.part (stb hm' (fun w'' hm'' => hs w'' hm''.fr)) (stb hm' (fun w'' hm'' => hw w'' hm''.fr))) ?_⟩
 rintro e m' (⟨rfl, hno⟩ | ⟨s, ws', v, A', cap', rfl, rfl, hv, hc', hS, rfl⟩)
 ·refine fin_panic (fun w' hm => ⟨_, .inl ⟨rfl, ?_⟩, hm⟩)
  intro s ws' hss a ha _ h
  have h : s = Lib.itoa a.bits := h
  exact hno s ws' hss a.bits (by rw [h, parse_itoa _ ha.bits])
 ·have hvr := parse_range hv
  conv => whnf
  (repeat ((first | refine stp (by (repeat constructor); first | done | fail) ?_ | refine stn (by (repeat constructor); first | done | fail) ?_ | refine sto (by (repeat constructor); first | done | fail) (by first | omega | (simp only; omega)) ?_ | refine .mk fun Ap capp => ?_ | refine ⟨?_, trivial⟩ | intro _); conv => whnf))
  refine fin0 rfl (fun w' hm => ?_) (by first | exact .inr rfl | exact .inl rfl)
  refine ⟨_, .inr ⟨s, ws', { x with bits := v }, A', cap', rfl, rfl, hc', hS, ⟨{ hx with bits := hvr }, rfl, fun w hn h => { h with bits := hn v hv }, fun _ => rfl, rfl, ?_⟩, rfl⟩, hm.sel (by (repeat constructor); first | done | fail)⟩
  intro a ha _ _ h
  have h : s = Lib.itoa a.bits := h
  rw [h, parse_itoa _ ha.bits] at hv
  cases hv
  rfl

set_option maxRecDepth 100000 in
theorem rR_any :
  Ctr Tryz.prog 168 [.pointer (some ⟨rB, 0, none⟩), .pointer (some ⟨aB, 8, none⟩)] (RM rB A ws.length cap aB x bA pA bc pc) (LetRd 82 rB A ws aB x bA pA bc pc) w := by
 refine enter (cx := CXS 10 [] w (Foot (RM rB A ws.length cap aB x bA pA bc pc))) [(0, .pointer (some ⟨rB, 0, none⟩)), (1, .pointer (some ⟨aB, 8, none⟩))] tab_ok Tryz.func168 rfl rfl rfl rfl hm ?_
 conv => whnf
 (repeat ((first | refine stp (by (repeat constructor); first | done | fail) ?_ | refine stn (by (repeat constructor); first | done | fail) ?_ | refine sto (by (repeat constructor); first | done | fail) (by first | omega | (simp only; omega)) ?_); conv => whnf))
 intro yB
 conv => whnf
 (repeat ((first | refine stp (by (repeat constructor); first | done | fail) ?_ | refine stn (by (repeat constructor); first | done | fail) ?_ | refine sto (by (repeat constructor); first | done | fail) (by first | omega | (simp only; omega)) ?_); conv => whnf))
 refine ⟨long_enters, cl_mem (m1 := CM rB A ws.length cap yB 0 2) (by (repeat constructor); first | done | fail) (fun w' hm' => long1_any rB A cap ws yB 0 w' hc hl hm'.part (stb hm' (fun w'' hm'' => hs w'' hm''.fr)) (stb hm' (fun w'' hm'' => hw w'' hm''.fr))) ?_⟩
 rintro e m' (⟨rfl, hno⟩ | ⟨s, ws', v, A', cap', rfl, rfl, hv, hc', hS, rfl⟩)
 ·refine fin_panic (fun w' hm => ⟨_, .inl ⟨rfl, ?_⟩, hm⟩)
  intro s ws' hss a ha _ h
  have h : s = Lib.itoa a.order := h
  exact hno s ws' hss a.order (by rw [h, parse_itoa _ ha.order])
 ·have hvr := parse_range hv
  conv => whnf
  (repeat ((first | refine stp (by (repeat constructor); first | done | fail) ?_ | refine stn (by (repeat constructor); first | done | fail) ?_ | refine sto (by (repeat constructor); first | done | fail) (by first | omega | (simp only; omega)) ?_ | refine .mk fun Ap capp => ?_ | refine ⟨?_, trivial⟩ | intro _); conv => whnf))
  refine fin0 rfl (fun w' hm => ?_) (by first | exact .inr rfl | exact .inl rfl)
  refine ⟨_, .inr ⟨s, ws', { x with order := v }, A', cap', rfl, rfl, hc', hS, ⟨{ hx with order := hvr }, rfl, fun w hn h => { h with order := hn v hv }, fun _ => rfl, rfl, ?_⟩, rfl⟩, hm.sel (by (repeat constructor); first | done | fail)⟩
  intro a ha _ _ h
  have h : s = Lib.itoa a.order := h
  rw [h, parse_itoa _ ha.order] at hv
  cases hv
  rfl

/-- Keep was read. -/
def KeepR (rB : Nat) (A : Option Addr) (ws : List (List UInt8)) (aB : Nat) (x : PAct) (bA pA : Option Addr) (bc pc : Nat) (e : Ending) (m' : Mem) : Prop :=
 (e = .panicked (refusal 410) ∧ ∀ s ws', ws = s :: ws' → ∀ v, Lib.parseIntB 64 s ≠ .ok v) ∨
 ∃ s ws' v A' cap', ws = s :: ws' ∧ e = .returned (.tuple #[]) ∧ Lib.parseIntB 64 s = .ok v ∧ ws'.length ≤ cap' ∧ (∀ w, StrsIn w A ws → StrsIn w A' ws') ∧ m' = RM rB A' ws'.length cap' aB { x with keep := v } bA pA bc pc
omit hx in
set_option maxRecDepth 100000 in
theorem rkeep_any :
  Ctr Tryz.prog 168 [.pointer (some ⟨rB, 0, none⟩), .pointer (some ⟨aB, 11, none⟩)] (RM rB A ws.length cap aB x bA pA bc pc) (KeepR rB A ws aB x bA pA bc pc) w := by
 refine enter (cx := CXS 10 [] w (Foot (RM rB A ws.length cap aB x bA pA bc pc))) [(0, .pointer (some ⟨rB, 0, none⟩)), (1, .pointer (some ⟨aB, 11, none⟩))] tab_ok Tryz.func168 rfl rfl rfl rfl hm ?_
 conv => whnf
 (repeat ((first | refine stp (by (repeat constructor); first | done | fail) ?_ | refine stn (by (repeat constructor); first | done | fail) ?_ | refine sto (by (repeat constructor); first | done | fail) (by first | omega | (simp only; omega)) ?_); conv => whnf))
 intro yB
 conv => whnf
 (repeat ((first | refine stp (by (repeat constructor); first | done | fail) ?_ | refine stn (by (repeat constructor); first | done | fail) ?_ | refine sto (by (repeat constructor); first | done | fail) (by first | omega | (simp only; omega)) ?_); conv => whnf))
 refine ⟨long_enters, cl_mem (m1 := CM rB A ws.length cap yB 0 2) (by (repeat constructor); first | done | fail) (fun w' hm' => long1_any rB A cap ws yB 0 w' hc hl hm'.part (stb hm' (fun w'' hm'' => hs w'' hm''.fr)) (stb hm' (fun w'' hm'' => hw w'' hm''.fr))) ?_⟩
 rintro e m' (⟨rfl, hno⟩ | ⟨s, ws', v, A', cap', rfl, rfl, hv, hc', hS, rfl⟩)
 ·exact fin_panic (fun w' hm => ⟨_, .inl ⟨rfl, hno⟩, hm⟩)
 ·conv => whnf
  (repeat ((first | refine stp (by (repeat constructor); first | done | fail) ?_ | refine stn (by (repeat constructor); first | done | fail) ?_ | refine sto (by (repeat constructor); first | done | fail) (by first | omega | (simp only; omega)) ?_ | refine .mk fun Ap capp => ?_ | refine ⟨?_, trivial⟩ | intro _); conv => whnf))
  refine fin0 rfl (fun w' hm => ?_) (by first | exact .inr rfl | exact .inl rfl)
  exact ⟨_, .inr ⟨s, ws', v, A', cap', rfl, rfl, hv, hc', hS, rfl⟩, hm.sel (by (repeat constructor); first | done | fail)⟩
end
end Go.Proofs.YtbfbjgakmnckbaaGreatDoor
