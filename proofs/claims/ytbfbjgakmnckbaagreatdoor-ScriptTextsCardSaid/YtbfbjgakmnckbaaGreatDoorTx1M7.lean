/- The plain law of scripts: an act may be just when it can be told and nothing is left of it. No statement of the seat is proved here. -/
import Derived.Test.YtbfbjgakmnckbaaGreatDoorTx1M6
import Derived.Lib.ItoaLen
import Derived.Lib.AppendStr
import Derived.Lib.Builder
import Derived.Shelf.Strings.BuilderX
import Derived.Shelf.RegionOpenPlain
import Derived.Lib.Strings
import Derived.Lib.Slices
import Derived.Lib.Walk
import Derived.Lib.UnsafeStr
import Derived.WalkKit
import Derived.Laws.Externs
import Derived.Laws.BitsLemmas
namespace Go.Proofs.YtbfbjgakmnckbaaGreatDoor
open Go Go.RowKit Eng

/-- What a list of letters tells of an act, whole. -/
def Core (f : List UInt8) (a : PAct) : Prop := ∀ ws, telF f a = some (ws, nilAct a.kind) ↔ (onlyOk f a = true ∧ ((120 : UInt8) ∈ f → a.bytes.length ≤ 524288) ∧ (ws = f.map fun c => Str (letS c a)) ∧ a = onlyX f a (nilAct a.kind))
theorem core0 (a : PAct) : Core [97, 78, 66, 82, 79] a := by
 obtain ⟨kind, name, other, third, at_, n, bytes, bits, order, on, fk, keep, picks⟩ := a
 intro ws
 by_cases h1 : nameB name = true <;> by_cases h2 : nameB other = true <;> by_cases h3 : other = Str [] <;>
  simp [telF, telL, onlyOk, okL1, onlyX, takeL1, nilAct, letS, Str_bs, h1, h2, h3, PAct.mk.injEq, and_assoc, eq_comm]
theorem core1 (a : PAct) : Core [97, 119] a := by
 obtain ⟨kind, name, other, third, at_, n, bytes, bits, order, on, fk, keep, picks⟩ := a
 intro ws
 by_cases h1 : nameB name = true <;>
  simp [telF, telL, onlyOk, okL1, onlyX, takeL1, nilAct, letS, Str_bs, h1, PAct.mk.injEq, and_assoc, eq_comm]
theorem core2 (a : PAct) : Core [97] a := by
 obtain ⟨kind, name, other, third, at_, n, bytes, bits, order, on, fk, keep, picks⟩ := a
 intro ws
 by_cases h1 : nameB name = true <;>
  simp [telF, telL, onlyOk, okL1, onlyX, takeL1, nilAct, letS, Str_bs, h1, PAct.mk.injEq, and_assoc, eq_comm]
theorem core3 (a : PAct) : Core [97, 65, 78] a := by
 obtain ⟨kind, name, other, third, at_, n, bytes, bits, order, on, fk, keep, picks⟩ := a
 intro ws
 by_cases h1 : nameB name = true <;>
  simp [telF, telL, onlyOk, okL1, onlyX, takeL1, nilAct, letS, Str_bs, h1, PAct.mk.injEq, and_assoc, eq_comm]
theorem core4 (a : PAct) : Core [97, 65, 120] a := by
 obtain ⟨kind, name, other, third, at_, n, bytes, bits, order, on, fk, keep, picks⟩ := a
 intro ws
 by_cases h1 : nameB name = true <;> by_cases h5 : bytes.length ≤ 524288 <;>
  simp [telF, telL, onlyOk, okL1, onlyX, takeL1, nilAct, letS, Str_bs, h1, h5, PAct.mk.injEq, and_assoc, eq_comm]
theorem core5 (a : PAct) : Core [97, 65, 120, 66] a := by
 obtain ⟨kind, name, other, third, at_, n, bytes, bits, order, on, fk, keep, picks⟩ := a
 intro ws
 by_cases h1 : nameB name = true <;> by_cases h5 : bytes.length ≤ 524288 <;>
  simp [telF, telL, onlyOk, okL1, onlyX, takeL1, nilAct, letS, Str_bs, h1, h5, PAct.mk.injEq, and_assoc, eq_comm]
theorem core6 (a : PAct) : Core [97, 111] a := by
 obtain ⟨kind, name, other, third, at_, n, bytes, bits, order, on, fk, keep, picks⟩ := a
 intro ws
 by_cases h1 : nameB name = true <;> by_cases h2 : nameB other = true <;>
  simp [telF, telL, onlyOk, okL1, onlyX, takeL1, nilAct, letS, Str_bs, h1, h2, PAct.mk.injEq, and_assoc, eq_comm]
theorem core7 (a : PAct) : Core [97, 111, 66, 98] a := by
 obtain ⟨kind, name, other, third, at_, n, bytes, bits, order, on, fk, keep, picks⟩ := a
 intro ws
 by_cases h1 : nameB name = true <;> by_cases h2 : nameB other = true <;>
  simp [telF, telL, onlyOk, okL1, onlyX, takeL1, nilAct, letS, Str_bs, h1, h2, PAct.mk.injEq, and_assoc, eq_comm]
theorem core8 (a : PAct) : Core [97, 111, 98] a := by
 obtain ⟨kind, name, other, third, at_, n, bytes, bits, order, on, fk, keep, picks⟩ := a
 intro ws
 by_cases h1 : nameB name = true <;> by_cases h2 : nameB other = true <;>
  simp [telF, telL, onlyOk, okL1, onlyX, takeL1, nilAct, letS, Str_bs, h1, h2, PAct.mk.injEq, and_assoc, eq_comm]
theorem core9 (a : PAct) : Core [97, 111, 116] a := by
 obtain ⟨kind, name, other, third, at_, n, bytes, bits, order, on, fk, keep, picks⟩ := a
 intro ws
 by_cases h1 : nameB name = true <;> by_cases h2 : nameB other = true <;> by_cases h4 : nameB third = true <;>
  simp [telF, telL, onlyOk, okL1, onlyX, takeL1, nilAct, letS, Str_bs, h1, h2, h4, PAct.mk.injEq, and_assoc, eq_comm]
theorem core10 (a : PAct) : Core [97, 78] a := by
 obtain ⟨kind, name, other, third, at_, n, bytes, bits, order, on, fk, keep, picks⟩ := a
 intro ws
 by_cases h1 : nameB name = true <;>
  simp [telF, telL, onlyOk, okL1, onlyX, takeL1, nilAct, letS, Str_bs, h1, PAct.mk.injEq, and_assoc, eq_comm]
theorem core11 (a : PAct) : Core [97, 79, 115] a := by
 obtain ⟨kind, name, other, third, at_, n, bytes, bits, order, on, fk, keep, picks⟩ := a
 intro ws
 by_cases h1 : nameB name = true <;> by_cases h2 : nameB other = true <;> by_cases h3 : other = Str [] <;>
  simp [telF, telL, onlyOk, okL1, onlyX, takeL1, nilAct, letS, Str_bs, h1, h2, h3, PAct.mk.injEq, and_assoc, eq_comm]
theorem core12 (a : PAct) : Core [97, 111, 66, 82, 112] a := by
 obtain ⟨kind, name, other, third, at_, n, bytes, bits, order, on, fk, keep, picks⟩ := a
 intro ws
 by_cases h1 : nameB name = true <;> by_cases h2 : nameB other = true <;>
  simp [telF, telL, onlyOk, okL1, onlyX, takeL1, nilAct, letS, Str_bs, h1, h2, PAct.mk.injEq, and_assoc, eq_comm]
theorem core_all (a : PAct) (k : Nat) (hk : k < 23) : Core (lettersL (k + 1 : Nat)) a := by
 match k, hk with
 | 0, _ => exact core0 a
 | 1, _ => exact core1 a
 | 2, _ => exact core2 a
 | 3, _ => exact core3 a
 | 4, _ => exact core4 a
 | 5, _ => exact core3 a
 | 6, _ => exact core5 a
 | 7, _ => exact core2 a
 | 8, _ => exact core6 a
 | 9, _ => exact core6 a
 | 10, _ => exact core6 a
 | 11, _ => exact core7 a
 | 12, _ => exact core6 a
 | 13, _ => exact core8 a
 | 14, _ => exact core6 a
 | 15, _ => exact core9 a
 | 16, _ => exact core10 a
 | 17, _ => exact core2 a
 | 18, _ => exact core11 a
 | 19, _ => exact core12 a
 | 20, _ => exact core6 a
 | 21, _ => exact core2 a
 | 22, _ => exact core2 a
 | k + 23, h => exact absurd h (by omega)
theorem x_letters (k : Nat) (hk : k < 23) (h : (120 : UInt8) ∉ lettersL (k + 1 : Nat)) (a : PAct) : (onlyX (lettersL (k + 1 : Nat)) a (nilAct a.kind)).bytes = [] := by
 match k, hk with
 | 0, _ => rfl
 | 1, _ => rfl
 | 2, _ => rfl
 | 3, _ => rfl
 | 4, _ => exact absurd h (by decide)
 | 5, _ => rfl
 | 6, _ => exact absurd h (by decide)
 | 7, _ => rfl
 | 8, _ => rfl
 | 9, _ => rfl
 | 10, _ => rfl
 | 11, _ => rfl
 | 12, _ => rfl
 | 13, _ => rfl
 | 14, _ => rfl
 | 15, _ => rfl
 | 16, _ => rfl
 | 17, _ => rfl
 | 18, _ => rfl
 | 19, _ => rfl
 | 20, _ => rfl
 | 21, _ => rfl
 | 22, _ => rfl
 | k + 23, h => exact absurd h (by omega)
theorem onlyX_rest (f : List UInt8) (a : PAct) : ∀ x : PAct, (onlyX f a x).fk = x.fk ∧ (onlyX f a x).keep = x.keep ∧ (onlyX f a x).picks = x.picks := by
 induction f with
 | nil => intro x; exact ⟨rfl, rfl, rfl⟩
 | cons c f ih =>
  intro x
  have h1 : (takeL1 c a x).fk = x.fk ∧ (takeL1 c a x).keep = x.keep ∧ (takeL1 c a x).picks = x.picks := by
   unfold takeL1
   repeat' split
   all_goals exact ⟨rfl, rfl, rfl⟩
  have := ih (takeL1 c a x)
  exact ⟨this.1.trans h1.1, this.2.1.trans h1.2.1, this.2.2.trans h1.2.2⟩
theorem form_ne (k : Nat) (hk : k < 25) : formL (k + 1 : Nat) ≠ [] := by
 match k, hk with
 | 0, _ | 1, _ | 2, _ | 3, _ | 4, _ | 5, _ | 6, _ | 7, _ | 8, _ | 9, _ | 10, _ | 11, _ | 12, _ | 13, _ | 14, _ | 15, _ | 16, _ | 17, _ | 18, _ | 19, _ | 20, _ | 21, _ | 22, _ | 23, _ | 24, _ => exact (by decide)
 | k + 25, h => exact absurd h (by omega)

/-- An act may be just when it is told whole. -/
theorem may_iff (a : PAct) (k : Nat) (hk : k < 25) (hak : a.kind = (k + 1 : Nat)) (ws : List ByteArray) : telK a.kind a = some (ws, nilAct a.kind) ↔ (mayB a = true ∧ ws = (restW a).map Str) := by
 have hform : decide (Str (formL a.kind) = Str []) = false := by
  rw [decide_eq_false_iff_not, Str.inj, hak]; exact form_ne k hk
 by_cases h24 : a.kind = 24
 ·-- a fate
  have hl : lettersL a.kind = [] := by rw [h24]; rfl
  have hfull : fullX a = { nilAct a.kind with fk := a.fk, keep := a.keep } := by
   unfold fullX
   simp only
   rw [if_neg (by omega), if_pos h24, hl]
   rfl
  rw [telK, if_pos h24]
  simp only [mayB, hl, onlyOk, List.all_nil, Bool.true_and, Bool.and_eq_true, sameB_iff, hfull, Bool.not_eq_true', badB, bad1, hform, Bool.false_or, Bool.or_eq_false_iff, decide_eq_false_iff_not, Bool.and_eq_false_iff, Bool.not_eq_false', decide_eq_true_eq, restW, List.map_nil, List.nil_append, fateW, if_pos h24]
  obtain ⟨kind, name, other, third, at_, n, bytes, bits, order, on, fk, keep, picks⟩ := a
  simp only at h24 hak
  subst h24
  unfold fateS
  simp only
  by_cases h0 : fk = 0
  ·subst h0
   simp only [if_pos, nilAct, Option.some.injEq, Prod.mk.injEq, PAct.mk.injEq, true_and, and_true]
   constructor
   ·rintro ⟨rfl, rfl, rfl, rfl, rfl, rfl, rfl, rfl, rfl, rfl, rfl, rfl⟩
    simp
   ·rintro ⟨⟨⟨_, h1⟩, h2⟩, rfl⟩
    obtain ⟨rfl, rfl, rfl, rfl, rfl, rfl, rfl, rfl, rfl, rfl⟩ := h2
    have hk0 : keep = 0 := h1.resolve_left (by simp)
    subst hk0
    simp
  ·rw [if_neg h0]
   by_cases h12 : fk = 1 ∨ fk = 2
   ·rw [if_pos h12]
    simp only [nilAct, Option.some.injEq, Prod.mk.injEq, PAct.mk.injEq, true_and, and_true, if_neg h0]
    constructor
    ·rintro ⟨rfl, rfl, rfl, rfl, rfl, rfl, rfl, rfl, rfl, rfl, rfl⟩
     refine ⟨⟨⟨⟨⟨⟨by simp, by simp⟩, by omega⟩, by omega⟩, .inl h0⟩, by simp⟩, by simp⟩
    ·rintro ⟨⟨_, h2⟩, rfl⟩
     obtain ⟨rfl, rfl, rfl, rfl, rfl, rfl, rfl, rfl, rfl, rfl⟩ := h2
     simp
   ·rw [if_neg h12]
    constructor
    ·intro h; cases h
    ·rintro ⟨⟨⟨⟨⟨⟨_, _⟩, h1⟩, h2⟩, _⟩, _⟩, _⟩
     omega
 ·by_cases h25 : a.kind = 25
  ·have hl : lettersL a.kind = [] := by rw [h25]; rfl
   have hfull : fullX a = { nilAct a.kind with picks := a.picks } := by
    unfold fullX
    simp only
    rw [if_pos h25, if_neg h24, hl]
    rfl
   rw [telK, if_neg h24, if_pos h25]
   simp only [mayB, hl, onlyOk, List.all_nil, Bool.true_and, Bool.and_eq_true, sameB_iff, hfull, Bool.not_eq_true', badB, bad1, hform, Bool.false_or, Bool.or_eq_false_iff, decide_eq_false_iff_not, Bool.and_eq_false_iff, Bool.not_eq_false', decide_eq_true_eq, restW, List.map_nil, List.nil_append, fateW, if_neg h24]
   obtain ⟨kind, name, other, third, at_, n, bytes, bits, order, on, fk, keep, picks⟩ := a
   simp only at h25 hak
   subst h25
   unfold picksS
   simp only [List.map_map]
   by_cases h0 : picks.length ≤ 65536
   ·rw [if_pos h0]
    simp only [nilAct, Option.some.injEq, Prod.mk.injEq, PAct.mk.injEq, true_and, and_true]
    constructor
    ·rintro ⟨rfl, rfl, rfl, rfl, rfl, rfl, rfl, rfl, rfl, rfl, rfl, rfl⟩
     refine ⟨⟨⟨⟨⟨⟨by simp, by omega⟩, by omega⟩, by omega⟩, .inr rfl⟩, by simp⟩, rfl⟩
    ·rintro ⟨⟨_, h2⟩, rfl⟩
     obtain ⟨rfl, rfl, rfl, rfl, rfl, rfl, rfl, rfl, rfl, rfl, rfl⟩ := h2
     exact ⟨rfl, by simp⟩
   ·rw [if_neg h0]
    constructor
    ·intro h; cases h
    ·rintro ⟨⟨⟨⟨⟨⟨_, h1⟩, _⟩, _⟩, _⟩, _⟩, _⟩
     omega
  ·have hk23 : k < 23 := by omega
   have hfull : fullX a = onlyX (lettersL a.kind) a (nilAct a.kind) := by
    unfold fullX
    simp only
    rw [if_neg h25, if_neg h24]
   have hc := core_all a k hk23 ws
   rw [← hak] at hc
   rw [telK, if_neg h24, if_neg h25, hc]
   have hr := onlyX_rest (lettersL a.kind) a (nilAct a.kind)
   have hx := x_letters k hk23
   rw [← hak] at hx
   have hxa := fun h => hx h a
   clear hx
   simp only [mayB, Bool.and_eq_true, sameB_iff, hfull, Bool.not_eq_true', badB, bad1, hform, Bool.false_or, Bool.or_eq_false_iff, decide_eq_false_iff_not, Bool.and_eq_false_iff, Bool.not_eq_false', decide_eq_true_eq, restW, fateW, if_neg h24, List.nil_append]
   constructor
   ·rintro ⟨h1, h2, h3, h4⟩
    rw [← h4] at hr hxa
    obtain ⟨r1, r2, r3⟩ := hr
    refine ⟨⟨⟨⟨⟨⟨?_, ?_⟩, ?_⟩, ?_⟩, ?_⟩, h1, h4.symm⟩, ?_⟩
    ·by_cases hm : (120 : UInt8) ∈ lettersL a.kind
     ·have := h2 hm; omega
     ·rw [hxa hm]; simp
    ·rw [r3]; simp [nilAct]
    ·rw [r1]; simp [nilAct]
    ·rw [r1]; simp [nilAct]
    ·right; rw [r2]; rfl
    ·rw [h3, r3]; simp [nilAct]
   ·rintro ⟨⟨⟨⟨⟨⟨h1, h2⟩, h3⟩, h4⟩, h5⟩, h6, h7⟩, h8⟩
    rw [h7] at hr
    refine ⟨h6, fun _ => by omega, ?_, h7.symm⟩
    rw [h8, hr.2.2]
    simp [nilAct]
end Go.Proofs.YtbfbjgakmnckbaaGreatDoor
namespace Go.Proofs.YtbfbjgakmnckbaaGreatDoor
open Go Go.RowKit Eng
attribute [local irreducible] Br Rn RnU Cl RdG CpG Ld Rd Lp Dr Oth Cut fin Fits Eng.Enters Md NA

/-- What is asked of the library's variables, whatever they hold. -/
structure LW (w : World) : Prop where
 ml : ∃ m, w.cell? ⟨0, 0, none⟩ = some (.int .i64 m)
/-- .. where a number may be none: the two errors are errors. -/
structure ErrW (w : World) : Prop where
 es : ∃ ev, w.cell? ⟨6, 0, none⟩ = some ev ∧ (ev = .nilIface ∨ ∃ te pe, ev = .iface te pe)
 er : ∃ ev, w.cell? ⟨7, 0, none⟩ = some ev ∧ (ev = .nilIface ∨ ∃ te pe, ev = .iface te pe)
theorem cell_fr {w w' : World} (h : Fr (fun _ => False) w w') {p : Addr} {v : Value} (hc : w.cell? p = some v) : w'.cell? p = some v :=
 (World.cell?_of_block (h.block p.block (World.block_lt_of_cell? w p hc) id)).trans hc
theorem LW.fr {w w' : World} (h : LW w) (hf : Fr (fun _ => False) w w') : LW w' :=
 ⟨let ⟨m, hm⟩ := h.ml; ⟨m, cell_fr hf hm⟩⟩
theorem ErrW.fr {w w' : World} (h : ErrW w) (hf : Fr (fun _ => False) w w') : ErrW w' :=
 ⟨let ⟨m, hm, h2⟩ := h.es; ⟨m, cell_fr hf hm, h2⟩, let ⟨m, hm, h2⟩ := h.er; ⟨m, cell_fr hf hm, h2⟩⟩

theorem join_eq (ws : List (List UInt8)) : Lib.join ws [32] = joinB ws := by
 cases ws with
 | nil => rfl
 | cons x r =>
  rw [Lib.join_cons, joinB, Lib.joinTail]
  simp only [List.flatMap]
  rfl
/-- A row that is owned: where its cells lie. -/
theorem row_at {w : World} {A : Option Addr} {cap n t : Nat} {xs : List Value} (h : w.ownsRow 0 t 1 (.slice A n cap) n xs) (hn : 0 < n) : ∃ b, A = some ⟨b, 0, none⟩ ∧ b < w.heap.size ∧ n ≤ cap ∧ xs.length = n ∧ ∀ (j : Nat) v, xs[j]? = some v → w.cell? ⟨b, j, none⟩ = some v := by
 have hl : xs.length = n := by have := h.1; omega
 rcases h.2 with ⟨_, h0⟩ | ⟨g, cap', cur, hv, _, hb, hc, _⟩
 ·omega
 ·injection hv with e1 e2 e3
  subst e1 e3
  refine ⟨g, rfl, (Array.getElem?_eq_some_iff.1 hb).1, hc, hl, fun j v hj => ?_⟩
  obtain ⟨b, hb', hcell⟩ := row_cell h hj
  injection hb' with hb'; injection hb' with hb'
  subst hb'
  exact hcell
theorem join_any {A : Option Addr} {cap n : Nat} {ws : List ByteArray} {w : World} (h : w.ownsRow 0 9 1 (.slice A n cap) n (ws.map Value.string)) (hn : 0 < n) (hlen : (joinB (ws.map bs)).length ≤ 140737488355328) (hn2 : n ≤ 140737488355328) :
  Calls Tryz.prog 71 #[.slice A n cap, .string (Str [32])] w fun e w' => e = .returned (.string (Str (joinB (ws.map bs)))) ∧ Fr (fun _ => False) w w' := by
 obtain ⟨b, rfl, hb, hc, hl, hcells⟩ := row_at h hn
 rw [List.length_map] at hl
 have := Tryz.strings_Join b 0 cap ws (Str [32]) w (fun j x hj => by rw [Nat.zero_add]; exact hcells j _ (by rw [List.getElem?_map, hj]; rfl)) hb (by omega) (by omega)
 rw [show (ws.map fun x => x.data.toList) = ws.map bs from rfl, show (Str [32]).data.toList = [32] from rfl, join_eq, hl] at this
 refine (this hlen).mono ?_
 rintro e w' ⟨rfl, hb⟩
 exact ⟨rfl, Fr.of_below hb (Nat.le_refl _)⟩
theorem join_enters : Eng.Enters Tryz.prog 71 := enters_mk fun _ _ => by kernel_rfl

/-! ## Split -/
theorem index32 (s : ByteArray) : Lib.indexB s (Str [32]) = Lib.indexByte (bs s) 32 := Lib.index_one _ _
theorem split_words : ∀ (k : Nat) (s : ByteArray), Lib.countB s (Str [32]) = k → Lib.splitB (Str [32]) 0 k s = (wordsL (bs s)).map Str
 | k, s, hk => by
  rcases Lib.indexB_cases s (Str [32]) with hm | ⟨i, hi, hle⟩
  ·rw [Lib.splitB_miss _ _ _ _ hm, wordsL_one]
   ·simp [Str_bs]
   ·intro hmem
    rw [index32] at hm
    obtain ⟨j, hj, he⟩ := List.getElem_of_mem hmem
    exact Lib.indexByte_none hm j (by rw [List.getElem?_eq_getElem hj, he])
  ·have hi2 := hi
   rw [index32] at hi2
   obtain ⟨h1, h2⟩ := Lib.indexByte_some hi2
   have hc := Lib.countB_hit s (Str [32]) i (by decide) hi
   cases k with
   | zero => omega
   | succ k =>
    have hlt : i < (bs s).length := (List.getElem?_eq_some_iff.1 h1).1
    have hsplit : bs s = (bs s).take i ++ 32 :: (bs s).drop (i + 1) := by
     conv => lhs; rw [← List.take_append_drop i (bs s)]
     rw [List.drop_eq_getElem_cons hlt]
     have : (bs s)[i] = 32 := by rw [List.getElem?_eq_getElem hlt] at h1; exact Option.some.inj h1
     rw [this]
    have hno : (32 : UInt8) ∉ (bs s).take i := by
     intro hmem
     obtain ⟨j, hj, he⟩ := List.getElem_of_mem hmem
     rw [List.length_take] at hj
     rw [List.getElem_take] at he
     exact h2 j (by omega) (by rw [List.getElem?_eq_getElem (by omega), he])
    have e1 : s.extract 0 (i + 0) = Str ((bs s).take i) := by
     conv => lhs; rw [← Str_bs s]
     rw [Str.extract]; simp
    have e2 : s.extract (i + (Str [32]).size) s.size = Str ((bs s).drop (i + 1)) := by
     conv => lhs; rw [← Str_bs s]
     rw [Str.extract, Str.size]
     show Str (((bs s).drop (i + 1)).take ((bs s).length - (i + 1))) = _
     rw [List.take_of_length_le (by simp)]
    rw [Lib.splitB_hit _ _ _ _ i hi, e1, e2]
    rw [e2] at hc
    rw [split_words k (Str ((bs s).drop (i + 1))) (by omega), bs_Str]
    have hw : wordsL (bs s) = (bs s).take i :: wordsL ((bs s).drop (i + 1)) := by
     conv => lhs; rw [hsplit]
     exact wordsL_blank _ _ hno
    show _ = (wordsL (bs s)).map Str
    rw [hw]
    rfl
theorem split_len {l : List UInt8} : Lib.countB (Str l) (Str [32]) + 1 = (wordsL l).length := by
 have h := split_words _ (Str l) rfl
 have h2 := Lib.splitB_all (Str [32]) (by decide) 0 _ (Str l) rfl
 rw [h, List.length_map, bs_Str] at h2
 exact h2.symm
theorem split_any (l : List UInt8) (w : World) (hw : LW w) (hl : l.length ≤ 4294967280) :
  Ctr Tryz.prog 35 [.string (Str l), .string (Str [32])] [] (fun e m' => ∃ b, e = .returned (.slice (some ⟨b, 0, none⟩) (wordsL l).length (wordsL l).length) ∧ m' = [.blk b (.cells (strsOf (wordsL l)).toArray 9)]) w := by
 obtain ⟨m, hm⟩ := hw.ml
 refine (Tryz.strings_Split (Str l) (Str [32]) m w (by rw [Str.size]; omega) hm (by decide)).mono ?_
 rintro e w' ⟨rfl, rfl⟩
 refine ⟨_, ⟨w.heap.size, by rw [split_len], rfl⟩, ?_⟩
 have e1 : (Lib.splitB (Str [32]) 0 (Lib.countB (Str l) (Str [32])) (Str l)).map Value.string = strsOf (wordsL l) := by
  rw [split_words _ (Str l) rfl, bs_Str, List.map_map]; rfl
 rw [e1]
 exact (MemOk.nil w _).alloc _
theorem split_enters : Eng.Enters Tryz.prog 35 := enters_mk fun _ _ => by kernel_rfl

/-! ## ParseInt -/
theorem bytesW_fr (w : World) (e : TypeId) (s : ByteArray) : Fr (fun _ => False) w (Lib.bytesWorld w e s) := Fr.of_below (Lib.bytesWorld_below w e s) (Nat.le_refl _)
/-- The word is a number. -/
def OkP (l : List UInt8) : Prop := ∃ v, Lib.parseIntB 64 l = .ok v
/-- Words that are read as numbers are numbers, or the two errors are errors. -/
def LWW (ws : List (List UInt8)) (w : World) : Prop := ErrW w ∨ ∀ s ∈ ws, OkP s
/-- .. but the first word. -/
def LWT (ws : List (List UInt8)) (w : World) : Prop := ErrW w ∨ ∀ s ∈ ws.tail, OkP s
def LWK (k : Nat) (ws : List (List UInt8)) (w : World) : Prop := LWT ws w ∧ (k = 24 → LWW ws w)
theorem LWT.drop {ws ws' : List (List UInt8)} {w : World} (h : LWT ws w) (hs : ∀ s ∈ ws', s ∈ ws.tail) : LWW ws' w := h.imp_right fun h s hm => h s (hs s hm)
theorem LWW.drop {ws ws' : List (List UInt8)} {w : World} (h : LWW ws w) (hs : ∀ s ∈ ws', s ∈ ws) : LWW ws' w := h.imp_right fun h s hm => h s (hs s hm)
theorem LWW.head {s : List UInt8} {ws : List (List UInt8)} {w : World} (h : LWW (s :: ws) w) : ErrW w ∨ OkP s := h.imp_right fun h => h s (List.mem_cons_self ..)
theorem parse_any (l : List UInt8) (w : World) (hw : ErrW w ∨ OkP l) (hl : l.length ≤ 281474976710656) :
  Calls Tryz.prog 171 #[.string (Str l), .int .i64 10, .int .i64 64] w fun e w' => ((∃ v, Lib.parseIntB 64 l = .ok v ∧ e = .returned (.tuple #[.int .i64 v, .nilIface])) ∨ ((∀ v, Lib.parseIntB 64 l ≠ .ok v) ∧ ∃ n t N, e = .returned (.tuple #[.int .i64 n, .iface t (.pointer (some ⟨N, 0, none⟩))]))) ∧ Fr (fun _ => False) w w' := by
 have hsz := Str.size l
 cases hp : Lib.parseIntB 64 l
 ·rename_i v
  refine (Tryz.strconv_ParseInt_10_at64_ok (Str l) (by omega) v hp w).mono ?_
  rintro e w' ⟨rfl, rfl | ⟨t, rfl⟩⟩
  ·exact ⟨.inl ⟨v, rfl, rfl⟩, Fr.refl _ _⟩
  ·exact ⟨.inl ⟨v, rfl, rfl⟩, bytesW_fr _ _ _⟩
 ·obtain ⟨ev, h1, h2⟩ := (hw.resolve_right fun ⟨v, hv⟩ => by rw [hp] at hv; cases hv).es
  have hc : Calls Tryz.prog 171 #[.string (Str l), .int .i64 10, .int .i64 64] w fun e w' => ∃ N, e = .returned (.tuple #[.int .i64 (0), .iface 219 (.pointer (some ⟨N, 0, none⟩))]) ∧ w.heap.size ≤ N ∧ w'.heap[N]? = some (.cells #[.string ⟨#[80, 97, 114, 115, 101, 73, 110, 116]⟩, .string (Str l), ev] 224 (0, 0)) ∧ Below w.heap.size w w' := Any.strconv_ParseInt_10_at64_syntax Tryz.laysC174 (Str l) (by omega) hp ev w h1 h2
  refine hc.mono ?_
  rintro e w' ⟨N, rfl, _, _, hb⟩
  exact ⟨.inr ⟨(fun v hv => by cases hv), _, _, N, rfl⟩, Fr.of_below hb (Nat.le_refl _)⟩
 ·obtain ⟨ev, h1, h2⟩ := (hw.resolve_right fun ⟨v, hv⟩ => by rw [hp] at hv; cases hv).er
  refine (Tryz.strconv_ParseInt_10_at64_range (Str l) (by omega) hp ev w h1 h2).mono ?_
  rintro e w' ⟨N, rfl, _, _, hb⟩
  exact ⟨.inr ⟨(fun v hv => by cases hv), _, _, N, rfl⟩, Fr.of_below hb (Nat.le_refl _)⟩
theorem parse_enters : Eng.Enters Tryz.prog 171 := enters_mk fun _ _ => by kernel_rfl

/-! ## Equal -/
theorem bytesOf_nums (bs : List UInt8) : Lib.bytesOf (numsOf bs) = bs := by
 unfold Lib.bytesOf numsOf
 rw [List.map_map]
 conv => rhs; rw [← List.map_id bs]
 apply List.map_congr_left
 intro x _
 simp
theorem equalB_any (xs ys : List UInt8) (A A' : Option Addr) (c c' : Nat) (w : World) (h : BytsIn w A xs) (h' : BytsIn w A' ys) :
  Calls Tryz.prog 46 #[.slice A xs.length c, .slice A' ys.length c'] w fun e w' => e = .returned (.bool (decide (xs = ys))) ∧ Fr (fun _ => False) w w' := by
 have h1 := run_bytes' (P := Tryz.prog) (s := 23) (d := 9) ty23_ok rfl ty5_ok rfl ty9_ok rfl h c
 have h2 := run_bytes' (P := Tryz.prog) (s := 23) (d := 9) ty23_ok rfl ty5_ok rfl ty9_ok rfl h' c'
 rw [numsOf_length] at h1 h2
 refine (Tryz.bytes_Equal _ _ _ _ w h1 h2).mono ?_
 rintro e w' ⟨rfl, rfl⟩
 rw [bytesOf_nums, bytesOf_nums]
 exact ⟨by rw [show (xs == ys) = decide (xs = ys) from by rw [Bool.eq_iff_iff]; simp], Fr.refl _ _⟩
theorem equalI_any (xs ys : List Int) (A A' : Option Addr) (c c' : Nat) (w : World) (h : IntsIn .i64 w A xs) (h' : IntsIn .i64 w A' ys) (hl : xs.length ≤ 140737488355328) (hl' : ys.length ≤ 140737488355328) :
  Calls Tryz.prog 47 #[.slice A xs.length c, .slice A' ys.length c'] w fun e w' => e = .returned (.bool (decide (xs = ys))) ∧ Fr (fun _ => False) w w' := by
 by_cases hlen : xs.length = ys.length
 ·by_cases h0 : xs.length = 0
  ·have e1 : xs = [] := List.eq_nil_of_length_eq_zero h0
   have e2 : ys = [] := List.eq_nil_of_length_eq_zero (by omega)
   subst e1 e2
   refine (Tryz.slices_Equal_int_empty A A' c 0 c' w (by omega)).mono ?_
   rintro e w' ⟨rfl, rfl⟩
   exact ⟨rfl, Fr.refl _ _⟩
  ·obtain ⟨b, o, rfl, hc⟩ := h (by omega)
   obtain ⟨b', o', rfl, hc'⟩ := h' (by omega)
   refine (Tryz.slices_Equal_int b o xs.length c b' o' ys.length c' xs ys w (Nat.le_refl _) (Nat.le_refl _) (by omega) (by omega) hc hc').mono ?_
   rintro e w' ⟨rfl, q, rfl⟩
   rw [List.take_length, List.take_length]
   exact ⟨by rw [show (xs == ys) = decide (xs = ys) from by rw [Bool.eq_iff_iff]; simp], (Fr.refl _ _).drewN q⟩
 ·refine (Tryz.slices_Equal_int_lens A A' xs.length c ys.length c' w hlen).mono ?_
  rintro e w' ⟨rfl, rfl⟩
  exact ⟨by rw [decide_eq_false (fun h => hlen (by rw [h]))], Fr.refl _ _⟩
theorem equalB_enters : Eng.Enters Tryz.prog 46 := enters_mk fun _ _ => by kernel_rfl
theorem equalI_enters : Eng.Enters Tryz.prog 47 := enters_mk fun _ _ => by kernel_rfl
end Go.Proofs.YtbfbjgakmnckbaaGreatDoor
namespace Go.Proofs.YtbfbjgakmnckbaaGreatDoor
open Go Go.RowKit Eng
attribute [local irreducible] Br Rn RnU Cl RdG CpG Ld Rd Lp Dr Oth Cut fin Fits Eng.Enters Md NA

theorem and_end (b : Bool) (x y : Bool) (h : x = y) : (b && x) = (b && y) := by rw [h]
set_option maxRecDepth 100000 in
set_option maxHeartbeats 1000000 in
theorem ssame_any (a b : PAct) (bA bA' pA pA' : Option Addr) (bc bc' pc pc' : Nat) (w : World) (ha : ActIn w a bA pA) (hb : ActIn w b bA' pA') :
  Calls Tryz.prog 15 #[.agg (actL a bA bc pA pc).toArray, .agg (actL b bA' bc' pA' pc').toArray] w fun e w' => e = .returned (.bool (sameB a b)) ∧ Fr (fun _ => False) w w' := by
 have h1 := fun w' (hf : Fr (fun _ => False) w w') => Byts.in_ (BytsIn.byts (cx := CX 0 [] w) (m := []) ha.bytes (fun _ h => h)) (w := w') ((MemOk.nil w _).same hf)
 have h2 := fun w' (hf : Fr (fun _ => False) w w') => Byts.in_ (BytsIn.byts (cx := CX 0 [] w) (m := []) hb.bytes (fun _ h => h)) (w := w') ((MemOk.nil w _).same hf)
 have h3 := fun w' (hf : Fr (fun _ => False) w w') => Ints.in_ (IntsIn.ints (cx := CX 0 [] w) (m := []) ha.picks (fun _ h => h)) (w := w') ((MemOk.nil w _).same hf)
 have h4 := fun w' (hf : Fr (fun _ => False) w w') => Ints.in_ (IntsIn.ints (cx := CX 0 [] w) (m := []) hb.picks (fun _ h => h)) (w := w') ((MemOk.nil w _).same hf)
 have k3 := ha.ok.picks
 have k4 := hb.ok.picks
 clear ha hb
 refine enter (cx := ⟨Tryz.prog, 87, w, fun _ => False, tab, [], [46, 47], [], []⟩) [(0, .agg (actL a bA bc pA pc).toArray), (1, .agg (actL b bA' bc' pA' pc').toArray)] tab_ok Tryz.func15 rfl rfl rfl rfl (MemOk.nil w _) ?_
 conv => whnf
 (repeat ((first | refine ⟨_, cpg equalB_enters (fun _ w' hm => equalB_any _ _ _ _ _ _ w' (h1 w' hm.fr) (h2 w' hm.fr)), ?_⟩ | refine ⟨_, cpg equalI_enters (fun _ w' hm => equalI_any _ _ _ _ _ _ w' (h3 w' hm.fr) (h4 w' hm.fr) k3 k4), ?_⟩ | refine ⟨_, Rd.g (rd_all fun w => fate_eqlS _ _ _ _ _ _ w), ?_⟩ | refine stp (by (repeat constructor); first | done | fail) ?_ | refine stn (by (repeat constructor); first | done | fail) ?_ | refine sto (by (repeat constructor); first | done | fail) (by first | omega | (simp only; omega)) ?_ | refine .mk fun Ap capp => ?_ | refine ⟨?_, trivial⟩ | intro _); conv => whnf))
 refine fin1 rfl rfl (fun w' hm => ⟨?_, hm.fr⟩)
 rfl
theorem ssame_enters : Eng.Enters Tryz.prog 15 := enters_mk fun _ _ => by kernel_rfl
end Go.Proofs.YtbfbjgakmnckbaaGreatDoor
namespace Go.Proofs.YtbfbjgakmnckbaaGreatDoor
open Go Go.RowKit Eng
attribute [local irreducible] Br Rn RnU Cl RdG CpG Ld Rd Lp Dr Oth Cut fin Fits Eng.Enters Md NA

theorem NumAct.fr {w w' : World} {x : PAct} (h : NumAct w x) (hf : Fr (fun _ => False) w w') : NumAct w' x :=
 ⟨h.at_.fr hf, h.n.fr hf, h.bits.fr hf, h.order.fr hf, h.keep.fr hf, fun p hp => (h.picks p hp).fr hf⟩
theorem over_enters (k : Nat) (hk : k < 25) : Eng.Enters Tryz.prog (overF k) := by
 match k, hk with
 | 0, _ | 1, _ | 2, _ | 3, _ | 4, _ | 5, _ | 6, _ | 7, _ | 8, _ | 9, _ | 10, _ | 11, _ | 12, _ | 13, _ | 14, _ | 15, _ | 16, _ | 17, _ | 18, _ | 19, _ | 20, _ | 21, _ | 22, _ | 23, _ | 24, _ => exact enters_mk fun _ _ => (by kernel_rfl)
 | k + 25, h => exact absurd h (by omega)
/-- What the closure that line hands to face owns. -/
abbrev LM (tB : Nat) (A : Option Addr) (cap n : Nat) (xs : List Value) (aB : Nat) (x : PAct) (bA pA : Option Addr) (bc pc : Nat) (kB i cB : Nat) : Mem :=
 [.blk tB (.cells #[.slice A n cap] 125), .row A cap n 9 1 xs, .blk aB (.cells (actL x bA bc pA pc).toArray 29), .blk kB (.cells (kindV i).toArray 78), .blk cB (.cells #[.pointer (some ⟨tB, 0, none⟩)] 124)]
def LineR (r : Option (List ByteArray × PAct)) (tB n : Nat) (xs : List Value) (aB : Nat) (x : PAct) (bA pA : Option Addr) (kB i cB : Nat) (e : Ending) (m' : Mem) : Prop :=
 (r = none ∧ e = .panicked (refusal 2)) ∨ ∃ ws x' A' cap' bA' bc' pA' pc' N XS, r = some (ws, x') ∧ e = .returned (.tuple #[]) ∧ x'.Ok ∧ (∀ w, BytsIn w bA x.bytes → BytsIn w bA' x'.bytes) ∧ (∀ w, IntsIn .i64 w pA x.picks → IntsIn .i64 w pA' x'.picks) ∧ N = n + ws.length ∧ XS = xs ++ ws.map Value.string ∧ m' = LM tB A' cap' N XS aB x' bA' pA' bc' pc' kB i cB
set_option maxRecDepth 100000 in
theorem line1_any (tB : Nat) (A : Option Addr) (cap n : Nat) (xs : List Value) (aB : Nat) (x : PAct) (bA pA : Option Addr) (bc pc : Nat) (kB i cB : Nat) (w : World) (hn : n ≤ 900000000) (hi : i < 25) (hx : x.Ok) (hm : MemOk w (Foot (LM tB A cap n xs aB x bA pA bc pc kB i cB)) (LM tB A cap n xs aB x bA pA bc pc kB i cB) w)
  (hv : Stb (LM tB A cap n xs aB x bA pA bc pc kB i cB) w (fun w => NumAct w x)) (hb : Stb (LM tB A cap n xs aB x bA pA bc pc kB i cB) w (fun w => BytsIn w bA x.bytes)) (hp : Stb (LM tB A cap n xs aB x bA pA bc pc kB i cB) w (fun w => IntsIn .i64 w pA x.picks)) :
  Ctr Tryz.prog 70 [.pointer (some ⟨kB, 0, none⟩), .pointer (some ⟨aB, 0, none⟩), .pointer (some ⟨cB, 0, none⟩)] (LM tB A cap n xs aB x bA pA bc pc kB i cB) (LineR (telK (i + 1 : Nat) x) tB n xs aB x bA pA kB i cB) w := by
 refine enter (cx := CXS 8 [] w (Foot (LM tB A cap n xs aB x bA pA bc pc kB i cB))) [(0, .pointer (some ⟨kB, 0, none⟩)), (1, .pointer (some ⟨aB, 0, none⟩)), (2, .pointer (some ⟨cB, 0, none⟩))] tab_ok Tryz.func70 rfl rfl rfl rfl hm ?_
 conv => whnf
 (repeat ((first | refine stp (by (repeat constructor); first | done | fail) ?_ | refine stn (by (repeat constructor); first | done | fail) ?_ | refine sto (by (repeat constructor); first | done | fail) (by first | omega | (simp only; omega)) ?_ | refine .mk fun Ap capp => ?_ | refine ⟨?_, trivial⟩ | intro _); conv => whnf))
 refine ⟨over_enters i hi, cl_mem (.cons .here (.cons .here (.cons .here .nil))) (fun w' hm' => over_any _ _ _ _ _ _ _ _ _ _ _ w' (by omega) hm'.part hx (stb hm' (fun w'' hm'' => hv w'' hm''.fr)) (stb hm' (fun w'' hm'' => hb w'' hm''.fr)) (stb hm' (fun w'' hm'' => hp w'' hm''.fr)) i hi) ?_⟩
 rintro e m' (⟨h1, rfl⟩ | ⟨ws, x', A', cap', bA', bc', pA', pc', N, XS, h1, rfl, hx', hN, hB, hP, hl, hX, rfl⟩)
 ·exact fin_panic (fun w' hm => ⟨_, .inl ⟨h1, rfl⟩, hm⟩)
 ·conv => whnf
  refine fin0 rfl (fun w' hm => ?_) (by first | exact .inr rfl | exact .inl rfl)
  exact ⟨_, .inr ⟨ws, x', A', cap', bA', bc', pA', pc', N, XS, h1, rfl, hx', hB, hP, hl, hX, rfl⟩, hm.sel (by (repeat constructor); first | done | fail)⟩
theorem line1_enters : Eng.Enters Tryz.prog 70 := enters_mk fun _ _ => by kernel_rfl

/-! ## how long a line is -/
theorem join_length : ∀ (ws : List (List UInt8)) (B : Nat), (∀ w ∈ ws, w.length ≤ B) → (joinB ws).length ≤ ws.length * (B + 1)
 | [], B, _ => by simp [joinB]
 | w :: r, B, h => by
  have h1 := h w (List.mem_cons_self ..)
  have h2 : ∀ r : List (List UInt8), (∀ w ∈ r, w.length ≤ B) → (r.flatMap fun x => 32 :: x).length ≤ r.length * (B + 1) := by
   intro r
   induction r with
   | nil => intro _; simp
   | cons x r ih =>
    intro h
    have := ih (fun y hy => h y (List.mem_cons_of_mem _ hy))
    have hx := h x (List.mem_cons_self ..)
    simp only [List.flatMap_cons, List.length_append, List.length_cons, Nat.add_mul]
    omega
  have := h2 r (fun y hy => h y (List.mem_cons_of_mem _ hy))
  simp only [joinB, List.length_append, List.length_cons, Nat.add_mul]
  omega
theorem itoa_len {n : Int} (h : -9223372036854775808 ≤ n ∧ n ≤ 9223372036854775807) : (Lib.itoa n).length ≤ 1048577 := by
 have := Lib.itoa_length_le n h.1 h.2
 omega
theorem hexF_len {bs : List UInt8} (h : bs.length ≤ 524288) : (hexF bs).length ≤ 1048577 := by
 unfold hexF
 split
 ·simp
 ·rw [hexs_length]; omega
theorem flagW_len (c : Int) (on : Bool) : (flagW c on).length ≤ 1048577 := by
 unfold flagW
 repeat' split
 all_goals simp
theorem word_len (k : Int) : (wordL k).length ≤ 1048577 := by
 have := (cutF_len (formL k)).1
 have := formL_len k
 show (cutF (formL k)).1.length ≤ _
 omega
theorem restW_len {a : PAct} (ha : a.Ok) (h : mayB a = true) : ∀ w ∈ restW a, w.length ≤ 1048577 := by
 intro w hw
 have hb := (may_bytes h).1
 have hok := okL1_mem (may_ok h)
 simp only [restW, List.mem_append, List.mem_map] at hw
 rcases hw with ⟨c, hc, rfl⟩ | hw | ⟨p, hp, rfl⟩
 ·have ho := hok c hc
  unfold okL1 at ho
  unfold letS
  by_cases h1 : c = 97
  ·rw [if_pos h1] at ho ⊢
   have := nameB_size ho
   rw [bs_size]; omega
  rw [if_neg h1] at ho ⊢
  by_cases h2 : c = 111
  ·rw [if_pos (.inl h2)] at ho
   rw [if_pos h2]
   subst h2
   simp only [Bool.or_eq_true, Bool.and_eq_true] at ho
   have := nameB_size (ho.resolve_right (fun hh => absurd hh.1 (by decide)))
   rw [bs_size]; omega
  rw [if_neg h2]
  by_cases h3 : c = 79
  ·rw [if_pos (.inr h3)] at ho
   rw [if_pos h3]
   split
   ·simp
   ·rename_i hne
    simp only [Bool.or_eq_true, Bool.and_eq_true, decide_eq_true_eq] at ho
    have := nameB_size (ho.resolve_right (fun hh => hne hh.2))
    rw [bs_size]; omega
  rw [if_neg (fun hh => hh.elim h2 h3)] at ho
  rw [if_neg h3]
  by_cases h4 : c = 116
  ·rw [if_pos h4] at ho ⊢
   have := nameB_size ho
   rw [bs_size]; omega
  rw [if_neg h4]
  split
  ·exact itoa_len ha.at_
  split
  ·exact itoa_len ha.n
  split
  ·exact itoa_len ha.bits
  split
  ·exact itoa_len ha.order
  split
  ·exact hexF_len hb
  ·exact flagW_len _ _
 ·unfold fateW at hw
  split at hw
  ·split at hw
   ·simp only [List.mem_singleton] at hw; subst hw; decide
   ·simp only [List.mem_cons, List.not_mem_nil, or_false] at hw
    rcases hw with rfl | rfl
    ·split <;> decide
    ·exact itoa_len ha.keep
  ·cases hw
 ·exact itoa_len (ha.picksR p hp)
theorem lineW_len {a : PAct} (h : mayB a = true) : (lineW a).length ≤ 65600 := by
 have h1 := (may_bytes h).2
 have h2 := (cutF_len (formL a.kind)).2
 have h3 := formL_len a.kind
 have h4 : (fateW a).length ≤ 2 := by
  unfold fateW
  repeat' split
  all_goals simp
 simp only [lineW, restW, List.length_cons, List.length_append, List.length_map, lettersL]
 omega
theorem line_len {a : PAct} (ha : a.Ok) (h : mayB a = true) : (lineL a).length ≤ 140737488355328 := by
 have h1 := join_length (lineW a) 1048577 (fun w hw => by
  rcases List.mem_cons.1 hw with rfl | hw
  ·exact word_len _
  ·exact restW_len ha h w hw)
 have h2 := lineW_len h
 have := Nat.mul_le_mul_right (1048577 + 1) h2
 exact Nat.le_trans h1 (by omega)
end Go.Proofs.YtbfbjgakmnckbaaGreatDoor
namespace Go.Proofs.YtbfbjgakmnckbaaGreatDoor
open Go Go.RowKit Eng
attribute [local irreducible] Br Rn RnU Cl RdG CpG Ld Rd Lp Dr Oth Cut fin Fits Eng.Enters Md NA

/-- An act lies in memory, and its numbers have Go's numerals. -/
structure ActW (w : World) (a : PAct) (bA pA : Option Addr) : Prop where
 act : ActIn w a bA pA
 num : NumAct w a
theorem ActIn.stb {a : PAct} {bA pA : Option Addr} {w w' : World} (h : ActIn w a bA pA) (hf : Fr (fun _ => False) w w') : ActIn w' a bA pA :=
 ⟨h.ok, Byts.in_ (BytsIn.byts (cx := CX 0 [] w) (m := []) h.bytes (fun _ h => h)) ((MemOk.nil w _).same hf), Ints.in_ (IntsIn.ints (cx := CX 0 [] w) (m := []) h.picks (fun _ h => h)) ((MemOk.nil w _).same hf)⟩
theorem ActW.stb {a : PAct} {bA pA : Option Addr} {w w' : World} (h : ActW w a bA pA) (hf : Fr (fun _ => False) w w') : ActW w' a bA pA := ⟨h.act.stb hf, h.num.fr hf⟩
theorem telL_kind {c : UInt8} {x x' : PAct} {s : ByteArray} (h : telL c x = some (s, x')) : x'.kind = x.kind := by
 unfold telL at h
 repeat' split at h
 all_goals first | cases h; rfl | cases h
theorem telF_kind : ∀ {f : List UInt8} {x x' : PAct} {ws : List ByteArray}, telF f x = some (ws, x') → x'.kind = x.kind
 | [], x, x', ws, h => by cases h; rfl
 | c :: f, x, x', ws, h => by
  simp only [telF] at h
  cases h1 : telL c x with
  | none => rw [h1] at h; cases h
  | some p =>
   rw [h1] at h
   simp only at h
   cases h2 : telF f p.2 with
   | none => rw [h2] at h; cases h
   | some q =>
    rw [h2] at h
    simp only [Option.some.injEq, Prod.mk.injEq] at h
    rw [← h.2, telF_kind h2, telL_kind h1]
theorem telK_kind {k : Int} {x x' : PAct} {ws : List ByteArray} (h : telK k x = some (ws, x')) : x'.kind = x.kind := by
 unfold telK fateS picksS at h
 repeat' split at h
 all_goals first | exact telF_kind h | (cases h; rfl) | cases h
theorem refusal_inj {n m : Int} (h : refusal n = refusal m) : n = m := by
 simp only [refusal, List.cons.injEq, PanicEntry.mk.injEq, Value.iface.injEq, Value.agg.injEq, and_true, true_and] at h
 simpa using h
set_option maxRecDepth 100000 in
set_option maxHeartbeats 1000000 in
theorem line_any (a : PAct) (bA pA : Option Addr) (bc pc : Nat) (w : World) (ha : ActW w a bA pA) :
  Calls Tryz.prog 34 #[.agg (actL a bA bc pA pc).toArray] w fun e w' => e = .returned (.tuple #[.string (if mayB a then Str (lineL a) else Str []), .int .i64 (if mayB a then 0 else 2)]) ∧ Fr (fun _ => False) w w' := by
 refine enter (cx := ⟨Tryz.prog, 38, w, fun _ => False, tab, [], [15], [], []⟩) [(0, .agg (actL a bA bc pA pc).toArray)] tab_ok Tryz.func34 rfl rfl rfl rfl (MemOk.nil w _) ?_
 have hok := ha.act.ok
 conv => whnf
 intro aB
 conv => whnf
 (repeat ((first | refine stp (by (repeat constructor); first | done | fail) ?_ | refine stn (by (repeat constructor); first | done | fail) ?_ | refine sto (by (repeat constructor); first | done | fail) (by first | omega | (simp only; omega)) ?_ | refine .mk fun Ap capp => ?_ | refine ⟨?_, trivial⟩ | intro _); conv => whnf))
 refine ⟨of_enters, cl_mem .nil (fun w' hm' => of_any _ w') ?_⟩
 rintro e m' ⟨rfl, ⟨hk, rfl⟩ | ⟨hk1, hk2, rfl⟩⟩
 ·have hmay : mayB a = false := by
   cases hm : mayB a with
   | false => rfl
   | true => have := may_kind hm; omega
  conv => whnf
  intro kB
  conv => whnf
  (repeat ((first | refine stp (by (repeat constructor); first | done | fail) ?_ | refine stn (by (repeat constructor); first | done | fail) ?_ | refine sto (by (repeat constructor); first | done | fail) (by first | omega | (simp only; omega)) ?_ | refine .mk fun Ap capp => ?_ | refine ⟨?_, trivial⟩ | intro _); conv => whnf))
  refine br_n (br_f rfl ?_)
  conv => whnf
  refine fin2 rfl rfl rfl (fun w' hm => ⟨?_, hm.fr⟩)
  rw [hmay]; rfl
 ·obtain ⟨i, hi⟩ : ∃ i : Nat, i = (a.kind - 1).toNat := ⟨_, rfl⟩
  have hki : a.kind = (i + 1 : Nat) := by omega
  have hi25 : i < 25 := by omega
  rw [← hi]
  conv => whnf
  intro kB
  conv => whnf
  refine rn_store (cs' := kindV i) tab_ok rfl (by (repeat constructor); first | done | fail) rfl rfl rfl rfl ?_
  conv => whnf
  (repeat ((first | refine stp (by (repeat constructor); first | done | fail) ?_ | refine stn (by (repeat constructor); first | done | fail) ?_ | refine sto (by (repeat constructor); first | done | fail) (by first | omega | (simp only; omega)) ?_ | refine .mk fun Ap capp => ?_ | refine ⟨?_, trivial⟩ | intro _); conv => whnf))
  refine br_n (br_t rfl ?_)
  conv => whnf
  (repeat ((first | refine stp (by (repeat constructor); first | done | fail) ?_ | refine stn (by (repeat constructor); first | done | fail) ?_ | refine sto (by (repeat constructor); first | done | fail) (by first | omega | (simp only; omega)) ?_); conv => whnf))
  intro wB
  conv => whnf
  (repeat ((first | refine stp (by (repeat constructor); first | done | fail) ?_ | refine stn (by (repeat constructor); first | done | fail) ?_ | refine sto (by (repeat constructor); first | done | fail) (by first | omega | (simp only; omega)) ?_); conv => whnf))
  intro tB
  conv => whnf
  (repeat ((first | refine stp (by (repeat constructor); first | done | fail) ?_ | refine stn (by (repeat constructor); first | done | fail) ?_ | refine sto (by (repeat constructor); first | done | fail) (by first | omega | (simp only; omega)) ?_); conv => whnf))
  intro cB
  conv => whnf
  (repeat ((first | refine stp (by (repeat constructor); first | done | fail) ?_ | refine stn (by (repeat constructor); first | done | fail) ?_ | refine sto (by (repeat constructor); first | done | fail) (by first | omega | (simp only; omega)) ?_); conv => whnf))
  have hN := fun (w' : World) (hf : Fr (fun _ => False) w w') => ha.stb hf
  refine ⟨face_enters, cl_sub (SubM.torow (b := wB) (xs := [.string (Str (wordL (i + 1 : Nat)))]) (n := 1) (by (repeat constructor); first | done | fail) rfl rfl) (cl_mem (m1 := LM tB (some ⟨wB, 0, none⟩) 1 1 [.string (Str (wordL (i + 1 : Nat)))] aB a bA pA bc pc kB i cB) (R := FaceR (LineR (telK (i + 1 : Nat) a) tB 1 [.string (Str (wordL (i + 1 : Nat)))] aB a bA pA kB i cB)) (by (repeat constructor); first | done | fail) (fun w' hm' => ?_) ?_)⟩
  ·have st : ∀ {p : World → Prop}, (∀ w', ActW w' a bA pA → p w') → Stb (LM tB (some ⟨wB, 0, none⟩) 1 1 [.string (Str (wordL (i + 1 : Nat)))] aB a bA pA bc pc kB i cB) w' p := fun h => stb hm' (fun w'' hm'' => h w'' (hN w'' hm''.fr))
   have hA := st (fun w' h => h)
   refine face_any 70 [.pointer (some ⟨kB, 0, none⟩), .pointer (some ⟨aB, 0, none⟩), .pointer (some ⟨cB, 0, none⟩)] _ w' (LineR (telK (i + 1 : Nat) a) tB 1 [.string (Str (wordL (i + 1 : Nat)))] aB a bA pA kB i cB) line1_enters hm'.part (fun w1 hf hm1 => ?_) ?_
   ·exact line1_any tB _ 1 1 _ aB a bA pA bc pc kB i cB w1 (by omega) hi25 hok hm1 (fun w2 h2 => (hA w2 (hf.trans h2)).num) (fun w2 h2 => (hA w2 (hf.trans h2)).act.bytes) (fun w2 h2 => (hA w2 (hf.trans h2)).act.picks)
   ·rintro e m' (⟨_, rfl⟩ | ⟨_, _, _, _, _, _, _, _, _, _, _, rfl, _⟩)
    ·exact .inr ⟨2, rfl⟩
    ·exact .inl ⟨_, rfl⟩
  rintro e m' ⟨e0, ⟨hr, rfl⟩ | ⟨ws, x', A', cap', bA', bc', pA', pc', N, XS, hr, rfl, hx', hB, hP, hl, hX, rfl⟩, ⟨v, he, rfl⟩ | ⟨n, he, rfl⟩⟩
  ·cases he
  ·have hn : n = 2 := refusal_inj (by injection he with he; exact he.symm)
   subst hn
   have hmay : mayB a = false := by
    cases hm : mayB a with
    | false => rfl
    | true =>
     have := (may_iff a i hi25 hki ((restW a).map Str)).2 ⟨hm, rfl⟩
     rw [hki, hr] at this
     cases this
   conv => whnf
   refine br_t rfl ?_
   conv => whnf
   (repeat ((first | refine stp (by (repeat constructor); first | done | fail) ?_ | refine stn (by (repeat constructor); first | done | fail) ?_ | refine sto (by (repeat constructor); first | done | fail) (by first | omega | (simp only; omega)) ?_ | refine .mk fun Ap capp => ?_ | refine ⟨?_, trivial⟩ | intro _); conv => whnf))
   refine br_t rfl ?_
   conv => whnf
   (repeat ((first | refine stp (by (repeat constructor); first | done | fail) ?_ | refine stn (by (repeat constructor); first | done | fail) ?_ | refine sto (by (repeat constructor); first | done | fail) (by first | omega | (simp only; omega)) ?_ | refine .mk fun Ap capp => ?_ | refine ⟨?_, trivial⟩ | intro _); conv => whnf))
   refine fin2 rfl rfl rfl (fun w' hm => ⟨?_, hm.fr⟩)
   rw [hmay]; rfl
  ·have hkx : x'.kind = a.kind := telK_kind hr
   conv => whnf
   refine br_f rfl ?_
   conv => whnf
   (repeat ((first | refine stp (by (repeat constructor); first | done | fail) ?_ | refine stn (by (repeat constructor); first | done | fail) ?_ | refine sto (by (repeat constructor); first | done | fail) (by first | omega | (simp only; omega)) ?_ | refine .mk fun Ap capp => ?_ | refine ⟨?_, trivial⟩ | intro _); conv => whnf))
   refine ⟨ssame_enters, cl_same _ (fun w' hm' => ssame_any x' (nilAct x'.kind) bA' none pA' none bc' 0 pc' 0 w' ⟨hx', hB w' (hN w' hm'.fr).act.bytes, hP w' (hN w' hm'.fr).act.picks⟩ ⟨nilAct_ok hx'.kind, BytsIn.nil _ _, IntsIn.nil _ _ _⟩) ?_⟩
   conv => whnf
   (repeat ((first | refine stp (by (repeat constructor); first | done | fail) ?_ | refine stn (by (repeat constructor); first | done | fail) ?_ | refine sto (by (repeat constructor); first | done | fail) (by first | omega | (simp only; omega)) ?_ | refine .mk fun Ap capp => ?_ | refine ⟨?_, trivial⟩ | intro _); conv => whnf))
   refine br_n (br (fun hs => ?_) (fun hs => ?_))
   ·have hs2 := (sameB_iff _ _).1 hs
    rw [hkx] at hs2
    rw [hs2, ← hki] at hr
    obtain ⟨hmay, hws⟩ := (may_iff a i hi25 hki ws).1 hr
    have hXS : XS = ((lineW a).map Str).map Value.string := by rw [hX, hws, lineW, ← hki]; rfl
    have hNN : N = (lineW a).length := by rw [hl, hws, lineW, List.length_map, List.length_cons]; omega
    clear hX hl hws hr
    subst hXS hNN
    have hW := lineW_len hmay
    have hL := line_len hok hmay
    have eL : joinB (((lineW a).map Str).map bs) = lineL a := by
     rw [List.map_map, show (bs ∘ Str) = id from funext fun l => bs_Str l, List.map_id]; rfl
    conv => whnf
    (repeat ((first | refine stp (by (repeat constructor); first | done | fail) ?_ | refine stn (by (repeat constructor); first | done | fail) ?_ | refine sto (by (repeat constructor); first | done | fail) (by first | omega | (simp only; omega)) ?_ | refine .mk fun Ap capp => ?_ | refine ⟨?_, trivial⟩ | intro _); conv => whnf))
    refine ⟨join_enters, cl_same _ (fun w' hm' => join_any (ws := (lineW a).map Str) (hm'.ok (.row A' cap' (lineW a).length 9 1 (((lineW a).map Str).map Value.string)) (Has.mem (by (repeat constructor); first | done | fail))) (by simp [lineW]) (by rw [eL]; exact hL) (by omega)) ?_⟩
    conv => whnf
    refine fin2 rfl rfl rfl (fun w' hm => ⟨?_, hm.fr⟩)
    rw [hmay, eL]; rfl
   ·have hmay : mayB a = false := by
     cases hm : mayB a with
     | false => rfl
     | true =>
      have := (may_iff a i hi25 hki ((restW a).map Str)).2 ⟨hm, rfl⟩
      rw [hki, hr] at this
      simp only [Option.some.injEq, Prod.mk.injEq] at this
      rw [(sameB_iff _ _).2 (by rw [hkx]; rw [this.2, hki])] at hs
      cases hs
    conv => whnf
    refine fin2 rfl rfl rfl (fun w' hm => ⟨?_, hm.fr⟩)
    rw [hmay]; rfl
  ·cases he
theorem line_enters : Eng.Enters Tryz.prog 34 := enters_mk fun _ _ => by kernel_rfl

set_option maxRecDepth 100000 in
theorem check_any (a : PAct) (bA pA : Option Addr) (bc pc : Nat) (w : World) (ha : ActW w a bA pA) :
  Calls Tryz.prog 19 #[.agg (actL a bA bc pA pc).toArray] w fun e w' => e = .returned (.int .i64 (if mayB a then 0 else 2)) ∧ Fr (fun _ => False) w w' := by
 refine enter (cx := CX 11 [] w) [(0, .agg (actL a bA bc pA pc).toArray)] tab_ok Tryz.func19 rfl rfl rfl rfl (MemOk.nil w _) ?_
 conv => whnf
 (repeat ((first | refine ⟨line_enters, cl_same _ (fun w' hm' => line_any a bA pA bc pc w' (ha.stb hm'.fr)) ?_⟩ | refine stp (by (repeat constructor); first | done | fail) ?_ | refine stn (by (repeat constructor); first | done | fail) ?_ | refine sto (by (repeat constructor); first | done | fail) (by first | omega | (simp only; omega)) ?_ | refine .mk fun Ap capp => ?_ | refine ⟨?_, trivial⟩ | intro _); conv => whnf))
 exact fin1 rfl rfl (fun w' hm => ⟨rfl, hm.fr⟩)
theorem check_enters : Eng.Enters Tryz.prog 19 := enters_mk fun _ _ => by kernel_rfl
/-- What Line answers. -/
def lineE (a : PAct) : Int := if mayB a then (if 1048576 < (lineL a).length then 3 else 0) else 2
def lineS (a : PAct) : List UInt8 := if mayB a && decide ((lineL a).length ≤ 1048576) then lineL a else []
set_option maxRecDepth 100000 in
theorem Line_any (a : PAct) (bA pA : Option Addr) (bc pc : Nat) (w : World) (ha : ActW w a bA pA) :
  Calls Tryz.prog 11 #[.agg (actL a bA bc pA pc).toArray] w fun e w' => e = .returned (.tuple #[.string (Str (lineS a)), .int .i64 (lineE a)]) ∧ Fr (fun _ => False) w w' := by
 refine enter (cx := CX 20 [] w) [(0, .agg (actL a bA bc pA pc).toArray)] tab_ok Tryz.func11 rfl rfl rfl rfl (MemOk.nil w _) ?_
 cases hmay : mayB a with
 | false =>
  have hc := fun w' hf => line_any a bA pA bc pc w' (ha.stb hf)
  simp only [hmay, Bool.false_eq_true, if_false] at hc
  conv => whnf
  (repeat ((first | refine ⟨line_enters, cl_same _ (fun w' hm' => hc w' hm'.fr) ?_⟩ | refine stp (by (repeat constructor); first | done | fail) ?_ | refine stn (by (repeat constructor); first | done | fail) ?_ | refine sto (by (repeat constructor); first | done | fail) (by first | omega | (simp only; omega)) ?_ | refine .mk fun Ap capp => ?_ | refine ⟨?_, trivial⟩ | intro _); conv => whnf))
  refine br_n (br_f rfl ?_)
  conv => whnf
  refine fin2 rfl rfl rfl (fun w' hm => ⟨?_, hm.fr⟩)
  simp [lineS, lineE, hmay]
 | true =>
  have hc := fun w' hf => line_any a bA pA bc pc w' (ha.stb hf)
  simp only [hmay, if_true] at hc
  have hsz := Str.size (lineL a)
  conv => whnf
  (repeat ((first | refine ⟨line_enters, cl_same _ (fun w' hm' => hc w' hm'.fr) ?_⟩ | refine stp (by (repeat constructor); first | done | fail) ?_ | refine stn (by (repeat constructor); first | done | fail) ?_ | refine sto (by (repeat constructor); first | done | fail) (by first | omega | (simp only; omega)) ?_ | refine .mk fun Ap capp => ?_ | refine ⟨?_, trivial⟩ | intro _); conv => whnf))
  refine br_n (br_t rfl ?_)
  conv => whnf
  (repeat ((first | refine stp (by (repeat constructor); first | done | fail) ?_ | refine stn (by (repeat constructor); first | done | fail) ?_ | refine sto (by (repeat constructor); first | done | fail) (by first | omega | (simp only; omega)) ?_ | refine .mk fun Ap capp => ?_ | refine ⟨?_, trivial⟩ | intro _); conv => whnf))
  refine br_d (fun h => ?_) (fun h => ?_)
  ·conv => whnf
   refine fin2 rfl rfl rfl (fun w' hm => ⟨?_, hm.fr⟩)
   rw [hsz] at h
   have h2 : ¬ (lineL a).length ≤ 1048576 := by omega
   have h3 : 1048576 < (lineL a).length := by omega
   simp [lineS, lineE, hmay, h2, h3]
  ·conv => whnf
   refine fin2 rfl rfl rfl (fun w' hm => ⟨?_, hm.fr⟩)
   rw [hsz] at h
   have h2 : (lineL a).length ≤ 1048576 := by omega
   have h3 : ¬ 1048576 < (lineL a).length := by omega
   simp [lineS, lineE, hmay, h2, h3]
theorem Line_enters : Eng.Enters Tryz.prog 11 := enters_mk fun _ _ => by kernel_rfl
end Go.Proofs.YtbfbjgakmnckbaaGreatDoor
namespace Go.Proofs.YtbfbjgakmnckbaaGreatDoor
open Go Go.RowKit Eng
attribute [local irreducible] Br Rn RnU Cl RdG CpG Ld Rd Lp Dr Oth Cut fin Fits Eng.Enters Md NA

/-- An act and where its slices lie. -/
structure LA where
 a : PAct
 bA : Option Addr
 bc : Nat
 pA : Option Addr
 pc : Nat
def LA.cells (x : LA) : List Value := actL x.a x.bA x.bc x.pA x.pc
def LA.val (x : LA) : Value := .agg x.cells.toArray
theorem LA.cells_length (x : LA) : x.cells.length = 13 := rfl
/-- A slice of acts, in a world. -/
structure ActsIn (w : World) (A : Option Addr) (L : List LA) : Prop where
 at_ : 0 < L.length → ∃ b o, A = some ⟨b, o, none⟩ ∧ ∀ i x, L[i]? = some x → ∀ j v, x.cells[j]? = some v → w.cell? ⟨b, o + (i * 13 + j), none⟩ = some v
 act : ∀ x ∈ L, ActIn w x.a x.bA x.pA
theorem actIn_fr {a : PAct} {bA pA : Option Addr} {w w' : World} (h : ActIn w a bA pA) (hf : Fr (fun _ => False) w w') : ActIn w' a bA pA :=
 ⟨h.ok, fun hn => let ⟨b, o, e, hc⟩ := h.bytes hn; ⟨b, o, e, fun i hi => (World.cell?_of_block (hf.block b (World.block_lt_of_cell? w ⟨b, o + i, none⟩ (hc i hi)) id)).trans (hc i hi)⟩,
  fun hn => let ⟨b, o, e, hc⟩ := h.picks hn; ⟨b, o, e, fun i hi => (World.cell?_of_block (hf.block b (World.block_lt_of_cell? w ⟨b, o + i, none⟩ (hc i hi)) id)).trans (hc i hi)⟩⟩
theorem ActsIn.fr {w w' : World} {A : Option Addr} {L : List LA} (h : ActsIn w A L) (hf : Fr (fun _ => False) w w') : ActsIn w' A L :=
 ⟨fun hn => let ⟨b, o, e, hc⟩ := h.at_ hn; ⟨b, o, e, fun i x hx j v hv => (World.cell?_of_block (hf.block b (World.block_lt_of_cell? w ⟨b, o + (i * 13 + j), none⟩ (hc i x hx j v hv)) id)).trans (hc i x hx j v hv)⟩,
  fun x hx => actIn_fr (h.act x hx) hf⟩
theorem ActsIn.plain {w : World} {A : Option Addr} {L : List LA} (h : ActsIn w A L) (hn : 0 < L.length) : Pl A := let ⟨b, o, e, _⟩ := h.at_ hn; ⟨b, o, e⟩
/-- An element of the slice is loaded. -/
theorem ActsIn.ld {cx : Cx} (hP : cx.P = Tryz.prog) (hT : cx.tab = tab) {m : Mem} {A : Option Addr} {L : List LA} (h : ActsIn cx.w0 A L) (hS : ∀ b, ¬ cx.S b) {i : Nat} {x : LA} (hi : L[i]? = some x) : Ld cx m 29 (.pointer (pl A (mulC i 13))) x.val := by
 have hlt := (List.getElem?_eq_some_iff.1 hi).1
 obtain ⟨b, o, rfl, hc⟩ := h.at_ (by omega)
 refine ldFN (tab_cx hP hT) (a := ⟨b, o + mulC i 13, none⟩) (fun j v hj => ?_) (hS _) (i := ty29) (by rw [hT]; rfl) rfl rfl
 rw [Addr.add_lit, mulC_eq, Nat.add_assoc]
 exact hc i x hi j v hj
/-- .. one field of it. -/
theorem ActsIn.ldF {cx : Cx} (hP : cx.P = Tryz.prog) (hT : cx.tab = tab) {m : Mem} {A : Option Addr} {L : List LA} (h : ActsIn cx.w0 A L) (hS : ∀ b, ¬ cx.S b) {i j t : Nat} {ti : TyI} {x : LA} {v : Value} (hi : L[i]? = some x) (hv : x.cells[j]? = some v) (hti : cx.tab.get t = some ti) (hk : ti.kind.flat = true) :
  Ld cx m t (.pointer (pl (pl A (mulC i 13)) j)) v := by
 have hlt := (List.getElem?_eq_some_iff.1 hi).1
 obtain ⟨b, o, rfl, hc⟩ := h.at_ (by omega)
 refine Eng.ldF (tab_cx hP hT) (a := ⟨b, o + mulC i 13 + j, none⟩) ?_ (hS _) hti hk
 rw [mulC_eq, Nat.add_assoc]
 exact hc i x hi j v hv
theorem foot_no : ∀ b, ¬ Foot [] b := fun _ ⟨_, h, _⟩ => by cases h
end Go.Proofs.YtbfbjgakmnckbaaGreatDoor
namespace Go.Proofs.YtbfbjgakmnckbaaGreatDoor
open Go Go.RowKit Eng
attribute [local irreducible] Br Rn RnU Cl RdG CpG Ld Rd Lp Dr Oth Cut fin Fits Eng.Enters Md NA
/-- How many acts are of a kind. -/
def countK (k : Int) (L : List LA) : Nat := L.countP fun x => decide (x.a.kind = k)
theorem countK_succ {k : Int} {L : List LA} {i : Nat} {x : LA} (hi : L[i]? = some x) : countK k (L.take (i + 1)) = countK k (L.take i) + (if x.a.kind = k then 1 else 0) := by
 have hlt := (List.getElem?_eq_some_iff.1 hi).1
 have : L.take (i + 1) = L.take i ++ [x] := by rw [List.take_add_one, hi]; rfl
 unfold countK
 rw [this, List.countP_append]
 simp [List.countP_cons]
theorem count_enters : Eng.Enters Tryz.prog 30 := enters_mk fun _ _ => by kernel_rfl
set_option maxRecDepth 100000 in
theorem count_any (k : Int) (A : Option Addr) (c : Nat) (L : List LA) (w : World) (hL : ActsIn w A L) (hn : L.length ≤ 1048576) :
  Calls Tryz.prog 30 #[.int .i64 k, .slice A L.length c] w fun e w' => e = .returned (.int .i64 (countK k L : Nat)) ∧ Fr (fun _ => False) w w' := by
 refine enter (cx := CX 22 [] w) [(0, .int .i64 k), (1, .slice A L.length c)] tab_ok Tryz.func30 rfl rfl rfl rfl (MemOk.nil w _) ?_
 conv => whnf
 refine lp tab_ok (γ := Nat) (fun i => i ≤ L.length) (fun i => [(10, .int .i64 i), (8, .slice A L.length c), (9, .int .i64 L.length), (0, .int .i64 k), (5, .int .i64 (countK k (L.take i) : Nat))]) (fun _ => []) (fun i => L.length - i) 0 (by omega) ⟨rfl, rfl, rfl, rfl, rfl, trivial⟩ (SubM.refl _ _) ?_
 intro i hi
 change XC _ _ _ [(10, .int .i64 (i : Int)), (8, .slice A L.length c), (9, .int .i64 L.length), (0, .int .i64 k), (5, .int .i64 (countK k (L.take i) : Nat))] []
 conv => whnf
 refine br_d (fun hlt => ?_) (fun hge => ?_)
 ·have hlt' : i < L.length := by omega
  have hx := List.getElem?_eq_getElem hlt'
  have hpl := hL.plain (by omega)
  conv => whnf
  refine And.intro ⟨by omega, by omega, hpl⟩ ?_
  conv => whnf
  refine rn_load (hL.ld rfl rfl (fun _ h => h) hx) ?_
  conv => whnf
  intro xB
  conv => whnf
  (repeat ((first | refine stp (by (repeat constructor); first | done | fail) ?_ | refine stn (by (repeat constructor); first | done | fail) ?_ | refine sto (by (repeat constructor); first | done | fail) (by first | omega | (simp only; omega)) ?_ | refine .mk fun Ap capp => ?_ | refine ⟨?_, trivial⟩ | intro _); conv => whnf))
  have hc := (List.countP_le_length (p := fun x => decide (x.a.kind = k)) (l := L.take i))
  rw [List.length_take] at hc
  have hc : countK k (L.take i) ≤ min i L.length := hc
  refine br_d (fun hb => ?_) (fun hb => ?_)
  ·conv => whnf
   (repeat ((first | refine stp (by (repeat constructor); first | done | fail) ?_ | refine stn (by (repeat constructor); first | done | fail) ?_ | refine sto (by (repeat constructor); first | done | fail) (by first | omega | (simp only; omega)) ?_ | refine .mk fun Ap capp => ?_ | refine ⟨?_, trivial⟩ | intro _); conv => whnf))
   exact ⟨i + 1, by omega, by omega, ⟨rfl, rfl, rfl, rfl, by rw [countK_succ hx, if_pos hb]; rfl, trivial⟩, SubM.sub (List.nil_sublist _)⟩
  ·conv => whnf
   (repeat ((first | refine stp (by (repeat constructor); first | done | fail) ?_ | refine stn (by (repeat constructor); first | done | fail) ?_ | refine sto (by (repeat constructor); first | done | fail) (by first | omega | (simp only; omega)) ?_ | refine .mk fun Ap capp => ?_ | refine ⟨?_, trivial⟩ | intro _); conv => whnf))
   exact ⟨i + 1, by omega, by omega, ⟨rfl, rfl, rfl, rfl, by rw [countK_succ hx, if_neg hb]; rfl, trivial⟩, SubM.sub (List.nil_sublist _)⟩
 ·conv => whnf
  refine fin1 rfl rfl (fun w' hm => ⟨?_, hm.fr⟩)
  rw [show L.take i = L from List.take_of_length_le (by omega)]
theorem spoil_enters : Eng.Enters Tryz.prog 33 := enters_mk fun _ _ => by kernel_rfl
/-- The rows of an act that may be written over. -/
abbrev SpB (x : LA) (bs : List Value) : Res := .row x.bA x.bc x.a.bytes.length 5 1 bs
abbrev SpP (x : LA) (ps : List Value) : Res := .row x.pA x.pc x.a.picks.length 3 1 ps
set_option maxRecDepth 100000 in
theorem spoil_any (x : LA) (hx : x.a.Ok) (w : World) (m : Mem) (hm' : m = [SpB x ((numsOf x.a.bytes).map (.int .u8)), SpP x (x.a.picks.map (.int .i64))]) (hm : MemOk w (Foot m) m w) :
  Ctr Tryz.prog 33 [x.val] m (fun e m' => e = .returned (.tuple #[]) ∧ m' = []) w := by
 have hb := hx.bytes
 have hp := hx.picks
 subst hm'
 have hplB : 0 < x.a.bytes.length → Pl x.bA := fun h => by
  obtain ⟨b, e, _⟩ := row_cell (hm.ok _ (List.mem_cons_self ..)) (j := 0) (v := .int .u8 ((numsOf x.a.bytes).getD 0 0)) (by simp [List.getD, numsOf_length, h])
  exact ⟨b, 0, e⟩
 have hplP : 0 < x.a.picks.length → Pl x.pA := fun h => by
  obtain ⟨b, e, _⟩ := row_cell (hm.ok _ (List.mem_cons_of_mem _ (List.mem_cons_self ..))) (j := 0) (v := .int .i64 (x.a.picks.getD 0 0)) (by simp [List.getD, h])
  exact ⟨b, 0, e⟩
 refine enter (cx := CXS 29 [] w (Foot [SpB x ((numsOf x.a.bytes).map (.int .u8)), SpP x (x.a.picks.map (.int .i64))])) [(0, x.val)] tab_ok Tryz.func33 rfl rfl rfl rfl hm ?_
 conv => whnf
 intro xB
 conv => whnf
 refine lp tab_ok (γ := Nat × List Int) (fun g => g.1 ≤ x.a.bytes.length ∧ g.2.length = x.a.bytes.length) (fun g => [(2, .int .i64 g.1), (1, .pointer (some ⟨xB, 0, none⟩))]) (fun g => [SpB x (g.2.map (.int .u8)), .blk xB (.cells x.cells.toArray 29), SpP x (x.a.picks.map (.int .i64))]) (fun g => x.a.bytes.length - g.1) (0, numsOf x.a.bytes) ⟨by simp, by simp [numsOf_length]⟩ ⟨rfl, rfl, trivial⟩ (SubM.sel (by (repeat constructor); first | done | fail)) ?_
 ·rintro ⟨i, ns⟩ ⟨hi, hl⟩
  simp only at hi hl
  change XC _ _ _ [(2, .int .i64 (i : Int)), (1, .pointer (some ⟨xB, 0, none⟩))] [SpB x (ns.map (.int .u8)), .blk xB (.cells x.cells.toArray 29), SpP x (x.a.picks.map (.int .i64))]
  conv => whnf
  (repeat ((first | refine stp (by (repeat constructor); first | done | fail) ?_ | refine stn (by (repeat constructor); first | done | fail) ?_ | refine sto (by (repeat constructor); first | done | fail) (by first | omega | (simp only; omega)) ?_ | refine .mk fun Ap capp => ?_ | refine ⟨?_, trivial⟩ | intro _); conv => whnf))
  refine br_d (fun hlt => ?_) (fun hge => ?_)
  ·have hlt' : i < x.a.bytes.length := by omega
   have hg : (ns.map (Value.int .u8))[i]? = some (.int .u8 (ns.getD i 0)) := by simp [List.getD, List.getElem?_map, List.getElem?_eq_getElem (show i < ns.length by omega)]
   conv => whnf
   (repeat ((first | refine stp (by (repeat constructor); first | done | fail) ?_ | refine stn (by (repeat constructor); first | done | fail) ?_ | refine sto (by (repeat constructor); first | done | fail) (by first | omega | (simp only; omega)) ?_ | refine .mk fun Ap capp => ?_ | refine ⟨?_, trivial⟩ | intro _); conv => whnf))
   refine And.intro ⟨by omega, by omega, hplB (by omega)⟩ ?_
   conv => whnf
   refine rn_load (ldR tab_ok .here rfl rfl hg) ?_
   conv => whnf
   (repeat ((first | refine stp (by (repeat constructor); first | done | fail) ?_ | refine stn (by (repeat constructor); first | done | fail) ?_ | refine sto (by (repeat constructor); first | done | fail) (by first | omega | (simp only; omega)) ?_ | refine .mk fun Ap capp => ?_ | refine ⟨?_, trivial⟩ | intro _); conv => whnf))
   refine And.intro ⟨by omega, by omega, hplB (by omega)⟩ ?_
   conv => whnf
   refine rn_storeR (off := i) (xs' := (ns.set i (bits .xor .u8 (ns.getD i 0) 255)).map (.int .u8)) tab_ok rfl .here rfl rfl (by show i + 1 ≤ x.a.bytes.length * 1; omega) (Nat.one_pos) (by rw [List.map_set]; rfl) ?_
   conv => whnf
   (repeat ((first | refine stp (by (repeat constructor); first | done | fail) ?_ | refine stn (by (repeat constructor); first | done | fail) ?_ | refine sto (by (repeat constructor); first | done | fail) (by first | omega | (simp only; omega)) ?_ | refine .mk fun Ap capp => ?_ | refine ⟨?_, trivial⟩ | intro _); conv => whnf))
   exact ⟨(i + 1, ns.set i (bits .xor .u8 (ns.getD i 0) 255)), ⟨by simp; omega, by simp [hl]⟩, by simp; omega, ⟨rfl, rfl, trivial⟩, SubM.refl _ _⟩
  ·conv => whnf
   (repeat ((first | refine stp (by (repeat constructor); first | done | fail) ?_ | refine stn (by (repeat constructor); first | done | fail) ?_ | refine sto (by (repeat constructor); first | done | fail) (by first | omega | (simp only; omega)) ?_ | refine .mk fun Ap capp => ?_ | refine ⟨?_, trivial⟩ | intro _); conv => whnf))
   refine lp tab_ok (γ := Nat × List Int) (fun g => g.1 ≤ x.a.picks.length ∧ g.2.length = x.a.picks.length) (fun g => [(3, .int .i64 g.1), (1, .pointer (some ⟨xB, 0, none⟩))]) (fun g => [SpP x (g.2.map (.int .i64)), .blk xB (.cells x.cells.toArray 29)]) (fun g => x.a.picks.length - g.1) (0, x.a.picks) ⟨by simp, rfl⟩ ⟨rfl, rfl, trivial⟩ (SubM.sel (by (repeat constructor); first | done | fail)) ?_
   rintro ⟨j, ps⟩ ⟨hj, hpl⟩
   simp only at hj hpl
   change XC _ _ _ [(3, .int .i64 (j : Int)), (1, .pointer (some ⟨xB, 0, none⟩))] [SpP x (ps.map (.int .i64)), .blk xB (.cells x.cells.toArray 29)]
   conv => whnf
   (repeat ((first | refine stp (by (repeat constructor); first | done | fail) ?_ | refine stn (by (repeat constructor); first | done | fail) ?_ | refine sto (by (repeat constructor); first | done | fail) (by first | omega | (simp only; omega)) ?_ | refine .mk fun Ap capp => ?_ | refine ⟨?_, trivial⟩ | intro _); conv => whnf))
   refine br_d (fun hlt => ?_) (fun hge => ?_)
   ·conv => whnf
    (repeat ((first | refine stp (by (repeat constructor); first | done | fail) ?_ | refine stn (by (repeat constructor); first | done | fail) ?_ | refine sto (by (repeat constructor); first | done | fail) (by first | omega | (simp only; omega)) ?_ | refine .mk fun Ap capp => ?_ | refine ⟨?_, trivial⟩ | intro _); conv => whnf))
    refine And.intro ⟨by omega, by omega, hplP (by omega)⟩ ?_
    conv => whnf
    refine rn_storeR (off := j) (xs' := (ps.set j (-5)).map (.int .i64)) tab_ok rfl .here rfl rfl (by show j + 1 ≤ x.a.picks.length * 1; omega) (Nat.one_pos) (by rw [List.map_set]; rfl) ?_
    conv => whnf
    (repeat ((first | refine stp (by (repeat constructor); first | done | fail) ?_ | refine stn (by (repeat constructor); first | done | fail) ?_ | refine sto (by (repeat constructor); first | done | fail) (by first | omega | (simp only; omega)) ?_ | refine .mk fun Ap capp => ?_ | refine ⟨?_, trivial⟩ | intro _); conv => whnf))
    exact ⟨(j + 1, ps.set j (-5)), ⟨by simp; omega, by simp [hpl]⟩, by simp; omega, ⟨rfl, rfl, trivial⟩, SubM.refl _ _⟩
   ·conv => whnf
    exact fin0 rfl (fun w' hm => ⟨_, ⟨rfl, rfl⟩, hm.sel .nil⟩) (by first | exact .inr rfl | exact .inl rfl)
end Go.Proofs.YtbfbjgakmnckbaaGreatDoor
namespace Go.Proofs.YtbfbjgakmnckbaaGreatDoor
open Go Go.RowKit Eng
theorem run_append_zero {P : Program} {w : World} (base : Nat) (t ty e : TypeId) (i : TypeInfo) (size : Nat) (ht : P.underlying t = some (.slice e)) (hi : P.info? e = some i)
  (v : Value) (n : Nat) (xs : List Value) (hown : w.ownsRow base e size v n xs) (p : Option Addr) (c : Nat) :
  (Builtin.append_ #[t, t] ty #[v, .slice p 0 c]).run P w = .ok v w := by
 rcases hown.2 with ⟨rfl, rfl⟩ | ⟨g, cap, cur, rfl, _, _, hnc, _⟩
 ·cases p <;> simp [Builtin.append_, run_underlying ht, sizeOf, typeInfo, hi, Builtin.lenOf, Builtin.firstCells, loadCells, loadCellsFrom]
 ·cases p <;> simp [Builtin.append_, run_underlying ht, sizeOf, typeInfo, hi, Builtin.lenOf, Builtin.firstCells, hnc, storeCells, loadCells, loadCellsFrom]
theorem allOne_ints (k : IntKind) : ∀ ys : List Int, allOne (ys.map (.int k)) = true
 | [] => rfl
 | _ :: r => allOne_ints k r
section
variable {cx : Cx}
/-- append onto an owned row: the row that comes out is not nil. -/
theorem rn_appP (ht : TabOk cx.P cx.tab) {m m' : Mem} {t e ty : Nat} {i ti : TyI} {A : Option Addr} {cap n size : Nat} {xs : List Value} {a : Addr} {k c : Nat} {news : List Value} {K : Value → Mem → Prop}
  (hi : cx.tab.get t = some i) (hk : i.kind = .slice e) (hti : cx.tab.get e = some ti) (hz : ti.zero.length = ti.cells) (hs : ti.cells = size) (hp : (Nat.ble 1 ti.cells && Nat.ble ti.bytes 4096) = true)
  (hu : Out m (.row A cap n e size xs) m') (hl : news.length = k * size) (hnews : ∀ w, MemOk cx.w0 cx.S m w → ∀ j u, news[j]? = some u → w.cell? (a.add j) = some u) (h1 : allOne news = true)
  (hb : n + k ≤ 34359738368) (hn : 0 < n + k) (hK : ∀ g cap', n + k ≤ cap' → K (.slice (some ⟨g, 0, none⟩) (n + k) cap') (.row (some ⟨g, 0, none⟩) cap' (n + k) e size (xs ++ news) :: m')) :
  Rn cx m (Builtin.append_ #[t, t] ty #[.slice A n cap, .slice (some a) k c]) K := by
 intro w hm
 obtain ⟨v, w', m2, hr, hm2, A', cap', rfl, rfl⟩ := rn_app (cx := cx) (K := fun v m2 => ∃ A' cap', v = .slice A' (n + k) cap' ∧ m2 = (.row A' cap' (n + k) e size (xs ++ news) :: m')) ht hi hk hti hz hs hp hu hl hnews h1 hb (fun A' cap' => ⟨A', cap', rfl, rfl⟩) w hm
 have ho : w'.ownsRow 0 e size (.slice A' (n + k) cap') (n + k) (xs ++ news) := hm2.ok _ (List.mem_cons_self ..)
 rcases ho.2 with ⟨_, e2⟩ | ⟨g, c', cur, e1, _, _, h1, _⟩
 ·omega
 ·injection e1 with e1 _ e3
  subst e1 e3
  exact ⟨_, w', _, hr, hm2, hK g _ h1⟩
theorem rn_subm {m m1 : Mem} {I : Sem Value} {K : Value → Mem → Prop} (h : SubM cx m m1) (hr : Rn cx m1 I K) : Rn cx m I K := fun w hm => hr w (h w hm)
/-- append onto a row that is owned, of a slice of numbers. -/
theorem rn_appI (ht : TabOk cx.P cx.tab) {m m' : Mem} {t e ty : Nat} {i ti : TyI} {A : Option Addr} {cap n : Nat} {xs : List Value} {p : Option Addr} {c : Nat} {k : IntKind} {ys : List Int} {K : Value → Mem → Prop}
  (hi : cx.tab.get t = some i) (hk : i.kind = .slice e) (hti : cx.tab.get e = some ti) (hz : ti.zero.length = ti.cells) (hs : ti.cells = 1) (hp : (Nat.ble 1 ti.cells && Nat.ble ti.bytes 4096) = true)
  (hu : Out m (.row A cap n e 1 xs) m') (hy : ∀ w, MemOk cx.w0 cx.S m w → IntsIn k w p ys)
  (hb : n + ys.length ≤ 34359738368) (hK : ∀ A' cap', K (.slice A' (n + ys.length) cap') (.row A' cap' (n + ys.length) e 1 (xs ++ ys.map (.int k)) :: m')) :
  Rn cx m (Builtin.append_ #[t, t] ty #[.slice A n cap, .slice p ys.length c]) K := by
 by_cases h0 : ys = []
 ·subst h0
  intro w hm
  obtain ⟨inf, z, g1, g2, g3, g4, g5⟩ := TyI.zeroOf (ht _ _ hti)
  have hm1 := hm.perm hu.perm
  have hown : w.ownsRow 0 e 1 (.slice A n cap) n xs := hm1.ok _ (List.mem_cons_self ..)
  have hr := run_append_zero (P := cx.P) 0 t ty e inf 1 (TyI.sliceOf (ht _ _ hi) hk) g1 _ n xs hown p c
  have := hK A cap
  simp only [List.length_nil, Nat.add_zero, List.map_nil, List.append_nil] at this
  exact ⟨_, w, _, hr, hm1, this⟩
 ·intro w hm
  have hpos : 0 < ys.length := List.length_pos_iff.2 h0
  obtain ⟨b, o, rfl, _⟩ := hy w hm hpos
  refine rn_app (cx := cx) (news := ys.map (.int k)) (a := ⟨b, o, none⟩) (k := ys.length) (size := 1) ht hi hk hti hz hs hp hu (by simp) (fun w' hm' j u hj => ?_) ?_ hb hK w hm
  ·obtain ⟨b', o', hbo, hc⟩ := hy w' hm' hpos
   injection hbo with hbo; injection hbo with e1 e2; subst e1 e2
   rw [List.getElem?_map] at hj
   cases hys : ys[j]? with
   | none => rw [hys] at hj; cases hj
   | some y =>
    rw [hys] at hj
    injection hj with hj
    subst hj
    have hjl : j < ys.length := (List.getElem?_eq_some_iff.1 hys).1
    have := hc j hjl
    rw [List.getD, hys] at this
    rw [Addr.add_lit]
    exact this
  ·exact allOne_ints k ys
end
end Go.Proofs.YtbfbjgakmnckbaaGreatDoor
namespace Go.Proofs.YtbfbjgakmnckbaaGreatDoor
open Go Go.RowKit Eng
attribute [local irreducible] Br Rn RnU Cl RdG CpG Ld Rd Lp Dr Oth Cut fin Fits Eng.Enters Md NA
theorem cloneB_enters : Eng.Enters Tryz.prog 62 := enters_mk fun _ _ => by kernel_rfl
theorem cloneI_enters : Eng.Enters Tryz.prog 63 := enters_mk fun _ _ => by kernel_rfl
theorem eqBnil (t n c : Nat) (w : World) : (eqSem .eql 23 (.tmp t) (.const (.slice none 0 0)) (.slice none n c) (.slice none 0 0)).run Tryz.prog w = .ok (.bool true) w := by kernel_rfl
theorem eqBsome (t n c : Nat) (a : Addr) (w : World) : (eqSem .eql 23 (.tmp t) (.const (.slice none 0 0)) (.slice (some a) n c) (.slice none 0 0)).run Tryz.prog w = .ok (.bool false) w := by kernel_rfl
theorem eqInil (t n c : Nat) (w : World) : (eqSem .eql 27 (.tmp t) (.const (.slice none 0 0)) (.slice none n c) (.slice none 0 0)).run Tryz.prog w = .ok (.bool true) w := by kernel_rfl
theorem eqIsome (t n c : Nat) (a : Addr) (w : World) : (eqSem .eql 27 (.tmp t) (.const (.slice none 0 0)) (.slice (some a) n c) (.slice none 0 0)).run Tryz.prog w = .ok (.bool false) w := by kernel_rfl
set_option maxRecDepth 100000 in
theorem cloneI_any (A : Option Addr) (c : Nat) (xs : List Int) (w : World) (hb : IntsIn .i64 w A xs) (hn : xs.length ≤ 1048576) :
  Ctr Tryz.prog 63 [.slice A xs.length c] [] (fun e m' => ∃ A' c', e = .returned (.slice A' xs.length c') ∧ m' = [.row A' c' xs.length 3 1 (xs.map (.int .i64))]) w := by
 have hF : ∀ w', Fr (Foot []) w w' → IntsIn .i64 w' A xs := fun w' hf hn => let ⟨b, o, e, hc⟩ := hb hn; ⟨b, o, e, fun i hi => (World.cell?_of_block (hf.block b (World.block_lt_of_cell? w ⟨b, o + i, none⟩ (hc i hi)) (foot_no _))).trans (hc i hi)⟩
 cases A with
 | none =>
  have h0 : xs = [] := by
   cases xs with
   | nil => rfl
   | cons x r => obtain ⟨b, o, e, _⟩ := hb (by simp); cases e
  subst h0
  refine enter (cx := CXS 8 [] w (Foot [])) [(0, .slice none 0 c)] tab_ok Tryz.func63 rfl rfl rfl rfl (MemOk.nil w _) ?_
  conv => whnf
  (repeat ((first | refine stp (by (repeat constructor); first | done | fail) ?_ | refine stn (by (repeat constructor); first | done | fail) ?_ | refine sto (by (repeat constructor); first | done | fail) (by first | omega | (simp only; omega)) ?_ | refine .mk fun Ap capp => ?_ | refine ⟨?_, trivial⟩ | intro _); conv => whnf))
  refine Rd.n (rd_all fun w => eqInil _ _ _ w) ?_
  conv => whnf
  refine br_t rfl ?_
  conv => whnf
  exact fin1 rfl rfl (fun w' hm => ⟨_, ⟨_, _, rfl, rfl⟩, hm.nilRow 3 1⟩)
 | some a =>
  refine enter (cx := CXS 8 [] w (Foot [])) [(0, .slice (some a) xs.length c)] tab_ok Tryz.func63 rfl rfl rfl rfl (MemOk.nil w _) ?_
  conv => whnf
  (repeat ((first | refine stp (by (repeat constructor); first | done | fail) ?_ | refine stn (by (repeat constructor); first | done | fail) ?_ | refine sto (by (repeat constructor); first | done | fail) (by first | omega | (simp only; omega)) ?_ | refine .mk fun Ap capp => ?_ | refine ⟨?_, trivial⟩ | intro _); conv => whnf))
  refine Rd.n (rd_all fun w => eqIsome _ _ _ _ w) ?_
  conv => whnf
  refine br_f rfl ?_
  conv => whnf
  intro zB
  conv => whnf
  refine rn_subm (SubM.torow (xs := []) (n := 0) (b := zB) (by (repeat constructor); first | done | fail) rfl rfl) ?_
  refine rn_appI (k := .i64) tab_ok rfl rfl rfl rfl rfl rfl .here (fun w' hm => hF w' hm.fr) (by omega) (fun A1 c1 => ?_)
  conv => whnf
  refine fin1 rfl rfl (fun w' hm => ⟨_, ⟨A1, c1, by rw [Nat.zero_add], by rw [Nat.zero_add]; rfl⟩, hm⟩)
set_option maxRecDepth 100000 in
theorem cloneU_any (A : Option Addr) (c : Nat) (xs : List Int) (w : World) (hb : IntsIn .u8 w A xs) (hn : xs.length ≤ 1048576) :
  Ctr Tryz.prog 62 [.slice A xs.length c] [] (fun e m' => ∃ A' c', e = .returned (.slice A' xs.length c') ∧ m' = [.row A' c' xs.length 5 1 (xs.map (.int .u8))]) w := by
 have hF : ∀ w', Fr (Foot []) w w' → IntsIn .u8 w' A xs := fun w' hf hn => let ⟨b, o, e, hc⟩ := hb hn; ⟨b, o, e, fun i hi => (World.cell?_of_block (hf.block b (World.block_lt_of_cell? w ⟨b, o + i, none⟩ (hc i hi)) (foot_no _))).trans (hc i hi)⟩
 cases A with
 | none =>
  have h0 : xs = [] := by
   cases xs with
   | nil => rfl
   | cons x r => obtain ⟨b, o, e, _⟩ := hb (by simp); cases e
  subst h0
  refine enter (cx := CXS 8 [] w (Foot [])) [(0, .slice none 0 c)] tab_ok Tryz.func62 rfl rfl rfl rfl (MemOk.nil w _) ?_
  conv => whnf
  (repeat ((first | refine stp (by (repeat constructor); first | done | fail) ?_ | refine stn (by (repeat constructor); first | done | fail) ?_ | refine sto (by (repeat constructor); first | done | fail) (by first | omega | (simp only; omega)) ?_ | refine .mk fun Ap capp => ?_ | refine ⟨?_, trivial⟩ | intro _); conv => whnf))
  refine Rd.n (rd_all fun w => eqBnil _ _ _ w) ?_
  conv => whnf
  refine br_t rfl ?_
  conv => whnf
  exact fin1 rfl rfl (fun w' hm => ⟨_, ⟨_, _, rfl, rfl⟩, hm.nilRow 5 1⟩)
 | some a =>
  refine enter (cx := CXS 8 [] w (Foot [])) [(0, .slice (some a) xs.length c)] tab_ok Tryz.func62 rfl rfl rfl rfl (MemOk.nil w _) ?_
  conv => whnf
  (repeat ((first | refine stp (by (repeat constructor); first | done | fail) ?_ | refine stn (by (repeat constructor); first | done | fail) ?_ | refine sto (by (repeat constructor); first | done | fail) (by first | omega | (simp only; omega)) ?_ | refine .mk fun Ap capp => ?_ | refine ⟨?_, trivial⟩ | intro _); conv => whnf))
  refine Rd.n (rd_all fun w => eqBsome _ _ _ _ w) ?_
  conv => whnf
  refine br_f rfl ?_
  conv => whnf
  intro zB
  conv => whnf
  refine rn_subm (SubM.torow (xs := []) (n := 0) (b := zB) (by (repeat constructor); first | done | fail) rfl rfl) ?_
  refine rn_appI (k := .u8) tab_ok rfl rfl rfl rfl rfl rfl .here (fun w' hm => hF w' hm.fr) (by omega) (fun A1 c1 => ?_)
  conv => whnf
  refine fin1 rfl rfl (fun w' hm => ⟨_, ⟨A1, c1, by rw [Nat.zero_add], by rw [Nat.zero_add]; rfl⟩, hm⟩)
theorem cloneB_any (A : Option Addr) (c : Nat) (bs : List UInt8) (w : World) (hb : BytsIn w A bs) (hn : bs.length ≤ 1048576) :
  Ctr Tryz.prog 62 [.slice A bs.length c] [] (fun e m' => ∃ A' c', e = .returned (.slice A' bs.length c') ∧ m' = [.row A' c' bs.length 5 1 ((numsOf bs).map (.int .u8))]) w := by
 have := cloneU_any A c (numsOf bs) w hb (by rw [numsOf_length]; exact hn)
 rwa [numsOf_length] at this

/-! ## Parts -/
structure PH where
 A : Option Addr
 c : Nat
 L : List LA
def PH.hdr (p : PH) : Value := .slice p.A p.L.length p.c
def PH.row (p : PH) : Res := .row p.A p.c p.L.length 29 13 (p.L.flatMap LA.cells)
def PH.acts (p : PH) : List PAct := p.L.map LA.a
abbrev clR (x : LA) : Mem := [SpB x ((numsOf x.a.bytes).map (.int .u8)), SpP x (x.a.picks.map (.int .i64))]
def clM (L : List LA) : Mem := L.flatMap clR
theorem clM_snoc (l : List LA) (y : LA) : clM (l ++ [y]) = clM l ++ clR y := by simp [clM]
theorem row_snoc (gA : Option Addr) (gc : Nat) (l : List LA) (y : LA) : PH.row ⟨gA, gc, l ++ [y]⟩ = .row gA gc (l.length + 1) 29 13 (l.flatMap LA.cells ++ y.cells) := by simp [PH.row]
theorem hdr_snoc (gA : Option Addr) (gc : Nat) (l : List LA) (y : LA) : PH.hdr ⟨gA, gc, l ++ [y]⟩ = .slice gA (l.length + 1) gc := by simp [PH.hdr]
def partStep (s : List (List PAct) × List PAct) (x : PAct) : List (List PAct) × List PAct := if x.kind = 25 then (s.1 ++ [s.2], []) else (s.1, s.2 ++ [x])
def partsL (l : List PAct) : List (List PAct) × List PAct := l.foldl partStep ([], [])
theorem partsL_snoc (l : List PAct) (x : PAct) : partsL (l ++ [x]) = partStep (partsL l) x := by simp [partsL]
/-- The parts of a script. -/
def partsAll (l : List PAct) : List (List PAct) := (partsL l).1 ++ [(partsL l).2]
theorem parts_enters : Eng.Enters Tryz.prog 28 := enters_mk fun _ _ => by kernel_rfl
abbrev PM (oB oc : Nat) (ps : List PH) (q : PH) : Mem := .row (some ⟨oB, 0, none⟩) oc (ps.length + 1) 46 1 ((ps ++ [q]).map PH.hdr) :: q.row :: (ps.map PH.row ++ clM (ps.flatMap PH.L ++ q.L))
abbrev PE (A : Option Addr) (c : Nat) (L : List LA) (i oB oc n : Nat) : Env := [(13, .int .i64 i), (11, .slice A L.length c), (12, .int .i64 L.length), (4, .slice (some ⟨oB, 0, none⟩) n oc)]
/-- What Parts leaves. -/
def PartsR (l : List PAct) (e : Ending) (m' : Mem) : Prop := ∃ (oB oc : Nat) (ps : List PH), e = .returned (.tuple #[.slice (some ⟨oB, 0, none⟩) ps.length oc, .int .i64 0]) ∧ ps.map PH.acts = partsAll l ∧ (∀ p ∈ ps, ∀ x ∈ p.L, x.a.Ok) ∧
 m' = .row (some ⟨oB, 0, none⟩) oc ps.length 46 1 (ps.map PH.hdr) :: (ps.map PH.row ++ clM (ps.flatMap PH.L))
theorem permB {α : Type} (q : α) (X Y : List α) : (q :: (X ++ Y)).Perm ((X ++ [q]) ++ Y) := by simpa using (List.perm_middle (l₁ := X) (l₂ := Y) (a := q)).symm
theorem permA {α : Type} (n o q : α) (X Y : List α) : (n :: o :: q :: (X ++ Y)).Perm (o :: n :: ((X ++ [q]) ++ Y)) := (List.Perm.swap ..).trans (((permB q X Y).cons _).cons _)
set_option maxRecDepth 100000 in
set_option maxHeartbeats 2000000 in
theorem parts_any (A : Option Addr) (c : Nat) (L : List LA) (w : World) (hL : ActsIn w A L) (hn : L.length ≤ 65536) (hB : ∀ x ∈ L, x.a.bytes.length ≤ 1048576 ∧ x.a.picks.length ≤ 1048576) :
  Ctr Tryz.prog 28 [.slice A L.length c] [] (PartsR (L.map LA.a)) w := by
 have hF : ∀ w', Fr (Foot []) w w' → Fr (fun _ => False) w w' := fun w' hf => hf.mono (fun k _ ⟨r, hr, _⟩ => by cases hr)
 refine enter (cx := CXS 47 [] w (Foot [])) [(0, .slice A L.length c)] tab_ok Tryz.func28 rfl rfl rfl rfl (MemOk.nil w _) ?_
 conv => whnf
 (repeat ((first | refine stp (by (repeat constructor); first | done | fail) ?_ | refine stn (by (repeat constructor); first | done | fail) ?_ | refine sto (by (repeat constructor); first | done | fail) (by first | omega | (simp only; omega)) ?_ | refine .mk fun Ap capp => ?_ | refine ⟨?_, trivial⟩ | intro _); conv => whnf))
 refine br_f (decide_eq_false (by omega)) ?_
 conv => whnf
 intro oB
 conv => whnf
 refine lp tab_ok (γ := Nat × Nat × Nat × List PH × PH) (fun g => g.1 ≤ L.length ∧ g.2.2.2.1.length ≤ g.1 ∧ g.2.2.2.2.L.length ≤ g.1 ∧ (g.2.2.2.1.map PH.acts, g.2.2.2.2.acts) = partsL ((L.take g.1).map LA.a) ∧ (∀ p ∈ g.2.2.2.1 ++ [g.2.2.2.2], ∀ x ∈ p.L, x.a.Ok))
  (fun g => PE A c L g.1 g.2.1 g.2.2.1 (g.2.2.2.1.length + 1)) (fun g => PM g.2.1 g.2.2.1 g.2.2.2.1 g.2.2.2.2) (fun g => L.length - g.1) (0, oB, 1, [], ⟨none, 0, []⟩) ⟨by omega, by simp, by simp, rfl, by simp⟩ ⟨rfl, rfl, rfl, rfl, trivial⟩
  (fun w hm => ((SubM.torow (xs := [.slice none 0 0]) (n := 1) (b := oB) .here rfl rfl w hm).nilRow 29 13).sel (.cons (.there .here) (.cons .here .nil))) ?_
 rintro ⟨i, oB, oc, ps, q⟩ ⟨hi, hpi, hqi, hsp, hok⟩
 simp only at hi hpi hqi hsp hok
 change XC _ _ _ (PE A c L i oB oc (ps.length + 1)) (PM oB oc ps q)
 conv => whnf
 refine br_d (fun hlt => ?_) (fun hge => ?_)
 ·have hlt' : i < L.length := by omega
  have hx := List.getElem?_eq_getElem hlt'
  have hpl := hL.plain (by omega)
  generalize L[i] = x at hx
  conv => whnf
  refine And.intro ⟨by omega, by omega, hpl⟩ ?_
  conv => whnf
  refine rn_load (hL.ld rfl rfl foot_no hx) ?_
  conv => whnf
  intro aB
  conv => whnf
  (repeat ((first | refine stp (by (repeat constructor); first | done | fail) ?_ | refine stn (by (repeat constructor); first | done | fail) ?_ | refine sto (by (repeat constructor); first | done | fail) (by first | omega | (simp only; omega)) ?_ | refine .mk fun Ap capp => ?_ | refine ⟨?_, trivial⟩ | intro _); conv => whnf))
  have hspx : partsL ((L.take (i + 1)).map LA.a) = partStep (ps.map PH.acts, q.acts) x.a := by
   rw [List.take_add_one, hx, hsp, ← partsL_snoc]; simp
  have hxA := hL.act x (List.mem_of_getElem? hx)
  have hxB := hB x (List.mem_of_getElem? hx)
  refine br_d (fun h25 => ?_) (fun h25 => ?_)
  ·conv => whnf
   intro nB
   conv => whnf
   refine rn_appP tab_ok rfl rfl rfl rfl rfl rfl (by (repeat constructor); first | done | fail) rfl (news_blk (by (repeat constructor); first | done | fail)) rfl (by omega) (by omega) (fun oB' oc' _ => ?_)
   conv => whnf
   (repeat ((first | refine stp (by (repeat constructor); first | done | fail) ?_ | refine stn (by (repeat constructor); first | done | fail) ?_ | refine sto (by (repeat constructor); first | done | fail) (by first | omega | (simp only; omega)) ?_ | refine .mk fun Ap capp => ?_ | refine ⟨?_, trivial⟩ | intro _); conv => whnf))
   refine ⟨(i + 1, oB', oc', ps ++ [q], ⟨none, 0, []⟩), ⟨by omega, by simp; omega, by simp, by rw [hspx, partStep, if_pos h25]; simp [PH.acts], ?_⟩, by simp only; omega, ⟨rfl, rfl, rfl, by simp only [List.length_append, List.length_singleton]; rfl, trivial⟩, fun w hm => ?_⟩
   ·intro p hp y hy
    rcases List.mem_append.1 hp with hp | hp
    ·exact hok p hp y hy
    ·simp only [List.mem_singleton] at hp; subst hp; cases hy
   ·have h1 := ((hm.sublist (List.Sublist.cons_cons _ (.cons _ (.cons _ (.refl _))))).nilRow 29 13).perm (permA _ _ q.row (ps.map PH.row) _)
    simp only [PM, List.map_append, List.length_append, List.flatMap_append, List.length_singleton, List.map_cons, List.map_nil, List.flatMap_cons, List.flatMap_nil, List.append_nil, PH.hdr, PH.row, List.length_nil] at h1 ⊢
    exact h1
  ·conv => whnf
   (repeat ((first | refine stp (by (repeat constructor); first | done | fail) ?_ | refine stn (by (repeat constructor); first | done | fail) ?_ | refine sto (by (repeat constructor); first | done | fail) (by first | omega | (simp only; omega)) ?_ | refine .mk fun Ap capp => ?_ | refine ⟨?_, trivial⟩ | intro _); conv => whnf))
   refine ⟨cloneB_enters, cl_mem (m1 := []) .nil (fun w' hm' => cloneB_any x.bA x.bc x.a.bytes w' (actIn_fr hxA (hF _ hm'.fr)).bytes hxB.1) ?_⟩
   rintro e m' ⟨bA', bc', rfl, rfl⟩
   conv => whnf
   (repeat ((first | refine stp (by (repeat constructor); first | done | fail) ?_ | refine stn (by (repeat constructor); first | done | fail) ?_ | refine sto (by (repeat constructor); first | done | fail) (by first | omega | (simp only; omega)) ?_ | refine .mk fun Ap capp => ?_ | refine ⟨?_, trivial⟩ | intro _); conv => whnf))
   refine ⟨cloneI_enters, cl_mem (m1 := []) .nil (fun w' hm' => cloneI_any x.pA x.pc x.a.picks w' (actIn_fr hxA (hF _ hm'.fr)).picks hxB.2) ?_⟩
   rintro e m' ⟨pA', pc', rfl, rfl⟩
   conv => whnf
   (repeat ((first | refine stp (by (repeat constructor); first | done | fail) ?_ | refine stn (by (repeat constructor); first | done | fail) ?_ | refine sto (by (repeat constructor); first | done | fail) (by first | omega | (simp only; omega)) ?_ | refine .mk fun Ap capp => ?_ | refine ⟨?_, trivial⟩ | intro _); conv => whnf))
   have e1 : ((ps.length + 1 : Nat) : Int) - 1 = (ps.length : Int) := by omega
   have hq : (((ps ++ [q]).map PH.hdr))[ps.length]? = some (.slice q.A q.L.length q.c) := by simp [PH.hdr]
   refine dr_any (γ := Option Addr × Nat) (Tr.hs [0, 1, 2, 3, 4, 5, 6, 7, 8, 10] (.alts 9 (.sq [11, 12] (.hs [13] (.sq [14] .done))) (.alts 11 (.sq [9, 12] (.hs [13] (.sq [14] .done))) .stop))) [.blk aB (.cells (actL x.a bA' bc' pA' pc').toArray 29)] tab_ok mixed (by kernel_rfl) rfl (fun _ => True) (fun _ => PE A c L i oB oc (ps.length + 1))
    (fun g => .row (some ⟨oB, 0, none⟩) oc (ps.length + 1) 46 1 ((ps ++ [(⟨g.1, g.2, q.L ++ [⟨x.a, bA', bc', pA', pc'⟩]⟩ : PH)]).map PH.hdr) :: PH.row ⟨g.1, g.2, q.L ++ [⟨x.a, bA', bc', pA', pc'⟩]⟩ :: (clR ⟨x.a, bA', bc', pA', pc'⟩ ++ (ps.map PH.row ++ clM (ps.flatMap PH.L ++ q.L)))) (SubM.sel (by (repeat constructor); first | done | fail)) ?_ ?_
   ·conv => whnf
    (repeat ((first | refine stp (by (repeat constructor); first | done | fail) ?_ | refine stn (by (repeat constructor); first | done | fail) ?_ | refine sto (by (repeat constructor); first | done | fail) (by first | omega | (simp only; omega)) ?_ | refine .mk fun Ap capp => ?_ | refine ⟨?_, trivial⟩ | intro _); conv => whnf))
    rw [e1]
    refine And.intro ⟨by omega, by omega, Pl.mk _ _⟩ ?_
    conv => whnf
    (repeat ((first | refine stp (by (repeat constructor); first | done | fail) ?_ | refine stn (by (repeat constructor); first | done | fail) ?_ | refine sto (by (repeat constructor); first | done | fail) (by first | omega | (simp only; omega)) ?_ | refine .mk fun Ap capp => ?_ | refine ⟨?_, trivial⟩ | intro _); conv => whnf))
    refine ⟨?_, ?_, trivial⟩
    ·refine rn_load (ldR tab_ok (by (repeat constructor); first | done | fail) rfl rfl hq) ?_
     conv => whnf
     (repeat ((first | refine g_sub (And.intro (SubM.sel (by (repeat constructor); first | done | fail)) ?_) | refine stp (by (repeat constructor); first | done | fail) ?_ | refine stn (by (repeat constructor); first | done | fail) ?_ | refine sto (by (repeat constructor); first | done | fail) (by first | omega | (simp only; omega)) ?_ | refine .mk fun Ap capp => ?_ | refine ⟨?_, trivial⟩ | intro _); conv => whnf))
     refine And.intro ⟨by omega, by omega, Pl.mk _ _⟩ ?_
     conv => whnf
     (repeat ((first | refine g_sub (And.intro (SubM.sel (by (repeat constructor); first | done | fail)) ?_) | refine stp (by (repeat constructor); first | done | fail) ?_ | refine stn (by (repeat constructor); first | done | fail) ?_ | refine sto (by (repeat constructor); first | done | fail) (by first | omega | (simp only; omega)) ?_ | refine .mk fun Ap capp => ?_ | refine ⟨?_, trivial⟩ | intro _); conv => whnf))
     refine rn_storeR (off := ps.length) (xs' := (ps ++ [(⟨Ap, capp, q.L ++ [⟨x.a, bA', bc', pA', pc'⟩]⟩ : PH)]).map PH.hdr) tab_ok rfl (by (repeat constructor); first | done | fail) rfl rfl (by show ps.length + 1 ≤ (ps.length + 1) * 1; omega) (Nat.one_pos) ?_ ?_
     ·show List.set ((ps ++ [q]).map PH.hdr) ps.length _ = _
      rw [List.map_append, List.map_append, List.set_append_right _ _ (by simp)]
      simp [hdr_snoc]
     conv => whnf
     (repeat ((first | refine g_sub (And.intro (SubM.sel (by (repeat constructor); first | done | fail)) ?_) | refine stp (by (repeat constructor); first | done | fail) ?_ | refine stn (by (repeat constructor); first | done | fail) ?_ | refine sto (by (repeat constructor); first | done | fail) (by first | omega | (simp only; omega)) ?_ | refine .mk fun Ap capp => ?_ | refine ⟨?_, trivial⟩ | intro _); conv => whnf))
     refine ⟨(Ap, capp), trivial, ⟨rfl, rfl, rfl, rfl, trivial⟩, fun w hm => ?_⟩
     rw [row_snoc]
     exact (hm.sublist (List.Sublist.cons_cons _ (List.Sublist.cons_cons _ (.cons _ (List.Sublist.cons_cons _ (List.Sublist.cons_cons _ (.cons _ (.refl _)))))))).perm (.cons _ (.cons _ (.swap ..)))
    ·conv => whnf
     (repeat ((first | refine g_sub (And.intro (SubM.sel (by (repeat constructor); first | done | fail)) ?_) | refine stp (by (repeat constructor); first | done | fail) ?_ | refine stn (by (repeat constructor); first | done | fail) ?_ | refine sto (by (repeat constructor); first | done | fail) (by first | omega | (simp only; omega)) ?_ | refine .mk fun Ap capp => ?_ | refine ⟨?_, trivial⟩ | intro _); conv => whnf))
     refine rn_load (ldR tab_ok (by (repeat constructor); first | done | fail) rfl rfl hq) ?_
     conv => whnf
     (repeat ((first | refine g_sub (And.intro (SubM.sel (by (repeat constructor); first | done | fail)) ?_) | refine stp (by (repeat constructor); first | done | fail) ?_ | refine stn (by (repeat constructor); first | done | fail) ?_ | refine sto (by (repeat constructor); first | done | fail) (by first | omega | (simp only; omega)) ?_ | refine .mk fun Ap capp => ?_ | refine ⟨?_, trivial⟩ | intro _); conv => whnf))
     refine And.intro ⟨by omega, by omega, Pl.mk _ _⟩ ?_
     conv => whnf
     (repeat ((first | refine g_sub (And.intro (SubM.sel (by (repeat constructor); first | done | fail)) ?_) | refine stp (by (repeat constructor); first | done | fail) ?_ | refine stn (by (repeat constructor); first | done | fail) ?_ | refine sto (by (repeat constructor); first | done | fail) (by first | omega | (simp only; omega)) ?_ | refine .mk fun Ap capp => ?_ | refine ⟨?_, trivial⟩ | intro _); conv => whnf))
     refine rn_storeR (off := ps.length) (xs' := (ps ++ [(⟨Ap, capp, q.L ++ [⟨x.a, bA', bc', pA', pc'⟩]⟩ : PH)]).map PH.hdr) tab_ok rfl (by (repeat constructor); first | done | fail) rfl rfl (by show ps.length + 1 ≤ (ps.length + 1) * 1; omega) (Nat.one_pos) ?_ ?_
     ·show List.set ((ps ++ [q]).map PH.hdr) ps.length _ = _
      rw [List.map_append, List.map_append, List.set_append_right _ _ (by simp)]
      simp [hdr_snoc]
     conv => whnf
     (repeat ((first | refine g_sub (And.intro (SubM.sel (by (repeat constructor); first | done | fail)) ?_) | refine stp (by (repeat constructor); first | done | fail) ?_ | refine stn (by (repeat constructor); first | done | fail) ?_ | refine sto (by (repeat constructor); first | done | fail) (by first | omega | (simp only; omega)) ?_ | refine .mk fun Ap capp => ?_ | refine ⟨?_, trivial⟩ | intro _); conv => whnf))
     refine ⟨(Ap, capp), trivial, ⟨rfl, rfl, rfl, rfl, trivial⟩, fun w hm => ?_⟩
     rw [row_snoc]
     exact (hm.sublist (List.Sublist.cons_cons _ (List.Sublist.cons_cons _ (.cons _ (List.Sublist.cons_cons _ (List.Sublist.cons_cons _ (.cons _ (.refl _)))))))).perm (.cons _ (.cons _ (.swap ..)))
   ·rintro ⟨gB, gc⟩ -
    conv => whnf
    (repeat ((first | refine stp (by (repeat constructor); first | done | fail) ?_ | refine stn (by (repeat constructor); first | done | fail) ?_ | refine sto (by (repeat constructor); first | done | fail) (by first | omega | (simp only; omega)) ?_ | refine .mk fun Ap capp => ?_ | refine ⟨?_, trivial⟩ | intro _); conv => whnf))
    refine ⟨(i + 1, oB, oc, ps, ⟨gB, gc, q.L ++ [⟨x.a, bA', bc', pA', pc'⟩]⟩), ⟨by omega, by simp only; omega, by simp; omega, ?_, ?_⟩, by simp only; omega, ⟨rfl, rfl, rfl, rfl, trivial⟩, SubM.perm ?_⟩
    ·rw [hspx, partStep, if_neg h25]; simp [PH.acts]
    ·intro p hp y hy
     rcases List.mem_append.1 hp with hp | hp
     ·exact hok p (List.mem_append_left _ hp) y hy
     ·simp only [List.mem_singleton] at hp
      subst hp
      rcases List.mem_append.1 hy with hy | hy
      ·exact hok q (List.mem_append_right _ (List.mem_singleton_self _)) y hy
      ·simp only [List.mem_singleton] at hy
       subst hy
       exact hxA.ok
    ·refine List.Perm.cons _ (List.Perm.cons _ ?_)
     simp only
     rw [show ps.flatMap PH.L ++ (q.L ++ [(⟨x.a, bA', bc', pA', pc'⟩ : LA)]) = (ps.flatMap PH.L ++ q.L) ++ [⟨x.a, bA', bc', pA', pc'⟩] from (List.append_assoc ..).symm, clM_snoc]
     exact List.perm_append_comm.trans (by rw [List.append_assoc])
 ·have hil : i = L.length := by omega
  rw [hil, List.take_length] at hsp
  conv => whnf
  refine fin2 rfl rfl rfl (fun w' hm => ⟨_, ⟨oB, oc, ps ++ [q], by simp, ?_, hok, rfl⟩, ?_⟩)
  ·rw [partsAll, ← hsp]; simp
  ·refine (MemOk.perm hm ?_ : MemOk _ _ _ _)
   simp only [PM, List.map_append, List.length_append, List.flatMap_append, List.length_singleton, List.map_cons, List.map_nil, List.flatMap_cons, List.flatMap_nil, List.append_nil]
   exact (permB _ _ _).cons _
end Go.Proofs.YtbfbjgakmnckbaaGreatDoor
namespace Go.Proofs.YtbfbjgakmnckbaaGreatDoor
open Go Go.RowKit Eng
abbrev BdM (b : Nat) (p : Option Addr) (A : Option Addr) (n cap : Nat) (bs : List UInt8) : Mem := [.blk b (.cells #[.pointer p, .slice A n cap] 108), .row A cap n 5 1 (Lib.byteCells bs)]
theorem bld_of {w0 w : World} {b : Nat} {p A : Option Addr} {n cap : Nat} {bs : List UInt8} (hp : p = none ∨ p = some ⟨b, 0, none⟩) (hm : MemOk w0 (fun _ => False) (BdM b p A n cap bs) w) : Lib.IsBuilder 108 5 w0.heap.size b (Lib.byteCells bs) w ∧ n = bs.length := by
 have hr := hm.row_base (.there .here)
 have hn : bs.length = n := by have := hr.1; simpa [Lib.byteCells_length] using this
 have hb : w.heap[b]? = some (.cells #[.pointer p, .slice A n cap] 108) := hm.ok _ (List.mem_cons_self ..)
 have ho := (hm.own _ (List.mem_cons_self ..) b rfl).resolve_right id
 have ha : (Value.slice A n cap).ownBlock ≠ some b := by
  have := (List.pairwise_cons.1 hm.apart).1 _ (List.mem_cons_self ..) b rfl
  intro h
  apply this
  cases A with
  | none => cases h
  | some a => exact h
 subst hn
 have key : Lib.BuilderAt 108 5 w0.heap.size b (.pointer p) (Lib.byteCells bs) w := ⟨ho, _, hb, by rw [Lib.byteCells_length]; exact hr, ha⟩
 refine ⟨?_, rfl⟩
 rcases hp with rfl | rfl
 ·exact .inl key
 ·exact .inr key
theorem bld_mem {w0 w' : World} {b : Nat} {p : Option Addr} {bs : List UInt8} (hF : Fr (fun _ => False) w0 w') (h : Lib.BuilderAt 108 5 w0.heap.size b (.pointer p) (Lib.byteCells bs) w') : ∃ A cap, MemOk w0 (fun _ => False) (BdM b p A bs.length cap bs) w' := by
 obtain ⟨hb, v, hv, hr, ha⟩ := h
 rw [Lib.byteCells_length] at hr
 have h0 : MemOk w0 (fun _ => False) [] w' := ⟨hF, fun _ h => (by cases h), fun _ h => (by cases h), List.Pairwise.nil⟩
 rcases hr.2 with ⟨rfl, hn⟩ | ⟨g, cap, cur, rfl, hg, hrest⟩
 ·refine ⟨none, 0, (h0.cons (r := .row none 0 bs.length 5 1 (Lib.byteCells bs)) ?_ (fun b hb => by cases hb) (fun b hb => by cases hb)).cons (r := .blk b (.cells #[.pointer p, .slice none bs.length 0] 108)) (by rw [hn]; exact hv) (fun b' e => by cases e; exact .inl hb) (fun b' e s hs => ?_)⟩
  ·show w'.ownsRow 0 _ 1 (.slice none bs.length 0) bs.length _
   rw [hn] at hr ⊢
   exact ⟨hr.1, .inl ⟨rfl, rfl⟩⟩
  ·simp only [List.mem_singleton] at hs
   subst hs
   intro e; cases e
 ·refine ⟨some ⟨g, 0, none⟩, cap, (h0.cons (r := .row (some ⟨g, 0, none⟩) cap bs.length 5 1 (Lib.byteCells bs)) ?_ (fun b e => by cases e; exact .inl hg) (fun b hb s hs => by cases hs)).cons (r := .blk b (.cells #[.pointer p, .slice (some ⟨g, 0, none⟩) bs.length cap] 108)) hv (fun b' e => by cases e; exact .inl hb) (fun b' e s hs => ?_)⟩
  ·exact ⟨hr.1, .inr ⟨g, cap, cur, rfl, Nat.zero_le _, hrest⟩⟩
  ·simp only [List.mem_singleton] at hs
   subst hs
   cases e
   intro e
   exact ha e
theorem fr_below {w0 w w' : World} (hf : Fr (fun _ => False) w0 w) (hB : Below w0.heap.size w w') : Fr (fun _ => False) w0 w' :=
 ⟨hB.os.trans hf.os, hB.tape.trans hf.tape, hB.output.trans hf.output, Nat.le_trans hf.size hB.size, fun k hk hs => (hB.block k hk).trans (hf.block k hk hs)⟩
theorem strCells_bytes (s : List UInt8) : Lib.strCells (Str s) = Lib.byteCells s := by simp [Lib.strCells, Lib.byteCells, Str]
theorem byteCells_app (a b : List UInt8) : Lib.byteCells a ++ Lib.byteCells b = Lib.byteCells (a ++ b) := by simp [Lib.byteCells]
theorem rn_at {cx : Cx} {m : Mem} {s : Sem Value} {v : Value} {K : Value → Mem → Prop} (h : ∀ w, MemOk cx.w0 cx.S m w → s.run cx.P w = .ok v w) (hk : K v m) : Rn cx m s K := fun w hm => ⟨v, w, m, h w hm, hm, hk⟩
/-! ## append of a string's bytes -/
theorem u_strB : Tryz.prog.underlying 9 = some .string := by kernel_rfl
theorem u_bytesB : Tryz.prog.underlying 23 = some (.slice 5) := by kernel_rfl
theorem i_u8B : (Tryz.prog.info? 5).map (fun i => (i.zero, i.size, i.bytes)) = some (some (.int .u8 0), 1, 1) := by kernel_rfl
theorem app_at {w : World} {ty n cap : Nat} {A : Option Addr} {xs : List Value} (hown : w.ownsRow 0 5 1 (.slice A n cap) n xs) (s : ByteArray) (hb : n + s.size ≤ 140737488355328) {v' : Value} {w' : World}
  (hr : (Builtin.append_ #[23, 9] ty #[.slice A n cap, .string s]).run Tryz.prog w = .ok v' w') (hnil : v' = .slice none 0 0 ↔ Value.slice A n cap = .slice none 0 0 ∧ s.size = 0) : v'.ownBlock = (Value.slice A n cap).ownBlock ∨ v'.ownBlock = some w.heap.size := by
 obtain ⟨i0, hi, hz0, hz1, hz2⟩ := info_parts i_u8B
 rcases hown.2 with ⟨e1, e2⟩ | ⟨g, cap', cur, e1, hbg, hg, hnc, hcm, hcs, htake⟩
 ·by_cases h0 : s.size = 0
  ·rw [hnil.2 ⟨e1, h0⟩, e1]; exact .inl rfl
  ·rw [e1] at hr
   have h1 := run_append_nil_string (P := Tryz.prog) w 23 9 ty 5 i0 (.int .u8 0) u_bytesB u_strB hi hz0 s (by omega) (by omega) (by rw [hz2]; omega)
   rw [hr] at h1
   injection h1 with h1 _
   rw [h1]; exact .inr rfl
 ·rw [e1] at hr
  have hxl : xs.length = n := by simpa using hown.1
  by_cases hroom : n + s.size ≤ cap'
  ·have h1 := Lib.run_append_room_string (P := Tryz.prog) w 23 9 ty 5 i0 u_bytesB u_strB hi hz1 g n cap' cur hg s hroom (by rw [hcs]; omega)
   rw [hr] at h1
   injection h1 with h1 _
   rw [h1, e1]; exact .inl rfl
  ·have holds : ∀ j u, xs[j]? = some u → w.cell? ((⟨g, 0, none⟩ : Addr).add j) = some u := (show w.ownsRow 0 5 1 (.slice (some ⟨g, 0, none⟩) n cap') n xs from e1 ▸ hown).cells (g := g) rfl
   have h1 := Lib.run_append_grow_string (P := Tryz.prog) w 23 9 ty 5 i0 (.int .u8 0) u_bytesB u_strB hi hz0 ⟨g, 0, none⟩ n cap' xs (by rw [hz1]; simpa using hxl) holds s (by omega) (by omega) (by rw [hz2]; exact growslice_fits (by omega) (by omega))
   rw [hr] at h1
   injection h1 with h1 _
   rw [h1]; exact .inr rfl
theorem rn_appStr {cx : Cx} (hP : cx.P = Tryz.prog) {m m' : Mem} {ty n cap : Nat} {A : Option Addr} {xs : List Value} {s : ByteArray} {K : Value → Mem → Prop} (hu : Out m (.row A cap n 5 1 xs) m') (hb : n + s.size ≤ 140737488355328)
  (hK : ∀ A' cap', K (.slice A' (n + s.size) cap') (.row A' cap' (n + s.size) 5 1 (xs ++ Lib.strCells s) :: m')) : Rn cx m (Builtin.append_ #[23, 9] ty #[.slice A n cap, .string s]) K := by
 intro w hm
 obtain ⟨i0, hi, hz0, hz1, hz2⟩ := info_parts i_u8B
 have hm1 := hm.perm hu.perm
 have hown : w.ownsRow 0 5 1 (.slice A n cap) n xs := hm1.ok _ (List.mem_cons_self ..)
 obtain ⟨v', w', hr, ho, hg, hnil⟩ := Lib.run_append_own_string (P := Tryz.prog) w 0 23 9 ty 5 i0 u_bytesB u_strB hi hz0 hz1 hz2 (.slice A n cap) n xs hown s (by simp only [maxLen]; omega) hb (Nat.zero_le _)
 have hat := app_at hown s hb hr hnil
 have hv : ∃ A' cap', v' = .slice A' (n + s.size) cap' := by
  rcases ho.2 with ⟨e1, e2⟩ | ⟨g, c', cur, e1, _⟩
  ·exact ⟨none, 0, by rw [e2]; exact e1⟩
  ·exact ⟨_, c', e1⟩
 obtain ⟨A', cap', rfl⟩ := hv
 have hapart := (List.pairwise_cons.1 hm1.apart).1
 have hmt : MemOk cx.w0 cx.S m' w' := hm1.tail.step (Fr.of_row hg) (fun b hb hT => by
   have := hm1.own _ (List.mem_cons_self ..) b (by rw [Res.row_own]; exact hT.symm)
   exact this.elim (fun h => absurd hb (by omega)) id) (fun r hr b hb hT => hapart r hr b (by rw [Res.row_own]; exact hT.symm) hb)
 refine ⟨_, w', _, by rw [hP]; exact hr, ?_, hK A' cap'⟩
 refine hmt.cons ho (fun b hb => ?_) (fun b hb s hs' hsb => ?_)
 ·rw [Res.row_own] at hb
  rcases hat with hat | hat
  ·exact hm1.own _ (List.mem_cons_self ..) b (by rw [Res.row_own, ← hat]; exact hb)
  ·rw [hat] at hb; cases hb; exact .inl hm.fr.size
 ·rw [Res.row_own] at hb
  rcases hat with hat | hat
  ·exact hapart s hs' b (by rw [Res.row_own, ← hat]; exact hb) hsb
  ·rw [hat] at hb; cases hb
   exact Nat.lt_irrefl _ (Res.ok_lt (hm1.tail.ok s hs') hsb)
theorem bwrite_enters : Eng.Enters Tryz.prog 59 := enters_mk fun _ _ => by kernel_rfl
theorem blen_enters : Eng.Enters Tryz.prog 60 := enters_mk fun _ _ => by kernel_rfl
theorem bstr_enters : Eng.Enters Tryz.prog 61 := enters_mk fun _ _ => by kernel_rfl
end Go.Proofs.YtbfbjgakmnckbaaGreatDoor
namespace Go.Proofs.YtbfbjgakmnckbaaGreatDoor
open Go Go.RowKit Eng
theorem u_bdp : Tryz.prog.underlying 106 = some (.pointer 108) := by kernel_rfl
theorem u_unsafe : Tryz.prog.underlying 163 = some .unsafePointer := by kernel_rfl
theorem i_bd : (Tryz.prog.info? 108).map (fun i => i.size) = some 2 := by kernel_rfl
theorem lies_bd : liesAt Tryz.prog Tryz.prog.depth 108 (2 / Tryz.prog.cellsOf 108) 0 108 1 = true := by kernel_rfl
theorem i_bd' : ∃ j, Tryz.prog.info? 108 = some j ∧ j.size = 2 := by
 have := i_bd
 cases h : Tryz.prog.info? 108 with
 | none => rw [h] at this; cases this
 | some j => rw [h] at this; exact ⟨j, rfl, by simpa using this⟩
theorem bd_shape {w : World} {b : Nat} {x y : Value} (h : w.heap[b]? = some (.cells #[x, y] 108)) : w.shape? b = some (108, 2) := by simp [World.shape?, h]
theorem bd_to {w : World} {b : Nat} {x y : Value} (h : w.heap[b]? = some (.cells #[x, y] 108)) : (convert 106 163 (.pointer (some ⟨b, 0, none⟩))).run Tryz.prog w = .ok (.pointer (some ⟨b, 0, none⟩)) w := by
 obtain ⟨j, hj, hs⟩ := i_bd'
 exact Lib.run_to_unsafe w ⟨b, 0, none⟩ u_bdp u_unsafe hj (by omega) (bd_shape h) (by show 0 < 2; omega)
theorem bd_from {w : World} {b : Nat} {x y : Value} (h : w.heap[b]? = some (.cells #[x, y] 108)) : (convert 163 106 (.pointer (some ⟨b, 0, none⟩))).run Tryz.prog w = .ok (.pointer (some ⟨b, 0, none⟩)) w := by
 obtain ⟨j, hj, hs⟩ := i_bd'
 exact Lib.run_from_unsafe w ⟨b, 0, none⟩ u_unsafe u_bdp hj (bd_shape h) lies_bd
end Go.Proofs.YtbfbjgakmnckbaaGreatDoor
namespace Go.Proofs.YtbfbjgakmnckbaaGreatDoor
open Go Go.Shelf Go.RowKit
set_option maxHeartbeats 1000000 in
set_option maxRecDepth 100000 in
theorem bcc_used (b : Nat) (w : World) (h0 : w.cell? ⟨b, 0, none⟩ = some (.pointer (some ⟨b, 0, none⟩))) :
  Calls Tryz.prog 98 #[.pointer (some ⟨b, 0, none⟩)] w fun e w' => e = .returned (.tuple #[]) ∧ w' = w := by
 obtain ⟨j, hj, _⟩ := i_bd'
 go_enter Tryz.func98, Tryz.ntmps98
 go_wp2
 rw [Lib.run_neq_ptr_same w _ u_bdp hj]
 go_wp2
 go_end0
 exact ⟨rfl, rfl⟩
set_option maxHeartbeats 1000000 in
set_option maxRecDepth 100000 in
theorem bcc_fresh (b : Nat) (w : World) (h0 : w.cell? ⟨b, 0, none⟩ = some (.pointer none)) (hsh : w.shape? b = some (108, 2)) (hfz : w.frozen? ⟨b, 0, none⟩ = false) :
  Calls Tryz.prog 98 #[.pointer (some ⟨b, 0, none⟩)] w fun e w' => e = .returned (.tuple #[]) ∧ w' = w.setCell ⟨b, 0, none⟩ (.pointer (some ⟨b, 0, none⟩)) := by
 obtain ⟨j, hj, hjs⟩ := i_bd'
 go_enter Tryz.func98, Tryz.ntmps98
 go_wp2
 rw [Lib.run_to_unsafe w ⟨b, 0, none⟩ u_bdp u_unsafe hj (by rw [hjs]; decide) hsh (Nat.zero_lt_succ 1)]
 simp only [Result.andThen]
 rw [Oper.upon_value]
 go_wp2
 rw [run_callFunc_extern Tryz.func110 (by kernel_rfl) (by kernel_rfl) (by kernel_rfl) (e := Extern.AbiNoEscape.same) (by kernel_rfl)]
 rw [Lib.run_noEscape]
 simp only [Result.andThen]
 rw [Oper.upon_value]
 go_wp2
 rw [Lib.run_from_unsafe w ⟨b, 0, none⟩ u_unsafe u_bdp hj hsh lies_bd]
 simp only [Result.andThen]
 rw [Oper.upon_value]
 go_wp2
 go_end0
 exact ⟨rfl, rfl⟩
theorem bcc (B b : Nat) (bs : List Value) (w : World) (h : Lib.IsBuilder 108 5 B b bs w) :
  Calls Tryz.prog 98 #[.pointer (some ⟨b, 0, none⟩)] w fun e w' => e = .returned (.tuple #[]) ∧ (Lib.BuilderAt 108 5 B b (.pointer (some ⟨b, 0, none⟩)) bs w' ∧ Below B w w') := by
 rcases h with h | h
 ·refine (bcc_fresh b w h.cell0 h.shape h.frozen0).mono ?_
  rintro e w' ⟨rfl, rfl⟩
  exact ⟨rfl, h.used _, (Below.refl B w).setCell (p := ⟨b, 0, none⟩) h.1 _⟩
 ·refine (bcc_used b w h.cell0).mono ?_
  rintro e w' ⟨rfl, rfl⟩
  exact ⟨rfl, h, Below.refl B _⟩
set_option maxHeartbeats 1000000 in
set_option maxRecDepth 100000 in
theorem bwrite (B b : Nat) (bs : List Value) (s : ByteArray) (w : World) (h : Lib.IsBuilder 108 5 B b bs w) (hlen : bs.length + s.size ≤ 140737488355328) (hBw : B ≤ w.heap.size) :
  Calls Tryz.prog 59 #[.pointer (some ⟨b, 0, none⟩), .string s] w fun e w' => e = .returned (.tuple #[.int .i64 s.size, .nilIface]) ∧ (Lib.BuilderAt 108 5 B b (.pointer (some ⟨b, 0, none⟩)) (bs ++ Lib.strCells s) w' ∧ Below B w w') := by
 obtain ⟨i0, hi, hz0, hz1, hz2⟩ := info_parts i_u8B
 go_enter Tryz.func59, Tryz.ntmps59
 go_wp2_with (go_at_call 98; refine (bcc B b bs _ h).mono ?_)
 rintro e w1 ⟨rfl, h1, hb1⟩
 obtain ⟨hB, v, hbk, hown, hne⟩ := h1
 have c0 : w1.cell? ⟨b, 0, none⟩ = some (.pointer (some ⟨b, 0, none⟩)) := by rw [Lib.cell_of_heap hbk]; rfl
 have c1 : w1.cell? ⟨b, 1, none⟩ = some v := by rw [Lib.cell_of_heap hbk]; rfl
 go_wp2_with (at_builtin; refine Lib.wpList_append_own_string _ rfl _ _ 23 9 rfl B 5 i0 u_bytesB u_strB hi hz0 hz1 hz2 _ _ _ rfl hown s rfl ?c3 ?c4 ?c5 ?_)
 case c3 => unfold maxLen; omega
 case c4 => omega
 case c5 => have := hb1.size; omega
 intro v' w2 hown' hgrow _
 have hlt : b < w1.heap.size := by
  rcases Nat.lt_or_ge b w1.heap.size with h' | h'
  ·exact h'
  ·simp [Array.getElem?_eq_none h'] at hbk
 have hb2 : w2.heap[b]? = some (.cells #[.pointer (some ⟨b, 0, none⟩), v] 108 (0, 0)) := by
  rw [hgrow.block b hlt (fun e => hne e.symm)]
  exact hbk
 have d0 : w2.cell? ⟨b, 0, none⟩ = some (.pointer (some ⟨b, 0, none⟩)) := by rw [Lib.cell_of_heap hb2]; rfl
 have d1 : w2.cell? ⟨b, 1, none⟩ = some v := by rw [Lib.cell_of_heap hb2]; rfl
 have f1 : w2.frozen? ⟨b, 1, none⟩ = false := Lib.frozen_of_heap hb2 1
 obtain ⟨ao, n', cap, rfl⟩ : ∃ ao n' cap, v' = .slice ao n' cap := by
  rcases hown'.2 with ⟨hv, _⟩ | ⟨g, cap, cur, hv, _⟩
  ·exact ⟨_, _, _, hv⟩
  ·exact ⟨_, _, _, hv⟩
 go_wp2
 go_ret2
 refine ⟨rfl, ?_, ?_⟩
 ·exact Lib.BuilderAt.put (T := 108) (e := 5) hB hb2 (bs' := bs ++ Lib.strCells s) (by simpa [Lib.strCells_length] using hown') (by decide)
 ·exact (hb1.grown hgrow (by have := hb1.size; omega) (fun k hk => (hown.lt k hk).1)).setCell (p := ⟨b, 1, none⟩) hB _
open Eng
section
variable {cx : Cx} (hP : cx.P = Tryz.prog) (hS : cx.S = fun _ => False)
include hP hS
theorem cl_write {m r : Mem} {b : Nat} {p A : Option Addr} {n cap : Nat} {bs s : List UInt8} {K : Value → Mem → Prop} {KP : List PanicEntry → Mem → Prop} (hs : Sel m (BdM b p A n cap bs) r) (hp : p = none ∨ p = some ⟨b, 0, none⟩) (hl : bs.length + s.length ≤ 140737488355328)
  (hk : ∀ A' cap', K (.tuple #[.int .i64 (Str s).size, .nilIface]) (BdM b (some ⟨b, 0, none⟩) A' (bs ++ s).length cap' (bs ++ s))) : Cl cx m 59 [.pointer (some ⟨b, 0, none⟩), .string (Str s)] K KP := by
 intro w hm
 have hm1 := hm.sel hs
 rw [hS] at hm1
 obtain ⟨hb, rfl⟩ := bld_of hp hm1
 rw [hP]
 refine (bwrite cx.w0.heap.size b (Lib.byteCells bs) (Str s) w hb (by rw [Lib.byteCells_length, Str.size]; exact hl) hm1.fr.size).mono ?_
 rintro e w' ⟨rfl, hb', hB⟩
 rw [strCells_bytes, byteCells_app] at hb'
 obtain ⟨A', cap', hm2⟩ := bld_mem (fr_below hm1.fr hB) hb'
 exact ⟨_, by rw [hS]; exact hm2, hk A' cap'⟩
theorem cl_blen {m r : Mem} {b : Nat} {p A : Option Addr} {n cap : Nat} {bs : List UInt8} {K : Value → Mem → Prop} {KP : List PanicEntry → Mem → Prop} (hs : Sel m (BdM b p A n cap bs) r) (hp : p = none ∨ p = some ⟨b, 0, none⟩)
  (hk : K (.int .i64 bs.length) m) : Cl cx m 60 [.pointer (some ⟨b, 0, none⟩)] K KP := by
 intro w hm
 have hm1 := hm.sel hs
 rw [hS] at hm1
 obtain ⟨hb, rfl⟩ := bld_of hp hm1
 rw [hP]
 refine (Tryz.Builder_Len cx.w0.heap.size b (Lib.byteCells bs) w hb).mono ?_
 rintro e w' ⟨rfl, rfl⟩
 rw [Lib.byteCells_length]
 exact ⟨_, hm, hk⟩
theorem cl_bstr {m r : Mem} {b : Nat} {p A : Option Addr} {n cap : Nat} {bs : List UInt8} {K : Value → Mem → Prop} {KP : List PanicEntry → Mem → Prop} (hs : Sel m (BdM b p A n cap bs) r) (hp : p = none ∨ p = some ⟨b, 0, none⟩)
  (hk : K (.string (Str bs)) []) : Cl cx m 61 [.pointer (some ⟨b, 0, none⟩)] K KP := by
 intro w hm
 have hm1 := hm.sel hs
 rw [hS] at hm1
 obtain ⟨hb, rfl⟩ := bld_of hp hm1
 rw [hP]
 refine (Tryz.Builder_String_any cx.w0.heap.size b bs w hb hm1.fr.size).mono ?_
 rintro e w' ⟨rfl, hB⟩
 exact ⟨[], by rw [hS]; exact ⟨fr_below hm1.fr hB, fun _ h => (by cases h), fun _ h => (by cases h), List.Pairwise.nil⟩, hk⟩
end
end Go.Proofs.YtbfbjgakmnckbaaGreatDoor
