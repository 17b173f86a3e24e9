/- slices.Clone of bytes and of numbers; the script's Parts. No statement of the seat is proved here. -/
import Derived.Test.YtbfbjgakmnckbaaGreatDoorSl11
import Derived.Lib.AppendStr
import Derived.Lib.Builder
import Derived.Shelf.Strings.BuilderX
import Derived.Shelf.RegionOpenPlain
import Derived.Lib.Strings
import Derived.Lib.Slices
import Derived.Lib.Walk
import Derived.Lib.UnsafeStr
import Derived.WalkKit
import Derived.Laws.Externs
import Derived.Laws.BitsLemmas
namespace Go.Proofs.YtbfbjgakmnckbaaGreatDoor
open Go Go.RowKit Eng
attribute [local irreducible] Br Rn RnU Cl RdG CpG Ld Rd Lp Dr Oth Cut fin Fits Eng.Enters Md NA
theorem cloneB_enters : Eng.Enters Tryz.prog 62 := enters_mk fun _ _ => by kernel_rfl
theorem cloneI_enters : Eng.Enters Tryz.prog 63 := enters_mk fun _ _ => by kernel_rfl
theorem eqBnil (t n c : Nat) (w : World) : (eqSem .eql 23 (.tmp t) (.const (.slice none 0 0)) (.slice none n c) (.slice none 0 0)).run Tryz.prog w = .ok (.bool true) w := by kernel_rfl
theorem eqBsome (t n c : Nat) (a : Addr) (w : World) : (eqSem .eql 23 (.tmp t) (.const (.slice none 0 0)) (.slice (some a) n c) (.slice none 0 0)).run Tryz.prog w = .ok (.bool false) w := by kernel_rfl
theorem eqInil (t n c : Nat) (w : World) : (eqSem .eql 27 (.tmp t) (.const (.slice none 0 0)) (.slice none n c) (.slice none 0 0)).run Tryz.prog w = .ok (.bool true) w := by kernel_rfl
theorem eqIsome (t n c : Nat) (a : Addr) (w : World) : (eqSem .eql 27 (.tmp t) (.const (.slice none 0 0)) (.slice (some a) n c) (.slice none 0 0)).run Tryz.prog w = .ok (.bool false) w := by kernel_rfl
set_option maxRecDepth 100000 in
theorem cloneI_any (A : Option Addr) (c : Nat) (xs : List Int) (w : World) (hb : IntsIn .i64 w A xs) (hn : xs.length ≤ 1048576) :
  Ctr Tryz.prog 63 [.slice A xs.length c] [] (fun e m' => ∃ A' c', e = .returned (.slice A' xs.length c') ∧ m' = [.row A' c' xs.length 3 1 (xs.map (.int .i64))]) w := by
 have hF : ∀ w', Fr (Foot []) w w' → IntsIn .i64 w' A xs := fun w' hf hn => let ⟨b, o, e, hc⟩ := hb hn; ⟨b, o, e, fun i hi => (World.cell?_of_block (hf.block b (World.block_lt_of_cell? w ⟨b, o + i, none⟩ (hc i hi)) (foot_no _))).trans (hc i hi)⟩
 cases A with
 | none =>
  have h0 : xs = [] := by
   cases xs with
   | nil => rfl
   | cons x r => obtain ⟨b, o, e, _⟩ := hb (by simp); cases e
  subst h0
  refine enter (cx := CXS 8 [] w (Foot [])) [(0, .slice none 0 c)] tab_ok Tryz.func63 rfl rfl rfl rfl (MemOk.nil w _) ?_
  conv => whnf
  (repeat ((first | refine stp (by (repeat constructor); first | done | fail) ?_ | refine stn (by (repeat constructor); first | done | fail) ?_ | refine sto (by (repeat constructor); first | done | fail) (by first | omega | (simp only; omega)) ?_ | refine .mk fun Ap capp => ?_ | refine ⟨?_, trivial⟩ | intro _); conv => whnf))
  refine Rd.n (rd_all fun w => eqInil _ _ _ w) ?_
  conv => whnf
  refine br_t rfl ?_
  conv => whnf
  exact fin1 rfl rfl (fun w' hm => ⟨_, ⟨_, _, rfl, rfl⟩, hm.nilRow 3 1⟩)
 | some a =>
  refine enter (cx := CXS 8 [] w (Foot [])) [(0, .slice (some a) xs.length c)] tab_ok Tryz.func63 rfl rfl rfl rfl (MemOk.nil w _) ?_
  conv => whnf
  (repeat ((first | refine stp (by (repeat constructor); first | done | fail) ?_ | refine stn (by (repeat constructor); first | done | fail) ?_ | refine sto (by (repeat constructor); first | done | fail) (by first | omega | (simp only; omega)) ?_ | refine .mk fun Ap capp => ?_ | refine ⟨?_, trivial⟩ | intro _); conv => whnf))
  refine Rd.n (rd_all fun w => eqIsome _ _ _ _ w) ?_
  conv => whnf
  refine br_f rfl ?_
  conv => whnf
  intro zB
  conv => whnf
  refine rn_subm (SubM.torow (xs := []) (n := 0) (b := zB) (by (repeat constructor); first | done | fail) rfl rfl) ?_
  refine rn_appI (k := .i64) tab_ok rfl rfl rfl rfl rfl rfl .here (fun w' hm => hF w' hm.fr) (by omega) (fun A1 c1 => ?_)
  conv => whnf
  refine fin1 rfl rfl (fun w' hm => ⟨_, ⟨A1, c1, by rw [Nat.zero_add], by rw [Nat.zero_add]; rfl⟩, hm⟩)
set_option maxRecDepth 100000 in
theorem cloneU_any (A : Option Addr) (c : Nat) (xs : List Int) (w : World) (hb : IntsIn .u8 w A xs) (hn : xs.length ≤ 1048576) :
  Ctr Tryz.prog 62 [.slice A xs.length c] [] (fun e m' => ∃ A' c', e = .returned (.slice A' xs.length c') ∧ m' = [.row A' c' xs.length 5 1 (xs.map (.int .u8))]) w := by
 have hF : ∀ w', Fr (Foot []) w w' → IntsIn .u8 w' A xs := fun w' hf hn => let ⟨b, o, e, hc⟩ := hb hn; ⟨b, o, e, fun i hi => (World.cell?_of_block (hf.block b (World.block_lt_of_cell? w ⟨b, o + i, none⟩ (hc i hi)) (foot_no _))).trans (hc i hi)⟩
 cases A with
 | none =>
  have h0 : xs = [] := by
   cases xs with
   | nil => rfl
   | cons x r => obtain ⟨b, o, e, _⟩ := hb (by simp); cases e
  subst h0
  refine enter (cx := CXS 8 [] w (Foot [])) [(0, .slice none 0 c)] tab_ok Tryz.func62 rfl rfl rfl rfl (MemOk.nil w _) ?_
  conv => whnf
  (repeat ((first | refine stp (by (repeat constructor); first | done | fail) ?_ | refine stn (by (repeat constructor); first | done | fail) ?_ | refine sto (by (repeat constructor); first | done | fail) (by first | omega | (simp only; omega)) ?_ | refine .mk fun Ap capp => ?_ | refine ⟨?_, trivial⟩ | intro _); conv => whnf))
  refine Rd.n (rd_all fun w => eqBnil _ _ _ w) ?_
  conv => whnf
  refine br_t rfl ?_
  conv => whnf
  exact fin1 rfl rfl (fun w' hm => ⟨_, ⟨_, _, rfl, rfl⟩, hm.nilRow 5 1⟩)
 | some a =>
  refine enter (cx := CXS 8 [] w (Foot [])) [(0, .slice (some a) xs.length c)] tab_ok Tryz.func62 rfl rfl rfl rfl (MemOk.nil w _) ?_
  conv => whnf
  (repeat ((first | refine stp (by (repeat constructor); first | done | fail) ?_ | refine stn (by (repeat constructor); first | done | fail) ?_ | refine sto (by (repeat constructor); first | done | fail) (by first | omega | (simp only; omega)) ?_ | refine .mk fun Ap capp => ?_ | refine ⟨?_, trivial⟩ | intro _); conv => whnf))
  refine Rd.n (rd_all fun w => eqBsome _ _ _ _ w) ?_
  conv => whnf
  refine br_f rfl ?_
  conv => whnf
  intro zB
  conv => whnf
  refine rn_subm (SubM.torow (xs := []) (n := 0) (b := zB) (by (repeat constructor); first | done | fail) rfl rfl) ?_
  refine rn_appI (k := .u8) tab_ok rfl rfl rfl rfl rfl rfl .here (fun w' hm => hF w' hm.fr) (by omega) (fun A1 c1 => ?_)
  conv => whnf
  refine fin1 rfl rfl (fun w' hm => ⟨_, ⟨A1, c1, by rw [Nat.zero_add], by rw [Nat.zero_add]; rfl⟩, hm⟩)
theorem cloneB_any (A : Option Addr) (c : Nat) (bs : List UInt8) (w : World) (hb : BytsIn w A bs) (hn : bs.length ≤ 1048576) :
  Ctr Tryz.prog 62 [.slice A bs.length c] [] (fun e m' => ∃ A' c', e = .returned (.slice A' bs.length c') ∧ m' = [.row A' c' bs.length 5 1 ((numsOf bs).map (.int .u8))]) w := by
 have := cloneU_any A c (numsOf bs) w hb (by rw [numsOf_length]; exact hn)
 rwa [numsOf_length] at this

/-! ## Parts -/
structure PH where
 A : Option Addr
 c : Nat
 L : List LA
def PH.hdr (p : PH) : Value := .slice p.A p.L.length p.c
def PH.row (p : PH) : Res := .row p.A p.c p.L.length 29 13 (p.L.flatMap LA.cells)
def PH.acts (p : PH) : List PAct := p.L.map LA.a
abbrev clR (x : LA) : Mem := [SpB x ((numsOf x.a.bytes).map (.int .u8)), SpP x (x.a.picks.map (.int .i64))]
def clM (L : List LA) : Mem := L.flatMap clR
theorem clM_snoc (l : List LA) (y : LA) : clM (l ++ [y]) = clM l ++ clR y := by simp [clM]
theorem row_snoc (gA : Option Addr) (gc : Nat) (l : List LA) (y : LA) : PH.row ⟨gA, gc, l ++ [y]⟩ = .row gA gc (l.length + 1) 29 13 (l.flatMap LA.cells ++ y.cells) := by simp [PH.row]
theorem hdr_snoc (gA : Option Addr) (gc : Nat) (l : List LA) (y : LA) : PH.hdr ⟨gA, gc, l ++ [y]⟩ = .slice gA (l.length + 1) gc := by simp [PH.hdr]
def partStep (s : List (List PAct) × List PAct) (x : PAct) : List (List PAct) × List PAct := if x.kind = 25 then (s.1 ++ [s.2], []) else (s.1, s.2 ++ [x])
def partsL (l : List PAct) : List (List PAct) × List PAct := l.foldl partStep ([], [])
theorem partsL_snoc (l : List PAct) (x : PAct) : partsL (l ++ [x]) = partStep (partsL l) x := by simp [partsL]
/-- The parts of a script. -/
def partsAll (l : List PAct) : List (List PAct) := (partsL l).1 ++ [(partsL l).2]
theorem parts_enters : Eng.Enters Tryz.prog 28 := enters_mk fun _ _ => by kernel_rfl
abbrev PM (oB oc : Nat) (ps : List PH) (q : PH) : Mem := .row (some ⟨oB, 0, none⟩) oc (ps.length + 1) 46 1 ((ps ++ [q]).map PH.hdr) :: q.row :: (ps.map PH.row ++ clM (ps.flatMap PH.L ++ q.L))
abbrev PE (A : Option Addr) (c : Nat) (L : List LA) (i oB oc n : Nat) : Env := [(13, .int .i64 i), (11, .slice A L.length c), (12, .int .i64 L.length), (4, .slice (some ⟨oB, 0, none⟩) n oc)]
/-- What Parts leaves. -/
def PartsR (l : List PAct) (e : Ending) (m' : Mem) : Prop := ∃ (oB oc : Nat) (ps : List PH), e = .returned (.tuple #[.slice (some ⟨oB, 0, none⟩) ps.length oc, .int .i64 0]) ∧ ps.map PH.acts = partsAll l ∧ (∀ p ∈ ps, ∀ x ∈ p.L, x.a.Ok) ∧
 m' = .row (some ⟨oB, 0, none⟩) oc ps.length 46 1 (ps.map PH.hdr) :: (ps.map PH.row ++ clM (ps.flatMap PH.L))
theorem permB {α : Type} (q : α) (X Y : List α) : (q :: (X ++ Y)).Perm ((X ++ [q]) ++ Y) := by simpa using (List.perm_middle (l₁ := X) (l₂ := Y) (a := q)).symm
theorem permA {α : Type} (n o q : α) (X Y : List α) : (n :: o :: q :: (X ++ Y)).Perm (o :: n :: ((X ++ [q]) ++ Y)) := (List.Perm.swap ..).trans (((permB q X Y).cons _).cons _)
set_option maxRecDepth 100000 in
set_option maxHeartbeats 2000000 in
theorem parts_any (A : Option Addr) (c : Nat) (L : List LA) (w : World) (hL : ActsIn w A L) (hn : L.length ≤ 65536) (hB : ∀ x ∈ L, x.a.bytes.length ≤ 1048576 ∧ x.a.picks.length ≤ 1048576) :
  Ctr Tryz.prog 28 [.slice A L.length c] [] (PartsR (L.map LA.a)) w := by
 have hF : ∀ w', Fr (Foot []) w w' → Fr (fun _ => False) w w' := fun w' hf => hf.mono (fun k _ ⟨r, hr, _⟩ => by cases hr)
 refine enter (cx := CXS 47 [] w (Foot [])) [(0, .slice A L.length c)] tab_ok Tryz.func28 rfl rfl rfl rfl (MemOk.nil w _) ?_
 conv => whnf
 (repeat ((first | refine stp (by (repeat constructor); first | done | fail) ?_ | refine stn (by (repeat constructor); first | done | fail) ?_ | refine sto (by (repeat constructor); first | done | fail) (by first | omega | (simp only; omega)) ?_ | refine .mk fun Ap capp => ?_ | refine ⟨?_, trivial⟩ | intro _); conv => whnf))
 refine br_f (decide_eq_false (by omega)) ?_
 conv => whnf
 intro oB
 conv => whnf
 refine lp tab_ok (γ := Nat × Nat × Nat × List PH × PH) (fun g => g.1 ≤ L.length ∧ g.2.2.2.1.length ≤ g.1 ∧ g.2.2.2.2.L.length ≤ g.1 ∧ (g.2.2.2.1.map PH.acts, g.2.2.2.2.acts) = partsL ((L.take g.1).map LA.a) ∧ (∀ p ∈ g.2.2.2.1 ++ [g.2.2.2.2], ∀ x ∈ p.L, x.a.Ok))
  (fun g => PE A c L g.1 g.2.1 g.2.2.1 (g.2.2.2.1.length + 1)) (fun g => PM g.2.1 g.2.2.1 g.2.2.2.1 g.2.2.2.2) (fun g => L.length - g.1) (0, oB, 1, [], ⟨none, 0, []⟩) ⟨by omega, by simp, by simp, rfl, by simp⟩ ⟨rfl, rfl, rfl, rfl, trivial⟩
  (fun w hm => ((SubM.torow (xs := [.slice none 0 0]) (n := 1) (b := oB) .here rfl rfl w hm).nilRow 29 13).sel (.cons (.there .here) (.cons .here .nil))) ?_
 rintro ⟨i, oB, oc, ps, q⟩ ⟨hi, hpi, hqi, hsp, hok⟩
 simp only at hi hpi hqi hsp hok
 change XC _ _ _ (PE A c L i oB oc (ps.length + 1)) (PM oB oc ps q)
 conv => whnf
 refine br_d (fun hlt => ?_) (fun hge => ?_)
 ·have hlt' : i < L.length := by omega
  have hx := List.getElem?_eq_getElem hlt'
  have hpl := hL.plain (by omega)
  generalize L[i] = x at hx
  conv => whnf
  refine And.intro ⟨by omega, by omega, hpl⟩ ?_
  conv => whnf
  refine rn_load (hL.ld rfl rfl foot_no hx) ?_
  conv => whnf
  intro aB
  conv => whnf
  (repeat ((first | refine stp (by (repeat constructor); first | done | fail) ?_ | refine stn (by (repeat constructor); first | done | fail) ?_ | refine sto (by (repeat constructor); first | done | fail) (by first | omega | (simp only; omega)) ?_ | refine .mk fun Ap capp => ?_ | refine ⟨?_, trivial⟩ | intro _); conv => whnf))
  have hspx : partsL ((L.take (i + 1)).map LA.a) = partStep (ps.map PH.acts, q.acts) x.a := by
   rw [List.take_add_one, hx, hsp, ← partsL_snoc]; simp
  have hxA := hL.act x (List.mem_of_getElem? hx)
  have hxB := hB x (List.mem_of_getElem? hx)
  refine br_d (fun h25 => ?_) (fun h25 => ?_)
  ·conv => whnf
   intro nB
   conv => whnf
   refine rn_appP tab_ok rfl rfl rfl rfl rfl rfl (by (repeat constructor); first | done | fail) rfl (news_blk (by (repeat constructor); first | done | fail)) rfl (by omega) (by omega) (fun oB' oc' _ => ?_)
   conv => whnf
   (repeat ((first | refine stp (by (repeat constructor); first | done | fail) ?_ | refine stn (by (repeat constructor); first | done | fail) ?_ | refine sto (by (repeat constructor); first | done | fail) (by first | omega | (simp only; omega)) ?_ | refine .mk fun Ap capp => ?_ | refine ⟨?_, trivial⟩ | intro _); conv => whnf))
   refine ⟨(i + 1, oB', oc', ps ++ [q], ⟨none, 0, []⟩), ⟨by omega, by simp; omega, by simp, by rw [hspx, partStep, if_pos h25]; simp [PH.acts], ?_⟩, by simp only; omega, ⟨rfl, rfl, rfl, by simp only [List.length_append, List.length_singleton]; rfl, trivial⟩, fun w hm => ?_⟩
   ·intro p hp y hy
    rcases List.mem_append.1 hp with hp | hp
    ·exact hok p hp y hy
    ·simp only [List.mem_singleton] at hp; subst hp; cases hy
   ·have h1 := ((hm.sublist (List.Sublist.cons_cons _ (.cons _ (.cons _ (.refl _))))).nilRow 29 13).perm (permA _ _ q.row (ps.map PH.row) _)
    simp only [PM, List.map_append, List.length_append, List.flatMap_append, List.length_singleton, List.map_cons, List.map_nil, List.flatMap_cons, List.flatMap_nil, List.append_nil, PH.hdr, PH.row, List.length_nil] at h1 ⊢
    exact h1
  ·conv => whnf
   (repeat ((first | refine stp (by (repeat constructor); first | done | fail) ?_ | refine stn (by (repeat constructor); first | done | fail) ?_ | refine sto (by (repeat constructor); first | done | fail) (by first | omega | (simp only; omega)) ?_ | refine .mk fun Ap capp => ?_ | refine ⟨?_, trivial⟩ | intro _); conv => whnf))
   refine ⟨cloneB_enters, cl_mem (m1 := []) .nil (fun w' hm' => cloneB_any x.bA x.bc x.a.bytes w' (actIn_fr hxA (hF _ hm'.fr)).bytes hxB.1) ?_⟩
   rintro e m' ⟨bA', bc', rfl, rfl⟩
   conv => whnf
   (repeat ((first | refine stp (by (repeat constructor); first | done | fail) ?_ | refine stn (by (repeat constructor); first | done | fail) ?_ | refine sto (by (repeat constructor); first | done | fail) (by first | omega | (simp only; omega)) ?_ | refine .mk fun Ap capp => ?_ | refine ⟨?_, trivial⟩ | intro _); conv => whnf))
   refine ⟨cloneI_enters, cl_mem (m1 := []) .nil (fun w' hm' => cloneI_any x.pA x.pc x.a.picks w' (actIn_fr hxA (hF _ hm'.fr)).picks hxB.2) ?_⟩
   rintro e m' ⟨pA', pc', rfl, rfl⟩
   conv => whnf
   (repeat ((first | refine stp (by (repeat constructor); first | done | fail) ?_ | refine stn (by (repeat constructor); first | done | fail) ?_ | refine sto (by (repeat constructor); first | done | fail) (by first | omega | (simp only; omega)) ?_ | refine .mk fun Ap capp => ?_ | refine ⟨?_, trivial⟩ | intro _); conv => whnf))
   have e1 : ((ps.length + 1 : Nat) : Int) - 1 = (ps.length : Int) := by omega
   have hq : (((ps ++ [q]).map PH.hdr))[ps.length]? = some (.slice q.A q.L.length q.c) := by simp [PH.hdr]
   refine dr_any (γ := Option Addr × Nat) (Tr.hs [0, 1, 2, 3, 4, 5, 6, 7, 8, 10] (.alts 9 (.sq [11, 12] (.hs [13] (.sq [14] .done))) (.alts 11 (.sq [9, 12] (.hs [13] (.sq [14] .done))) .stop))) [.blk aB (.cells (actL x.a bA' bc' pA' pc').toArray 29)] tab_ok mixed (by kernel_rfl) rfl (fun _ => True) (fun _ => PE A c L i oB oc (ps.length + 1))
    (fun g => .row (some ⟨oB, 0, none⟩) oc (ps.length + 1) 46 1 ((ps ++ [(⟨g.1, g.2, q.L ++ [⟨x.a, bA', bc', pA', pc'⟩]⟩ : PH)]).map PH.hdr) :: PH.row ⟨g.1, g.2, q.L ++ [⟨x.a, bA', bc', pA', pc'⟩]⟩ :: (clR ⟨x.a, bA', bc', pA', pc'⟩ ++ (ps.map PH.row ++ clM (ps.flatMap PH.L ++ q.L)))) (SubM.sel (by (repeat constructor); first | done | fail)) ?_ ?_
   ·conv => whnf
    (repeat ((first | refine stp (by (repeat constructor); first | done | fail) ?_ | refine stn (by (repeat constructor); first | done | fail) ?_ | refine sto (by (repeat constructor); first | done | fail) (by first | omega | (simp only; omega)) ?_ | refine .mk fun Ap capp => ?_ | refine ⟨?_, trivial⟩ | intro _); conv => whnf))
    rw [e1]
    refine And.intro ⟨by omega, by omega, Pl.mk _ _⟩ ?_
    conv => whnf
    (repeat ((first | refine stp (by (repeat constructor); first | done | fail) ?_ | refine stn (by (repeat constructor); first | done | fail) ?_ | refine sto (by (repeat constructor); first | done | fail) (by first | omega | (simp only; omega)) ?_ | refine .mk fun Ap capp => ?_ | refine ⟨?_, trivial⟩ | intro _); conv => whnf))
    refine ⟨?_, ?_, trivial⟩
    ·refine rn_load (ldR tab_ok (by (repeat constructor); first | done | fail) rfl rfl hq) ?_
     conv => whnf
     (repeat ((first | refine g_sub (And.intro (SubM.sel (by (repeat constructor); first | done | fail)) ?_) | refine stp (by (repeat constructor); first | done | fail) ?_ | refine stn (by (repeat constructor); first | done | fail) ?_ | refine sto (by (repeat constructor); first | done | fail) (by first | omega | (simp only; omega)) ?_ | refine .mk fun Ap capp => ?_ | refine ⟨?_, trivial⟩ | intro _); conv => whnf))
     refine And.intro ⟨by omega, by omega, Pl.mk _ _⟩ ?_
     conv => whnf
     (repeat ((first | refine g_sub (And.intro (SubM.sel (by (repeat constructor); first | done | fail)) ?_) | refine stp (by (repeat constructor); first | done | fail) ?_ | refine stn (by (repeat constructor); first | done | fail) ?_ | refine sto (by (repeat constructor); first | done | fail) (by first | omega | (simp only; omega)) ?_ | refine .mk fun Ap capp => ?_ | refine ⟨?_, trivial⟩ | intro _); conv => whnf))
     refine rn_storeR (off := ps.length) (xs' := (ps ++ [(⟨Ap, capp, q.L ++ [⟨x.a, bA', bc', pA', pc'⟩]⟩ : PH)]).map PH.hdr) tab_ok rfl (by (repeat constructor); first | done | fail) rfl rfl (by show ps.length + 1 ≤ (ps.length + 1) * 1; omega) (Nat.one_pos) ?_ ?_
     ·show List.set ((ps ++ [q]).map PH.hdr) ps.length _ = _
      rw [List.map_append, List.map_append, List.set_append_right _ _ (by simp)]
      simp [hdr_snoc]
     conv => whnf
     (repeat ((first | refine g_sub (And.intro (SubM.sel (by (repeat constructor); first | done | fail)) ?_) | refine stp (by (repeat constructor); first | done | fail) ?_ | refine stn (by (repeat constructor); first | done | fail) ?_ | refine sto (by (repeat constructor); first | done | fail) (by first | omega | (simp only; omega)) ?_ | refine .mk fun Ap capp => ?_ | refine ⟨?_, trivial⟩ | intro _); conv => whnf))
     refine ⟨(Ap, capp), trivial, ⟨rfl, rfl, rfl, rfl, trivial⟩, fun w hm => ?_⟩
     rw [row_snoc]
     exact (hm.sublist (List.Sublist.cons_cons _ (List.Sublist.cons_cons _ (.cons _ (List.Sublist.cons_cons _ (List.Sublist.cons_cons _ (.cons _ (.refl _)))))))).perm (.cons _ (.cons _ (.swap ..)))
    ·conv => whnf
     (repeat ((first | refine g_sub (And.intro (SubM.sel (by (repeat constructor); first | done | fail)) ?_) | refine stp (by (repeat constructor); first | done | fail) ?_ | refine stn (by (repeat constructor); first | done | fail) ?_ | refine sto (by (repeat constructor); first | done | fail) (by first | omega | (simp only; omega)) ?_ | refine .mk fun Ap capp => ?_ | refine ⟨?_, trivial⟩ | intro _); conv => whnf))
     refine rn_load (ldR tab_ok (by (repeat constructor); first | done | fail) rfl rfl hq) ?_
     conv => whnf
     (repeat ((first | refine g_sub (And.intro (SubM.sel (by (repeat constructor); first | done | fail)) ?_) | refine stp (by (repeat constructor); first | done | fail) ?_ | refine stn (by (repeat constructor); first | done | fail) ?_ | refine sto (by (repeat constructor); first | done | fail) (by first | omega | (simp only; omega)) ?_ | refine .mk fun Ap capp => ?_ | refine ⟨?_, trivial⟩ | intro _); conv => whnf))
     refine And.intro ⟨by omega, by omega, Pl.mk _ _⟩ ?_
     conv => whnf
     (repeat ((first | refine g_sub (And.intro (SubM.sel (by (repeat constructor); first | done | fail)) ?_) | refine stp (by (repeat constructor); first | done | fail) ?_ | refine stn (by (repeat constructor); first | done | fail) ?_ | refine sto (by (repeat constructor); first | done | fail) (by first | omega | (simp only; omega)) ?_ | refine .mk fun Ap capp => ?_ | refine ⟨?_, trivial⟩ | intro _); conv => whnf))
     refine rn_storeR (off := ps.length) (xs' := (ps ++ [(⟨Ap, capp, q.L ++ [⟨x.a, bA', bc', pA', pc'⟩]⟩ : PH)]).map PH.hdr) tab_ok rfl (by (repeat constructor); first | done | fail) rfl rfl (by show ps.length + 1 ≤ (ps.length + 1) * 1; omega) (Nat.one_pos) ?_ ?_
     ·show List.set ((ps ++ [q]).map PH.hdr) ps.length _ = _
      rw [List.map_append, List.map_append, List.set_append_right _ _ (by simp)]
      simp [hdr_snoc]
     conv => whnf
     (repeat ((first | refine g_sub (And.intro (SubM.sel (by (repeat constructor); first | done | fail)) ?_) | refine stp (by (repeat constructor); first | done | fail) ?_ | refine stn (by (repeat constructor); first | done | fail) ?_ | refine sto (by (repeat constructor); first | done | fail) (by first | omega | (simp only; omega)) ?_ | refine .mk fun Ap capp => ?_ | refine ⟨?_, trivial⟩ | intro _); conv => whnf))
     refine ⟨(Ap, capp), trivial, ⟨rfl, rfl, rfl, rfl, trivial⟩, fun w hm => ?_⟩
     rw [row_snoc]
     exact (hm.sublist (List.Sublist.cons_cons _ (List.Sublist.cons_cons _ (.cons _ (List.Sublist.cons_cons _ (List.Sublist.cons_cons _ (.cons _ (.refl _)))))))).perm (.cons _ (.cons _ (.swap ..)))
   ·rintro ⟨gB, gc⟩ -
    conv => whnf
    (repeat ((first | refine stp (by (repeat constructor); first | done | fail) ?_ | refine stn (by (repeat constructor); first | done | fail) ?_ | refine sto (by (repeat constructor); first | done | fail) (by first | omega | (simp only; omega)) ?_ | refine .mk fun Ap capp => ?_ | refine ⟨?_, trivial⟩ | intro _); conv => whnf))
    refine ⟨(i + 1, oB, oc, ps, ⟨gB, gc, q.L ++ [⟨x.a, bA', bc', pA', pc'⟩]⟩), ⟨by omega, by simp only; omega, by simp; omega, ?_, ?_⟩, by simp only; omega, ⟨rfl, rfl, rfl, rfl, trivial⟩, SubM.perm ?_⟩
    ·rw [hspx, partStep, if_neg h25]; simp [PH.acts]
    ·intro p hp y hy
     rcases List.mem_append.1 hp with hp | hp
     ·exact hok p (List.mem_append_left _ hp) y hy
     ·simp only [List.mem_singleton] at hp
      subst hp
      rcases List.mem_append.1 hy with hy | hy
      ·exact hok q (List.mem_append_right _ (List.mem_singleton_self _)) y hy
      ·simp only [List.mem_singleton] at hy
       subst hy
       exact hxA.ok
    ·refine List.Perm.cons _ (List.Perm.cons _ ?_)
     simp only
     rw [show ps.flatMap PH.L ++ (q.L ++ [(⟨x.a, bA', bc', pA', pc'⟩ : LA)]) = (ps.flatMap PH.L ++ q.L) ++ [⟨x.a, bA', bc', pA', pc'⟩] from (List.append_assoc ..).symm, clM_snoc]
     exact List.perm_append_comm.trans (by rw [List.append_assoc])
 ·have hil : i = L.length := by omega
  rw [hil, List.take_length] at hsp
  conv => whnf
  refine fin2 rfl rfl rfl (fun w' hm => ⟨_, ⟨oB, oc, ps ++ [q], by simp, ?_, hok, rfl⟩, ?_⟩)
  ·rw [partsAll, ← hsp]; simp
  ·refine (MemOk.perm hm ?_ : MemOk _ _ _ _)
   simp only [PM, List.map_append, List.length_append, List.flatMap_append, List.length_singleton, List.map_cons, List.map_nil, List.flatMap_cons, List.flatMap_nil, List.append_nil]
   exact (permB _ _ _).cons _
end Go.Proofs.YtbfbjgakmnckbaaGreatDoor
namespace Go.Proofs.YtbfbjgakmnckbaaGreatDoor
open Go Go.RowKit Eng
abbrev BdM (b : Nat) (p : Option Addr) (A : Option Addr) (n cap : Nat) (bs : List UInt8) : Mem := [.blk b (.cells #[.pointer p, .slice A n cap] 108), .row A cap n 5 1 (Lib.byteCells bs)]
theorem bld_of {w0 w : World} {b : Nat} {p A : Option Addr} {n cap : Nat} {bs : List UInt8} (hp : p = none ∨ p = some ⟨b, 0, none⟩) (hm : MemOk w0 (fun _ => False) (BdM b p A n cap bs) w) : Lib.IsBuilder 108 5 w0.heap.size b (Lib.byteCells bs) w ∧ n = bs.length := by
 have hr := hm.row_base (.there .here)
 have hn : bs.length = n := by have := hr.1; simpa [Lib.byteCells_length] using this
 have hb : w.heap[b]? = some (.cells #[.pointer p, .slice A n cap] 108) := hm.ok _ (List.mem_cons_self ..)
 have ho := (hm.own _ (List.mem_cons_self ..) b rfl).resolve_right id
 have ha : (Value.slice A n cap).ownBlock ≠ some b := by
  have := (List.pairwise_cons.1 hm.apart).1 _ (List.mem_cons_self ..) b rfl
  intro h
  apply this
  cases A with
  | none => cases h
  | some a => exact h
 subst hn
 have key : Lib.BuilderAt 108 5 w0.heap.size b (.pointer p) (Lib.byteCells bs) w := ⟨ho, _, hb, by rw [Lib.byteCells_length]; exact hr, ha⟩
 refine ⟨?_, rfl⟩
 rcases hp with rfl | rfl
 ·exact .inl key
 ·exact .inr key
theorem bld_mem {w0 w' : World} {b : Nat} {p : Option Addr} {bs : List UInt8} (hF : Fr (fun _ => False) w0 w') (h : Lib.BuilderAt 108 5 w0.heap.size b (.pointer p) (Lib.byteCells bs) w') : ∃ A cap, MemOk w0 (fun _ => False) (BdM b p A bs.length cap bs) w' := by
 obtain ⟨hb, v, hv, hr, ha⟩ := h
 rw [Lib.byteCells_length] at hr
 have h0 : MemOk w0 (fun _ => False) [] w' := ⟨hF, fun _ h => (by cases h), fun _ h => (by cases h), List.Pairwise.nil⟩
 rcases hr.2 with ⟨rfl, hn⟩ | ⟨g, cap, cur, rfl, hg, hrest⟩
 ·refine ⟨none, 0, (h0.cons (r := .row none 0 bs.length 5 1 (Lib.byteCells bs)) ?_ (fun b hb => by cases hb) (fun b hb => by cases hb)).cons (r := .blk b (.cells #[.pointer p, .slice none bs.length 0] 108)) (by rw [hn]; exact hv) (fun b' e => by cases e; exact .inl hb) (fun b' e s hs => ?_)⟩
  ·show w'.ownsRow 0 _ 1 (.slice none bs.length 0) bs.length _
   rw [hn] at hr ⊢
   exact ⟨hr.1, .inl ⟨rfl, rfl⟩⟩
  ·simp only [List.mem_singleton] at hs
   subst hs
   intro e; cases e
 ·refine ⟨some ⟨g, 0, none⟩, cap, (h0.cons (r := .row (some ⟨g, 0, none⟩) cap bs.length 5 1 (Lib.byteCells bs)) ?_ (fun b e => by cases e; exact .inl hg) (fun b hb s hs => by cases hs)).cons (r := .blk b (.cells #[.pointer p, .slice (some ⟨g, 0, none⟩) bs.length cap] 108)) hv (fun b' e => by cases e; exact .inl hb) (fun b' e s hs => ?_)⟩
  ·exact ⟨hr.1, .inr ⟨g, cap, cur, rfl, Nat.zero_le _, hrest⟩⟩
  ·simp only [List.mem_singleton] at hs
   subst hs
   cases e
   intro e
   exact ha e
theorem fr_below {w0 w w' : World} (hf : Fr (fun _ => False) w0 w) (hB : Below w0.heap.size w w') : Fr (fun _ => False) w0 w' :=
 ⟨hB.os.trans hf.os, hB.tape.trans hf.tape, hB.output.trans hf.output, Nat.le_trans hf.size hB.size, fun k hk hs => (hB.block k hk).trans (hf.block k hk hs)⟩
theorem strCells_bytes (s : List UInt8) : Lib.strCells (Str s) = Lib.byteCells s := by simp [Lib.strCells, Lib.byteCells, Str]
theorem byteCells_app (a b : List UInt8) : Lib.byteCells a ++ Lib.byteCells b = Lib.byteCells (a ++ b) := by simp [Lib.byteCells]
theorem rn_at {cx : Cx} {m : Mem} {s : Sem Value} {v : Value} {K : Value → Mem → Prop} (h : ∀ w, MemOk cx.w0 cx.S m w → s.run cx.P w = .ok v w) (hk : K v m) : Rn cx m s K := fun w hm => ⟨v, w, m, h w hm, hm, hk⟩
/-! ## append of a string's bytes -/
theorem u_strB : Tryz.prog.underlying 9 = some .string := by kernel_rfl
theorem u_bytesB : Tryz.prog.underlying 23 = some (.slice 5) := by kernel_rfl
theorem i_u8B : (Tryz.prog.info? 5).map (fun i => (i.zero, i.size, i.bytes)) = some (some (.int .u8 0), 1, 1) := by kernel_rfl
theorem app_at {w : World} {ty n cap : Nat} {A : Option Addr} {xs : List Value} (hown : w.ownsRow 0 5 1 (.slice A n cap) n xs) (s : ByteArray) (hb : n + s.size ≤ 140737488355328) {v' : Value} {w' : World}
  (hr : (Builtin.append_ #[23, 9] ty #[.slice A n cap, .string s]).run Tryz.prog w = .ok v' w') (hnil : v' = .slice none 0 0 ↔ Value.slice A n cap = .slice none 0 0 ∧ s.size = 0) : v'.ownBlock = (Value.slice A n cap).ownBlock ∨ v'.ownBlock = some w.heap.size := by
 obtain ⟨i0, hi, hz0, hz1, hz2⟩ := info_parts i_u8B
 rcases hown.2 with ⟨e1, e2⟩ | ⟨g, cap', cur, e1, hbg, hg, hnc, hcm, hcs, htake⟩
 ·by_cases h0 : s.size = 0
  ·rw [hnil.2 ⟨e1, h0⟩, e1]; exact .inl rfl
  ·rw [e1] at hr
   have h1 := run_append_nil_string (P := Tryz.prog) w 23 9 ty 5 i0 (.int .u8 0) u_bytesB u_strB hi hz0 s (by omega) (by omega) (by rw [hz2]; omega)
   rw [hr] at h1
   injection h1 with h1 _
   rw [h1]; exact .inr rfl
 ·rw [e1] at hr
  have hxl : xs.length = n := by simpa using hown.1
  by_cases hroom : n + s.size ≤ cap'
  ·have h1 := Lib.run_append_room_string (P := Tryz.prog) w 23 9 ty 5 i0 u_bytesB u_strB hi hz1 g n cap' cur hg s hroom (by rw [hcs]; omega)
   rw [hr] at h1
   injection h1 with h1 _
   rw [h1, e1]; exact .inl rfl
  ·have holds : ∀ j u, xs[j]? = some u → w.cell? ((⟨g, 0, none⟩ : Addr).add j) = some u := (show w.ownsRow 0 5 1 (.slice (some ⟨g, 0, none⟩) n cap') n xs from e1 ▸ hown).cells (g := g) rfl
   have h1 := Lib.run_append_grow_string (P := Tryz.prog) w 23 9 ty 5 i0 (.int .u8 0) u_bytesB u_strB hi hz0 ⟨g, 0, none⟩ n cap' xs (by rw [hz1]; simpa using hxl) holds s (by omega) (by omega) (by rw [hz2]; exact growslice_fits (by omega) (by omega))
   rw [hr] at h1
   injection h1 with h1 _
   rw [h1]; exact .inr rfl
theorem rn_appStr {cx : Cx} (hP : cx.P = Tryz.prog) {m m' : Mem} {ty n cap : Nat} {A : Option Addr} {xs : List Value} {s : ByteArray} {K : Value → Mem → Prop} (hu : Out m (.row A cap n 5 1 xs) m') (hb : n + s.size ≤ 140737488355328)
  (hK : ∀ A' cap', K (.slice A' (n + s.size) cap') (.row A' cap' (n + s.size) 5 1 (xs ++ Lib.strCells s) :: m')) : Rn cx m (Builtin.append_ #[23, 9] ty #[.slice A n cap, .string s]) K := by
 intro w hm
 obtain ⟨i0, hi, hz0, hz1, hz2⟩ := info_parts i_u8B
 have hm1 := hm.perm hu.perm
 have hown : w.ownsRow 0 5 1 (.slice A n cap) n xs := hm1.ok _ (List.mem_cons_self ..)
 obtain ⟨v', w', hr, ho, hg, hnil⟩ := Lib.run_append_own_string (P := Tryz.prog) w 0 23 9 ty 5 i0 u_bytesB u_strB hi hz0 hz1 hz2 (.slice A n cap) n xs hown s (by simp only [maxLen]; omega) hb (Nat.zero_le _)
 have hat := app_at hown s hb hr hnil
 have hv : ∃ A' cap', v' = .slice A' (n + s.size) cap' := by
  rcases ho.2 with ⟨e1, e2⟩ | ⟨g, c', cur, e1, _⟩
  ·exact ⟨none, 0, by rw [e2]; exact e1⟩
  ·exact ⟨_, c', e1⟩
 obtain ⟨A', cap', rfl⟩ := hv
 have hapart := (List.pairwise_cons.1 hm1.apart).1
 have hmt : MemOk cx.w0 cx.S m' w' := hm1.tail.step (Fr.of_row hg) (fun b hb hT => by
   have := hm1.own _ (List.mem_cons_self ..) b (by rw [Res.row_own]; exact hT.symm)
   exact this.elim (fun h => absurd hb (by omega)) id) (fun r hr b hb hT => hapart r hr b (by rw [Res.row_own]; exact hT.symm) hb)
 refine ⟨_, w', _, by rw [hP]; exact hr, ?_, hK A' cap'⟩
 refine hmt.cons ho (fun b hb => ?_) (fun b hb s hs' hsb => ?_)
 ·rw [Res.row_own] at hb
  rcases hat with hat | hat
  ·exact hm1.own _ (List.mem_cons_self ..) b (by rw [Res.row_own, ← hat]; exact hb)
  ·rw [hat] at hb; cases hb; exact .inl hm.fr.size
 ·rw [Res.row_own] at hb
  rcases hat with hat | hat
  ·exact hapart s hs' b (by rw [Res.row_own, ← hat]; exact hb) hsb
  ·rw [hat] at hb; cases hb
   exact Nat.lt_irrefl _ (Res.ok_lt (hm1.tail.ok s hs') hsb)
theorem bwrite_enters : Eng.Enters Tryz.prog 59 := enters_mk fun _ _ => by kernel_rfl
theorem blen_enters : Eng.Enters Tryz.prog 60 := enters_mk fun _ _ => by kernel_rfl
theorem bstr_enters : Eng.Enters Tryz.prog 61 := enters_mk fun _ _ => by kernel_rfl
end Go.Proofs.YtbfbjgakmnckbaaGreatDoor
namespace Go.Proofs.YtbfbjgakmnckbaaGreatDoor
open Go Go.RowKit Eng
theorem u_bdp : Tryz.prog.underlying 106 = some (.pointer 108) := by kernel_rfl
theorem u_unsafe : Tryz.prog.underlying 163 = some .unsafePointer := by kernel_rfl
theorem i_bd : (Tryz.prog.info? 108).map (fun i => i.size) = some 2 := by kernel_rfl
theorem lies_bd : liesAt Tryz.prog Tryz.prog.depth 108 (2 / Tryz.prog.cellsOf 108) 0 108 1 = true := by kernel_rfl
theorem i_bd' : ∃ j, Tryz.prog.info? 108 = some j ∧ j.size = 2 := by
 have := i_bd
 cases h : Tryz.prog.info? 108 with
 | none => rw [h] at this; cases this
 | some j => rw [h] at this; exact ⟨j, rfl, by simpa using this⟩
theorem bd_shape {w : World} {b : Nat} {x y : Value} (h : w.heap[b]? = some (.cells #[x, y] 108)) : w.shape? b = some (108, 2) := by simp [World.shape?, h]
theorem bd_to {w : World} {b : Nat} {x y : Value} (h : w.heap[b]? = some (.cells #[x, y] 108)) : (convert 106 163 (.pointer (some ⟨b, 0, none⟩))).run Tryz.prog w = .ok (.pointer (some ⟨b, 0, none⟩)) w := by
 obtain ⟨j, hj, hs⟩ := i_bd'
 exact Lib.run_to_unsafe w ⟨b, 0, none⟩ u_bdp u_unsafe hj (by omega) (bd_shape h) (by show 0 < 2; omega)
theorem bd_from {w : World} {b : Nat} {x y : Value} (h : w.heap[b]? = some (.cells #[x, y] 108)) : (convert 163 106 (.pointer (some ⟨b, 0, none⟩))).run Tryz.prog w = .ok (.pointer (some ⟨b, 0, none⟩)) w := by
 obtain ⟨j, hj, hs⟩ := i_bd'
 exact Lib.run_from_unsafe w ⟨b, 0, none⟩ u_unsafe u_bdp hj (bd_shape h) lies_bd
end Go.Proofs.YtbfbjgakmnckbaaGreatDoor
namespace Go.Proofs.YtbfbjgakmnckbaaGreatDoor
open Go Go.Shelf Go.RowKit
set_option maxHeartbeats 1000000 in
set_option maxRecDepth 100000 in
theorem bcc_used (b : Nat) (w : World) (h0 : w.cell? ⟨b, 0, none⟩ = some (.pointer (some ⟨b, 0, none⟩))) :
  Calls Tryz.prog 98 #[.pointer (some ⟨b, 0, none⟩)] w fun e w' => e = .returned (.tuple #[]) ∧ w' = w := by
 obtain ⟨j, hj, _⟩ := i_bd'
 go_enter Tryz.func98, Tryz.ntmps98
 go_wp2
 rw [Lib.run_neq_ptr_same w _ u_bdp hj]
 go_wp2
 go_end0
 exact ⟨rfl, rfl⟩
set_option maxHeartbeats 1000000 in
set_option maxRecDepth 100000 in
theorem bcc_fresh (b : Nat) (w : World) (h0 : w.cell? ⟨b, 0, none⟩ = some (.pointer none)) (hsh : w.shape? b = some (108, 2)) (hfz : w.frozen? ⟨b, 0, none⟩ = false) :
  Calls Tryz.prog 98 #[.pointer (some ⟨b, 0, none⟩)] w fun e w' => e = .returned (.tuple #[]) ∧ w' = w.setCell ⟨b, 0, none⟩ (.pointer (some ⟨b, 0, none⟩)) := by
 obtain ⟨j, hj, hjs⟩ := i_bd'
 go_enter Tryz.func98, Tryz.ntmps98
 go_wp2
 rw [Lib.run_to_unsafe w ⟨b, 0, none⟩ u_bdp u_unsafe hj (by rw [hjs]; decide) hsh (Nat.zero_lt_succ 1)]
 simp only [Result.andThen]
 rw [Oper.upon_value]
 go_wp2
 rw [run_callFunc_extern Tryz.func110 (by kernel_rfl) (by kernel_rfl) (by kernel_rfl) (e := Extern.AbiNoEscape.same) (by kernel_rfl)]
 rw [Lib.run_noEscape]
 simp only [Result.andThen]
 rw [Oper.upon_value]
 go_wp2
 rw [Lib.run_from_unsafe w ⟨b, 0, none⟩ u_unsafe u_bdp hj hsh lies_bd]
 simp only [Result.andThen]
 rw [Oper.upon_value]
 go_wp2
 go_end0
 exact ⟨rfl, rfl⟩
theorem bcc (B b : Nat) (bs : List Value) (w : World) (h : Lib.IsBuilder 108 5 B b bs w) :
  Calls Tryz.prog 98 #[.pointer (some ⟨b, 0, none⟩)] w fun e w' => e = .returned (.tuple #[]) ∧ (Lib.BuilderAt 108 5 B b (.pointer (some ⟨b, 0, none⟩)) bs w' ∧ Below B w w') := by
 rcases h with h | h
 ·refine (bcc_fresh b w h.cell0 h.shape h.frozen0).mono ?_
  rintro e w' ⟨rfl, rfl⟩
  exact ⟨rfl, h.used _, (Below.refl B w).setCell (p := ⟨b, 0, none⟩) h.1 _⟩
 ·refine (bcc_used b w h.cell0).mono ?_
  rintro e w' ⟨rfl, rfl⟩
  exact ⟨rfl, h, Below.refl B _⟩
set_option maxHeartbeats 1000000 in
set_option maxRecDepth 100000 in
theorem bwrite (B b : Nat) (bs : List Value) (s : ByteArray) (w : World) (h : Lib.IsBuilder 108 5 B b bs w) (hlen : bs.length + s.size ≤ 140737488355328) (hBw : B ≤ w.heap.size) :
  Calls Tryz.prog 59 #[.pointer (some ⟨b, 0, none⟩), .string s] w fun e w' => e = .returned (.tuple #[.int .i64 s.size, .nilIface]) ∧ (Lib.BuilderAt 108 5 B b (.pointer (some ⟨b, 0, none⟩)) (bs ++ Lib.strCells s) w' ∧ Below B w w') := by
 obtain ⟨i0, hi, hz0, hz1, hz2⟩ := info_parts i_u8B
 go_enter Tryz.func59, Tryz.ntmps59
 go_wp2_with (go_at_call 98; refine (bcc B b bs _ h).mono ?_)
 rintro e w1 ⟨rfl, h1, hb1⟩
 obtain ⟨hB, v, hbk, hown, hne⟩ := h1
 have c0 : w1.cell? ⟨b, 0, none⟩ = some (.pointer (some ⟨b, 0, none⟩)) := by rw [Lib.cell_of_heap hbk]; rfl
 have c1 : w1.cell? ⟨b, 1, none⟩ = some v := by rw [Lib.cell_of_heap hbk]; rfl
 go_wp2_with (at_builtin; refine Lib.wpList_append_own_string _ rfl _ _ 23 9 rfl B 5 i0 u_bytesB u_strB hi hz0 hz1 hz2 _ _ _ rfl hown s rfl ?c3 ?c4 ?c5 ?_)
 case c3 => unfold maxLen; omega
 case c4 => omega
 case c5 => have := hb1.size; omega
 intro v' w2 hown' hgrow _
 have hlt : b < w1.heap.size := by
  rcases Nat.lt_or_ge b w1.heap.size with h' | h'
  ·exact h'
  ·simp [Array.getElem?_eq_none h'] at hbk
 have hb2 : w2.heap[b]? = some (.cells #[.pointer (some ⟨b, 0, none⟩), v] 108 (0, 0)) := by
  rw [hgrow.block b hlt (fun e => hne e.symm)]
  exact hbk
 have d0 : w2.cell? ⟨b, 0, none⟩ = some (.pointer (some ⟨b, 0, none⟩)) := by rw [Lib.cell_of_heap hb2]; rfl
 have d1 : w2.cell? ⟨b, 1, none⟩ = some v := by rw [Lib.cell_of_heap hb2]; rfl
 have f1 : w2.frozen? ⟨b, 1, none⟩ = false := Lib.frozen_of_heap hb2 1
 obtain ⟨ao, n', cap, rfl⟩ : ∃ ao n' cap, v' = .slice ao n' cap := by
  rcases hown'.2 with ⟨hv, _⟩ | ⟨g, cap, cur, hv, _⟩
  ·exact ⟨_, _, _, hv⟩
  ·exact ⟨_, _, _, hv⟩
 go_wp2
 go_ret2
 refine ⟨rfl, ?_, ?_⟩
 ·exact Lib.BuilderAt.put (T := 108) (e := 5) hB hb2 (bs' := bs ++ Lib.strCells s) (by simpa [Lib.strCells_length] using hown') (by decide)
 ·exact (hb1.grown hgrow (by have := hb1.size; omega) (fun k hk => (hown.lt k hk).1)).setCell (p := ⟨b, 1, none⟩) hB _
open Eng
section
variable {cx : Cx} (hP : cx.P = Tryz.prog) (hS : cx.S = fun _ => False)
include hP hS
theorem cl_write {m r : Mem} {b : Nat} {p A : Option Addr} {n cap : Nat} {bs s : List UInt8} {K : Value → Mem → Prop} {KP : List PanicEntry → Mem → Prop} (hs : Sel m (BdM b p A n cap bs) r) (hp : p = none ∨ p = some ⟨b, 0, none⟩) (hl : bs.length + s.length ≤ 140737488355328)
  (hk : ∀ A' cap', K (.tuple #[.int .i64 (Str s).size, .nilIface]) (BdM b (some ⟨b, 0, none⟩) A' (bs ++ s).length cap' (bs ++ s))) : Cl cx m 59 [.pointer (some ⟨b, 0, none⟩), .string (Str s)] K KP := by
 intro w hm
 have hm1 := hm.sel hs
 rw [hS] at hm1
 obtain ⟨hb, rfl⟩ := bld_of hp hm1
 rw [hP]
 refine (bwrite cx.w0.heap.size b (Lib.byteCells bs) (Str s) w hb (by rw [Lib.byteCells_length, Str.size]; exact hl) hm1.fr.size).mono ?_
 rintro e w' ⟨rfl, hb', hB⟩
 rw [strCells_bytes, byteCells_app] at hb'
 obtain ⟨A', cap', hm2⟩ := bld_mem (fr_below hm1.fr hB) hb'
 exact ⟨_, by rw [hS]; exact hm2, hk A' cap'⟩
theorem cl_blen {m r : Mem} {b : Nat} {p A : Option Addr} {n cap : Nat} {bs : List UInt8} {K : Value → Mem → Prop} {KP : List PanicEntry → Mem → Prop} (hs : Sel m (BdM b p A n cap bs) r) (hp : p = none ∨ p = some ⟨b, 0, none⟩)
  (hk : K (.int .i64 bs.length) m) : Cl cx m 60 [.pointer (some ⟨b, 0, none⟩)] K KP := by
 intro w hm
 have hm1 := hm.sel hs
 rw [hS] at hm1
 obtain ⟨hb, rfl⟩ := bld_of hp hm1
 rw [hP]
 refine (Tryz.Builder_Len cx.w0.heap.size b (Lib.byteCells bs) w hb).mono ?_
 rintro e w' ⟨rfl, rfl⟩
 rw [Lib.byteCells_length]
 exact ⟨_, hm, hk⟩
theorem cl_bstr {m r : Mem} {b : Nat} {p A : Option Addr} {n cap : Nat} {bs : List UInt8} {K : Value → Mem → Prop} {KP : List PanicEntry → Mem → Prop} (hs : Sel m (BdM b p A n cap bs) r) (hp : p = none ∨ p = some ⟨b, 0, none⟩)
  (hk : K (.string (Str bs)) []) : Cl cx m 61 [.pointer (some ⟨b, 0, none⟩)] K KP := by
 intro w hm
 have hm1 := hm.sel hs
 rw [hS] at hm1
 obtain ⟨hb, rfl⟩ := bld_of hp hm1
 rw [hP]
 refine (Tryz.Builder_String_any cx.w0.heap.size b bs w hb hm1.fr.size).mono ?_
 rintro e w' ⟨rfl, hB⟩
 exact ⟨[], by rw [hS]; exact ⟨fr_below hm1.fr hB, fun _ h => (by cases h), fun _ h => (by cases h), List.Pairwise.nil⟩, hk⟩
end
end Go.Proofs.YtbfbjgakmnckbaaGreatDoor
namespace Go.Proofs.YtbfbjgakmnckbaaGreatDoor
open Go Go.RowKit Eng
attribute [local irreducible] Br Rn RnU Cl RdG CpG Ld Rd Lp Dr Oth Cut fin Fits Eng.Enters Md NA
/-- The acts of a list that is told have numerals. -/
structure ActsW (w : World) (A : Option Addr) (L : List LA) : Prop where
 acts : ActsIn w A L
 num : ∀ x ∈ L, NumAct w x.a
theorem ActsW.fr {w w' : World} {A : Option Addr} {L : List LA} (h : ActsW w A L) (hf : Fr (fun _ => False) w w') : ActsW w' A L := ⟨h.acts.fr hf, fun x hx => (h.num x hx).fr hf⟩
theorem ActsW.get {w : World} {A : Option Addr} {L : List LA} (h : ActsW w A L) {x : LA} (hx : x ∈ L) : ActW w x.a x.bA x.pA := ⟨h.acts.act x hx, h.num x hx⟩
/-- A text's lines. -/
def textL (l : List PAct) : List UInt8 := l.flatMap fun a => lineL a ++ [10]
/-- Where the first act stands that may not be. -/
def firstBad (l : List PAct) : Nat := (l.takeWhile mayB).length
theorem tw_at {α : Type} (p : α → Bool) : ∀ (l : List α) (i : Nat) (x : α), l[i]? = some x → (∀ y ∈ l.take i, p y = true) → p x = false → (l.takeWhile p).length = i
 | [], i, x, h, _, _ => by simp at h
 | y :: l, 0, x, h, _, hx => by
  simp only [List.getElem?_cons_zero, Option.some.injEq] at h
  subst h
  simp [List.takeWhile_cons, hx]
 | y :: l, i + 1, x, h, hy, hx => by
  have h1 := hy y (by simp)
  simp only [List.takeWhile_cons, h1, if_true, List.length_cons]
  rw [tw_at p l i x (by simpa using h) (fun z hz => hy z (by simp [hz])) hx]
theorem tw_mem {α : Type} (p : α → Bool) : ∀ (l : List α) (x : α), x ∈ l.takeWhile p → p x = true
 | [], _, h => by simp at h
 | y :: l, x, h => by
  rw [List.takeWhile_cons] at h
  split at h
  ·rename_i hy
   rcases List.mem_cons.1 h with rfl | h
   ·exact hy
   ·exact tw_mem p l x h
  ·cases h
theorem tw_all {α : Type} (p : α → Bool) : ∀ (l : List α), (∀ y ∈ l, p y = true) → (l.takeWhile p).length = l.length
 | [], _ => rfl
 | y :: l, hy => by
  simp only [List.takeWhile_cons, hy y (List.mem_cons_self ..), if_true, List.length_cons]
  rw [tw_all p l (fun z hz => hy z (List.mem_cons_of_mem _ hz))]
/-- What Text answers: the text, a number, an error's number. -/
def textR (l : List PAct) : List UInt8 × Int × Int :=
 if 65536 < l.length then ([], 0, 3)
 else if firstBad l < l.length then ([], (firstBad l : Nat), 2)
 else if 1048576 < (textL l).length then ([], 0, 3) else (textL l, (l.length : Nat), 0)
theorem text1_enters : Eng.Enters Tryz.prog 58 := enters_mk fun _ _ => by kernel_rfl
theorem idxA_enters : Eng.Enters Tryz.prog 57 := enters_mk fun _ _ => by kernel_rfl
set_option maxRecDepth 100000 in
theorem text1_any (x : LA) (w : World) (hx : ActW w x.a x.bA x.pA) :
  Calls Tryz.prog 58 #[x.val] w fun e w' => e = .returned (.bool (!mayB x.a)) ∧ Fr (fun _ => False) w w' := by
 refine enter (cx := CX 6 [] w) [(0, x.val)] tab_ok Tryz.func58 rfl rfl rfl rfl (MemOk.nil w _) ?_
 conv => whnf
 intro xB
 conv => whnf
 (repeat ((first | refine stp (by (repeat constructor); first | done | fail) ?_ | refine stn (by (repeat constructor); first | done | fail) ?_ | refine sto (by (repeat constructor); first | done | fail) (by first | omega | (simp only; omega)) ?_ | refine .mk fun Ap capp => ?_ | refine ⟨?_, trivial⟩ | intro _); conv => whnf))
 refine ⟨check_enters, cl_same _ (fun w' hm' => check_any x.a x.bA x.pA x.bc x.pc w' (hx.stb hm'.fr)) ?_⟩
 conv => whnf
 (repeat ((first | refine stp (by (repeat constructor); first | done | fail) ?_ | refine stn (by (repeat constructor); first | done | fail) ?_ | refine sto (by (repeat constructor); first | done | fail) (by first | omega | (simp only; omega)) ?_ | refine .mk fun Ap capp => ?_ | refine ⟨?_, trivial⟩ | intro _); conv => whnf))
 refine fin1 rfl rfl (fun w' hm => ⟨?_, hm.fr⟩)
 cases mayB x.a <;> rfl
set_option maxRecDepth 100000 in
theorem idxA_any (A : Option Addr) (c : Nat) (L : List LA) (w : World) (hL : ActsW w A L) (hn : L.length ≤ 1048576) :
  Calls Tryz.prog 57 #[.slice A L.length c, .func (.func 58) #[] #[]] w fun e w' => e = .returned (.int .i64 (if firstBad (L.map LA.a) < L.length then (firstBad (L.map LA.a) : Nat) else -1)) ∧ Fr (fun _ => False) w w' := by
 refine enter (cx := CX 19 [] w) [(0, .slice A L.length c), (1, .func (.func 58) #[] #[])] tab_ok Tryz.func57 rfl rfl rfl rfl (MemOk.nil w _) ?_
 conv => whnf
 (repeat ((first | refine stp (by (repeat constructor); first | done | fail) ?_ | refine stn (by (repeat constructor); first | done | fail) ?_ | refine sto (by (repeat constructor); first | done | fail) (by first | omega | (simp only; omega)) ?_ | refine .mk fun Ap capp => ?_ | refine ⟨?_, trivial⟩ | intro _); conv => whnf))
 refine lp tab_ok (γ := Nat) (fun i => i ≤ L.length ∧ ∀ x ∈ (L.map LA.a).take i, mayB x = true) (fun i => [(8, .int .i64 i), (7, .int .i64 L.length), (0, .slice A L.length c), (1, .func (.func 58) #[] #[])]) (fun _ => []) (fun i => L.length - i) 0 ⟨by omega, fun x h => by simp at h⟩ ⟨rfl, rfl, rfl, rfl, trivial⟩ (SubM.refl _ _) ?_
 rintro i ⟨hi, hok⟩
 change XC _ _ _ [(8, .int .i64 (i : Int)), (7, .int .i64 L.length), (0, .slice A L.length c), (1, .func (.func 58) #[] #[])] []
 conv => whnf
 refine br_d (fun hlt => ?_) (fun hge => ?_)
 ·have hlt' : i < L.length := by omega
  have hx := List.getElem?_eq_getElem hlt'
  have hpl := hL.acts.plain (by omega)
  generalize L[i] = x at hx
  have hxm := List.mem_of_getElem? hx
  have hxa : (L.map LA.a)[i]? = some x.a := by rw [List.getElem?_map, hx]; rfl
  conv => whnf
  (repeat ((first | refine stp (by (repeat constructor); first | done | fail) ?_ | refine stn (by (repeat constructor); first | done | fail) ?_ | refine sto (by (repeat constructor); first | done | fail) (by first | omega | (simp only; omega)) ?_ | refine .mk fun Ap capp => ?_ | refine ⟨?_, trivial⟩ | intro _); conv => whnf))
  refine And.intro ⟨by omega, by omega, hpl⟩ ?_
  conv => whnf
  refine rn_load (hL.acts.ld rfl rfl (fun _ h => h) hx) ?_
  conv => whnf
  (repeat ((first | refine stp (by (repeat constructor); first | done | fail) ?_ | refine stn (by (repeat constructor); first | done | fail) ?_ | refine sto (by (repeat constructor); first | done | fail) (by first | omega | (simp only; omega)) ?_ | refine .mk fun Ap capp => ?_ | refine ⟨?_, trivial⟩ | intro _); conv => whnf))
  refine ⟨text1_enters, cl_same _ (fun w' hm' => text1_any x w' ((hL.get hxm).stb hm'.fr)) ?_⟩
  cases hmay : mayB x.a with
  | false =>
   conv => whnf
   (repeat ((first | refine stp (by (repeat constructor); first | done | fail) ?_ | refine stn (by (repeat constructor); first | done | fail) ?_ | refine sto (by (repeat constructor); first | done | fail) (by first | omega | (simp only; omega)) ?_ | refine .mk fun Ap capp => ?_ | refine ⟨?_, trivial⟩ | intro _); conv => whnf))
   refine br_t rfl ?_
   conv => whnf
   (repeat ((first | refine stp (by (repeat constructor); first | done | fail) ?_ | refine stn (by (repeat constructor); first | done | fail) ?_ | refine sto (by (repeat constructor); first | done | fail) (by first | omega | (simp only; omega)) ?_ | refine .mk fun Ap capp => ?_ | refine ⟨?_, trivial⟩ | intro _); conv => whnf))
   refine fin1 rfl rfl (fun w' hm => ⟨?_, hm.fr⟩)
   rw [firstBad, tw_at mayB _ i x.a hxa hok hmay, if_pos hlt']
  | true =>
   conv => whnf
   (repeat ((first | refine stp (by (repeat constructor); first | done | fail) ?_ | refine stn (by (repeat constructor); first | done | fail) ?_ | refine sto (by (repeat constructor); first | done | fail) (by first | omega | (simp only; omega)) ?_ | refine .mk fun Ap capp => ?_ | refine ⟨?_, trivial⟩ | intro _); conv => whnf))
   refine br_f rfl ?_
   conv => whnf
   (repeat ((first | refine stp (by (repeat constructor); first | done | fail) ?_ | refine stn (by (repeat constructor); first | done | fail) ?_ | refine sto (by (repeat constructor); first | done | fail) (by first | omega | (simp only; omega)) ?_ | refine .mk fun Ap capp => ?_ | refine ⟨?_, trivial⟩ | intro _); conv => whnf))
   refine ⟨i + 1, ⟨by omega, fun y hy => ?_⟩, by omega, ⟨rfl, rfl, rfl, rfl, trivial⟩, SubM.refl _ _⟩
   rw [List.take_add_one, hxa] at hy
   rcases List.mem_append.1 hy with hy | hy
   ·exact hok y hy
   ·simp at hy; subst hy; exact hmay
 ·conv => whnf
  (repeat ((first | refine stp (by (repeat constructor); first | done | fail) ?_ | refine stn (by (repeat constructor); first | done | fail) ?_ | refine sto (by (repeat constructor); first | done | fail) (by first | omega | (simp only; omega)) ?_ | refine .mk fun Ap capp => ?_ | refine ⟨?_, trivial⟩ | intro _); conv => whnf))
  refine fin1 rfl rfl (fun w' hm => ⟨?_, hm.fr⟩)
  rw [List.take_of_length_le (by simp; omega)] at hok
  have := tw_all mayB (L.map LA.a) hok
  rw [firstBad, this, List.length_map, if_neg (by omega)]
theorem Str_nil : (⟨#[]⟩ : ByteArray) = Str [] := rfl
theorem stext_enters : Eng.Enters Tryz.prog 27 := enters_mk fun _ _ => by kernel_rfl
theorem textL_take {l : List PAct} {i : Nat} {a : PAct} (h : l[i]? = some a) : textL (l.take (i + 1)) = textL (l.take i) ++ (lineL a ++ [10]) := by
 rw [List.take_add_one, h]; simp [textL]
theorem textL_le (l : List PAct) (i : Nat) : (textL (l.take i)).length ≤ (textL l).length := by
 have : textL l = textL (l.take i) ++ textL (l.drop i) := by rw [textL, textL, textL, ← List.flatMap_append, List.take_append_drop]
 rw [this, List.length_append]; omega
theorem lineM_any (x : LA) (hmay : mayB x.a = true) (w : World) (hx : ActW w x.a x.bA x.pA) :
  Calls Tryz.prog 34 #[x.val] w fun e w' => e = .returned (.tuple #[.string (Str (lineL x.a)), .int .i64 0]) ∧ Fr (fun _ => False) w w' := by
 refine (line_any x.a x.bA x.pA x.bc x.pc w hx).mono ?_
 rintro e w' ⟨rfl, hf⟩
 rw [if_pos hmay, if_pos hmay]
 exact ⟨rfl, hf⟩
set_option maxRecDepth 100000 in
set_option maxHeartbeats 1000000 in
theorem stext_any (A : Option Addr) (c : Nat) (L : List LA) (w : World) (hL : ActsW w A L) (hn : L.length ≤ 1048576) (hB : ∀ x ∈ L, mayB x.a = true → (lineL x.a).length ≤ 1099511627776) :
  Calls Tryz.prog 27 #[.slice A L.length c] w fun e w' => e = .returned (.tuple #[.string (Str (textR (L.map LA.a)).1), .int .i64 (textR (L.map LA.a)).2.1, .int .i64 (textR (L.map LA.a)).2.2]) ∧ Fr (fun _ => False) w w' := by
 refine enter (cx := CX 39 [] w) [(0, .slice A L.length c)] tab_ok Tryz.func27 rfl rfl rfl rfl (MemOk.nil w _) ?_
 conv => whnf
 (repeat ((first | refine stp (by (repeat constructor); first | done | fail) ?_ | refine stn (by (repeat constructor); first | done | fail) ?_ | refine sto (by (repeat constructor); first | done | fail) (by first | omega | (simp only; omega)) ?_ | refine .mk fun Ap capp => ?_ | refine ⟨?_, trivial⟩ | intro _); conv => whnf))
 refine br_d (fun hbig => ?_) (fun hbig => ?_)
 ·conv => whnf
  refine fin3 rfl rfl rfl rfl (fun w' hm => ⟨?_, hm.fr⟩)
  rw [textR, List.length_map, if_pos (by omega)]
 conv => whnf
 (repeat ((first | refine stp (by (repeat constructor); first | done | fail) ?_ | refine stn (by (repeat constructor); first | done | fail) ?_ | refine sto (by (repeat constructor); first | done | fail) (by first | omega | (simp only; omega)) ?_ | refine .mk fun Ap capp => ?_ | refine ⟨?_, trivial⟩ | intro _); conv => whnf))
 refine ⟨idxA_enters, cl_same _ (fun w' hm' => idxA_any A c L w' (hL.fr hm'.fr) hn) ?_⟩
 by_cases hbad : firstBad (L.map LA.a) < L.length
 ·rw [if_pos hbad]
  conv => whnf
  (repeat ((first | refine stp (by (repeat constructor); first | done | fail) ?_ | refine stn (by (repeat constructor); first | done | fail) ?_ | refine sto (by (repeat constructor); first | done | fail) (by first | omega | (simp only; omega)) ?_ | refine .mk fun Ap capp => ?_ | refine ⟨?_, trivial⟩ | intro _); conv => whnf))
  refine br_t (decide_eq_true (by omega)) ?_
  conv => whnf
  (repeat ((first | refine stp (by (repeat constructor); first | done | fail) ?_ | refine stn (by (repeat constructor); first | done | fail) ?_ | refine sto (by (repeat constructor); first | done | fail) (by first | omega | (simp only; omega)) ?_ | refine .mk fun Ap capp => ?_ | refine ⟨?_, trivial⟩ | intro _); conv => whnf))
  refine fin3 rfl rfl rfl rfl (fun w' hm => ⟨?_, hm.fr⟩)
  rw [textR, List.length_map, if_neg (by omega), if_pos hbad]
 rw [if_neg hbad]
 have hall : ∀ x ∈ L, mayB x.a = true := by
  intro x hx
  by_cases h : mayB x.a = true
  ·exact h
  ·exfalso
   apply hbad
   have hle : (L.map LA.a).takeWhile mayB ≠ L.map LA.a := by
    intro e
    exact h (tw_mem mayB (L.map LA.a) x.a (by rw [e]; exact List.mem_map.2 ⟨x, hx, rfl⟩))
   have h1 := (List.takeWhile_sublist mayB (l := L.map LA.a))
   have h2 := h1.length_le
   rw [List.length_map] at h2
   refine Nat.lt_of_le_of_ne h2 fun e => hle ?_
   exact h1.eq_of_length (by rw [List.length_map]; exact e)
 conv => whnf
 (repeat ((first | refine stp (by (repeat constructor); first | done | fail) ?_ | refine stn (by (repeat constructor); first | done | fail) ?_ | refine sto (by (repeat constructor); first | done | fail) (by first | omega | (simp only; omega)) ?_ | refine .mk fun Ap capp => ?_ | refine ⟨?_, trivial⟩ | intro _); conv => whnf))
 refine br_f (by rfl) ?_
 conv => whnf
 intro bB
 conv => whnf
 (repeat ((first | refine stp (by (repeat constructor); first | done | fail) ?_ | refine stn (by (repeat constructor); first | done | fail) ?_ | refine sto (by (repeat constructor); first | done | fail) (by first | omega | (simp only; omega)) ?_ | refine .mk fun Ap capp => ?_ | refine ⟨?_, trivial⟩ | intro _); conv => whnf))
 refine lp tab_ok (γ := Nat × Option Addr × Option Addr × Nat) (fun g => g.1 ≤ L.length ∧ (g.2.1 = none ∨ g.2.1 = some ⟨bB, 0, none⟩) ∧ (textL ((L.map LA.a).take g.1)).length ≤ 1048576) (fun g => [(21, .int .i64 g.1), (19, .slice A L.length c), (20, .int .i64 L.length), (6, .pointer (some ⟨bB, 0, none⟩)), (0, .slice A L.length c)])
  (fun g => BdM bB g.2.1 g.2.2.1 (textL ((L.map LA.a).take g.1)).length g.2.2.2 (textL ((L.map LA.a).take g.1))) (fun g => L.length - g.1) (0, none, none, 0) ⟨by omega, .inl rfl, by simp [textL]⟩ ⟨rfl, rfl, rfl, rfl, rfl, trivial⟩ (fun w hm => (hm.nilRow 5 1).sel (.cons (.there .here) (.cons .here .nil))) ?_
 rintro ⟨i, p, bA, bc⟩ ⟨hi, hp, hlen⟩
 simp only at hi hp hlen
 change XC _ _ _ [(21, .int .i64 (i : Int)), (19, .slice A L.length c), (20, .int .i64 L.length), (6, .pointer (some ⟨bB, 0, none⟩)), (0, .slice A L.length c)] (BdM bB p bA (textL ((L.map LA.a).take i)).length bc (textL ((L.map LA.a).take i)))
 conv => whnf
 refine br_d (fun hlt => ?_) (fun hge => ?_)
 ·have hlt' : i < L.length := by omega
  have hx := List.getElem?_eq_getElem hlt'
  have hpl := hL.acts.plain (by omega)
  generalize L[i] = x at hx
  have hxm := List.mem_of_getElem? hx
  have hxa : (L.map LA.a)[i]? = some x.a := by rw [List.getElem?_map, hx]; rfl
  have hlx := hB x hxm (hall x hxm)
  conv => whnf
  (repeat ((first | refine stp (by (repeat constructor); first | done | fail) ?_ | refine stn (by (repeat constructor); first | done | fail) ?_ | refine sto (by (repeat constructor); first | done | fail) (by first | omega | (simp only; omega)) ?_ | refine .mk fun Ap capp => ?_ | refine ⟨?_, trivial⟩ | intro _); conv => whnf))
  refine And.intro ⟨by omega, by omega, hpl⟩ ?_
  conv => whnf
  refine rn_load (hL.acts.ld rfl rfl (fun _ h => h) hx) ?_
  conv => whnf
  intro aB
  conv => whnf
  (repeat ((first | refine stp (by (repeat constructor); first | done | fail) ?_ | refine stn (by (repeat constructor); first | done | fail) ?_ | refine sto (by (repeat constructor); first | done | fail) (by first | omega | (simp only; omega)) ?_ | refine .mk fun Ap capp => ?_ | refine ⟨?_, trivial⟩ | intro _); conv => whnf))
  refine ⟨line_enters, cl_same _ (fun w' hm' => lineM_any x (hall x hxm) w' ((hL.get hxm).stb hm'.fr)) ?_⟩
  conv => whnf
  (repeat ((first | refine stp (by (repeat constructor); first | done | fail) ?_ | refine stn (by (repeat constructor); first | done | fail) ?_ | refine sto (by (repeat constructor); first | done | fail) (by first | omega | (simp only; omega)) ?_ | refine .mk fun Ap capp => ?_ | refine ⟨?_, trivial⟩ | intro _); conv => whnf))
  have hsz : (Str (lineL x.a)).size + (⟨#[10]⟩ : ByteArray).size ≤ 9223372036854775807 := by rw [Str.size]; show (lineL x.a).length + 1 ≤ _; omega
  refine And.intro hsz ?_
  rw [show (Str (lineL x.a) ++ ⟨#[10]⟩ : ByteArray) = Str (lineL x.a ++ [10]) from Str.append _ [10]]
  conv => whnf
  refine ⟨bwrite_enters, cl_write rfl rfl (by (repeat constructor); first | done | fail) hp (by simp only [List.length_append, List.length_singleton]; omega) (fun bA' bc' => ?_)⟩
  rw [← textL_take hxa]
  conv => whnf
  refine ⟨blen_enters, cl_blen rfl rfl (by (repeat constructor); first | done | fail) (.inr rfl) ?_⟩
  conv => whnf
  refine br_d (fun hb => ?_) (fun hb => ?_)
  ·conv => whnf
   refine fin3 rfl rfl rfl rfl (fun w' hm => ⟨?_, hm.fr⟩)
   have := textL_le (L.map LA.a) (i + 1)
   rw [textR, List.length_map, if_neg (by omega), if_neg hbad, if_pos (by omega)]
  ·conv => whnf
   (repeat ((first | refine stp (by (repeat constructor); first | done | fail) ?_ | refine stn (by (repeat constructor); first | done | fail) ?_ | refine sto (by (repeat constructor); first | done | fail) (by first | omega | (simp only; omega)) ?_ | refine .mk fun Ap capp => ?_ | refine ⟨?_, trivial⟩ | intro _); conv => whnf))
   exact ⟨(i + 1, some ⟨bB, 0, none⟩, bA', bc'), ⟨by simp only; omega, .inr rfl, by simp only; omega⟩, by simp only; omega, ⟨rfl, rfl, rfl, rfl, rfl, trivial⟩, SubM.refl _ _⟩
 ·have hil : i = L.length := by omega
  conv => whnf
  (repeat ((first | refine stp (by (repeat constructor); first | done | fail) ?_ | refine stn (by (repeat constructor); first | done | fail) ?_ | refine sto (by (repeat constructor); first | done | fail) (by first | omega | (simp only; omega)) ?_ | refine .mk fun Ap capp => ?_ | refine ⟨?_, trivial⟩ | intro _); conv => whnf))
  refine ⟨bstr_enters, cl_bstr rfl rfl (by (repeat constructor); first | done | fail) hp ?_⟩
  conv => whnf
  refine fin3 rfl rfl rfl rfl (fun w' hm => ⟨?_, hm.fr⟩)
  rw [List.take_of_length_le (by simp; omega)] at hlen ⊢
  rw [textR, List.length_map, if_neg (by omega), if_neg hbad, if_neg (by omega)]
end Go.Proofs.YtbfbjgakmnckbaaGreatDoor
namespace Go.Proofs.YtbfbjgakmnckbaaGreatDoor
open Go Go.RowKit Eng
attribute [local irreducible] Br Rn RnU Cl RdG CpG Ld Rd Lp Dr Oth Cut fin Fits Eng.Enters Md NA
theorem rtext_enters : Eng.Enters Tryz.prog 29 := enters_mk fun _ _ => by kernel_rfl
theorem firstBad_le (l : List PAct) : firstBad l ≤ l.length := (List.takeWhile_sublist mayB (l := l)).length_le
theorem firstBad_all {l : List PAct} (h : ∀ x ∈ l, mayB x = true) : firstBad l = l.length := tw_all mayB l h
set_option maxRecDepth 100000 in
set_option maxHeartbeats 1000000 in
theorem rtext_any (A : Option Addr) (c : Nat) (L : List LA) (w : World) (hL : ActsW w A L) (hn : L.length ≤ 1048576) (hB : ∀ x ∈ L, mayB x.a = true → (lineL x.a).length ≤ 1099511627776) :
  Calls Tryz.prog 29 #[.slice A L.length c] w fun e w' => e = .returned (.tuple #[.string (Str (textR (L.map LA.a)).1), .int .i64 (textR (L.map LA.a)).2.1, .int .i64 (textR (L.map LA.a)).2.2]) ∧ Fr (fun _ => False) w w' := by
 refine enter (cx := CX 44 [] w) [(0, .slice A L.length c)] tab_ok Tryz.func29 rfl rfl rfl rfl (MemOk.nil w _) ?_
 conv => whnf
 (repeat ((first | refine stp (by (repeat constructor); first | done | fail) ?_ | refine stn (by (repeat constructor); first | done | fail) ?_ | refine sto (by (repeat constructor); first | done | fail) (by first | omega | (simp only; omega)) ?_ | refine .mk fun Ap capp => ?_ | refine ⟨?_, trivial⟩ | intro _); conv => whnf))
 refine br_d (fun hbig => ?_) (fun hbig => ?_)
 ·conv => whnf
  refine fin3 rfl rfl rfl rfl (fun w' hm => ⟨?_, hm.fr⟩)
  rw [textR, List.length_map, if_pos (by omega)]
 conv => whnf
 (repeat ((first | refine stp (by (repeat constructor); first | done | fail) ?_ | refine stn (by (repeat constructor); first | done | fail) ?_ | refine sto (by (repeat constructor); first | done | fail) (by first | omega | (simp only; omega)) ?_ | refine .mk fun Ap capp => ?_ | refine ⟨?_, trivial⟩ | intro _); conv => whnf))
 refine lp tab_ok (γ := Nat) (fun i => i ≤ L.length ∧ ∀ x ∈ (L.map LA.a).take i, mayB x = true) (fun i => [(5, .int .i64 i), (0, .slice A L.length c)]) (fun _ => []) (fun i => L.length - i) 0 ⟨by omega, fun x h => by simp at h⟩ ⟨rfl, rfl, trivial⟩ (SubM.refl _ _) ?_
 rintro i ⟨hi, hok⟩
 change XC _ _ _ [(5, .int .i64 (i : Int)), (0, .slice A L.length c)] []
 conv => whnf
 refine br_d (fun hlt => ?_) (fun hge => ?_)
 ·have hlt' : i < L.length := by omega
  have hx := List.getElem?_eq_getElem hlt'
  have hpl := hL.acts.plain (by omega)
  generalize L[i] = x at hx
  have hxm := List.mem_of_getElem? hx
  have hxa : (L.map LA.a)[i]? = some x.a := by rw [List.getElem?_map, hx]; rfl
  conv => whnf
  (repeat ((first | refine stp (by (repeat constructor); first | done | fail) ?_ | refine stn (by (repeat constructor); first | done | fail) ?_ | refine sto (by (repeat constructor); first | done | fail) (by first | omega | (simp only; omega)) ?_ | refine .mk fun Ap capp => ?_ | refine ⟨?_, trivial⟩ | intro _); conv => whnf))
  refine And.intro ⟨by omega, by omega, hpl⟩ ?_
  conv => whnf
  refine rn_load (hL.acts.ld rfl rfl (fun _ h => h) hx) ?_
  conv => whnf
  refine ⟨may_enters, cl_same _ (fun w' hm' => may_any x.a x.bA x.pA x.bc x.pc w' ((hL.acts.act x hxm).stb hm'.fr)) ?_⟩
  cases hmay : mayB x.a with
  | false =>
   conv => whnf
   (repeat ((first | refine stp (by (repeat constructor); first | done | fail) ?_ | refine stn (by (repeat constructor); first | done | fail) ?_ | refine sto (by (repeat constructor); first | done | fail) (by first | omega | (simp only; omega)) ?_ | refine .mk fun Ap capp => ?_ | refine ⟨?_, trivial⟩ | intro _); conv => whnf))
   refine br_t rfl ?_
   conv => whnf
   (repeat ((first | refine stp (by (repeat constructor); first | done | fail) ?_ | refine stn (by (repeat constructor); first | done | fail) ?_ | refine sto (by (repeat constructor); first | done | fail) (by first | omega | (simp only; omega)) ?_ | refine .mk fun Ap capp => ?_ | refine ⟨?_, trivial⟩ | intro _); conv => whnf))
   refine fin3 rfl rfl rfl rfl (fun w' hm => ⟨?_, hm.fr⟩)
   have hfb : firstBad (L.map LA.a) = i := tw_at mayB _ i x.a hxa hok hmay
   rw [textR, List.length_map, if_neg (by omega), hfb, if_pos hlt']
  | true =>
   conv => whnf
   (repeat ((first | refine stp (by (repeat constructor); first | done | fail) ?_ | refine stn (by (repeat constructor); first | done | fail) ?_ | refine sto (by (repeat constructor); first | done | fail) (by first | omega | (simp only; omega)) ?_ | refine .mk fun Ap capp => ?_ | refine ⟨?_, trivial⟩ | intro _); conv => whnf))
   refine br_f rfl ?_
   conv => whnf
   (repeat ((first | refine stp (by (repeat constructor); first | done | fail) ?_ | refine stn (by (repeat constructor); first | done | fail) ?_ | refine sto (by (repeat constructor); first | done | fail) (by first | omega | (simp only; omega)) ?_ | refine .mk fun Ap capp => ?_ | refine ⟨?_, trivial⟩ | intro _); conv => whnf))
   refine ⟨i + 1, ⟨by omega, fun y hy => ?_⟩, by omega, ⟨rfl, rfl, trivial⟩, SubM.refl _ _⟩
   rw [List.take_add_one, hxa] at hy
   rcases List.mem_append.1 hy with hy | hy
   ·exact hok y hy
   ·simp at hy; subst hy; exact hmay
 ·have hil : i = L.length := by omega
  rw [List.take_of_length_le (by simp; omega)] at hok
  have hall : ∀ x ∈ L, mayB x.a = true := fun x hx => hok x.a (List.mem_map.2 ⟨x, hx, rfl⟩)
  have hfb := firstBad_all hok
  rw [List.length_map] at hfb
  clear hil hge hi
  conv => whnf
  (repeat ((first | refine stp (by (repeat constructor); first | done | fail) ?_ | refine stn (by (repeat constructor); first | done | fail) ?_ | refine sto (by (repeat constructor); first | done | fail) (by first | omega | (simp only; omega)) ?_ | refine .mk fun Ap capp => ?_ | refine ⟨?_, trivial⟩ | intro _); conv => whnf))
  refine lp tab_ok (γ := Nat) (fun i => i ≤ L.length ∧ (textL ((L.map LA.a).take i)).length ≤ 1048576) (fun i => [(7, .int .i64 i), (0, .slice A L.length c), (6, .string (Str (textL ((L.map LA.a).take i))))]) (fun _ => []) (fun i => L.length - i) 0 ⟨by omega, by simp [textL]⟩ ⟨rfl, rfl, rfl, trivial⟩ (SubM.refl _ _) ?_
  rintro i ⟨hi, hlen⟩
  change XC _ _ _ [(7, .int .i64 (i : Int)), (0, .slice A L.length c), (6, .string (Str (textL ((L.map LA.a).take i))))] []
  conv => whnf
  refine br_d (fun hlt => ?_) (fun hge => ?_)
  ·have hlt' : i < L.length := by omega
   have hx := List.getElem?_eq_getElem hlt'
   have hpl := hL.acts.plain (by omega)
   generalize L[i] = x at hx
   have hxm := List.mem_of_getElem? hx
   have hxa : (L.map LA.a)[i]? = some x.a := by rw [List.getElem?_map, hx]; rfl
   have hlx := hB x hxm (hall x hxm)
   conv => whnf
   (repeat ((first | refine stp (by (repeat constructor); first | done | fail) ?_ | refine stn (by (repeat constructor); first | done | fail) ?_ | refine sto (by (repeat constructor); first | done | fail) (by first | omega | (simp only; omega)) ?_ | refine .mk fun Ap capp => ?_ | refine ⟨?_, trivial⟩ | intro _); conv => whnf))
   refine And.intro ⟨by omega, by omega, hpl⟩ ?_
   conv => whnf
   refine rn_load (hL.acts.ld rfl rfl (fun _ h => h) hx) ?_
   conv => whnf
   refine ⟨rline_enters, cl_same _ (fun w' hm' => rline_any x.a x.bA x.pA x.bc x.pc w' ((hL.get hxm).stb hm'.fr) (hall x hxm)) ?_⟩
   conv => whnf
   (repeat ((first | refine stp (by (repeat constructor); first | done | fail) ?_ | refine stn (by (repeat constructor); first | done | fail) ?_ | refine sto (by (repeat constructor); first | done | fail) (by first | omega | (simp only; omega)) ?_ | refine .mk fun Ap capp => ?_ | refine ⟨?_, trivial⟩ | intro _); conv => whnf))
   have hs1 : (Str (textL ((L.map LA.a).take i))).size + (Str (lineL x.a)).size ≤ 9223372036854775807 := by rw [Str.size, Str.size]; omega
   refine And.intro hs1 ?_
   rw [Str.append]
   conv => whnf
   have hs2 : (Str (textL ((L.map LA.a).take i) ++ lineL x.a)).size + (⟨#[10]⟩ : ByteArray).size ≤ 9223372036854775807 := by rw [Str.size, List.length_append]; show _ + 1 ≤ _; omega
   refine And.intro hs2 ?_
   rw [show (Str (textL ((L.map LA.a).take i) ++ lineL x.a) ++ ⟨#[10]⟩ : ByteArray) = Str (textL ((L.map LA.a).take i) ++ lineL x.a ++ [10]) from Str.append _ [10], List.append_assoc, ← textL_take hxa]
   have hsz := Str.size (textL ((L.map LA.a).take (i + 1)))
   conv => whnf
   (repeat ((first | refine stp (by (repeat constructor); first | done | fail) ?_ | refine stn (by (repeat constructor); first | done | fail) ?_ | refine sto (by (repeat constructor); first | done | fail) (by first | omega | (simp only; omega)) ?_ | refine .mk fun Ap capp => ?_ | refine ⟨?_, trivial⟩ | intro _); conv => whnf))
   refine br_d (fun hb => ?_) (fun hb => ?_)
   ·conv => whnf
    refine fin3 rfl rfl rfl rfl (fun w' hm => ⟨?_, hm.fr⟩)
    have := textL_le (L.map LA.a) (i + 1)
    rw [textR, List.length_map, if_neg (by omega), if_neg (by omega), if_pos (by omega)]
   ·conv => whnf
    (repeat ((first | refine stp (by (repeat constructor); first | done | fail) ?_ | refine stn (by (repeat constructor); first | done | fail) ?_ | refine sto (by (repeat constructor); first | done | fail) (by first | omega | (simp only; omega)) ?_ | refine .mk fun Ap capp => ?_ | refine ⟨?_, trivial⟩ | intro _); conv => whnf))
    exact ⟨i + 1, ⟨by omega, by omega⟩, by omega, ⟨rfl, rfl, rfl, trivial⟩, SubM.refl _ _⟩
  ·have hil : i = L.length := by omega
   conv => whnf
   (repeat ((first | refine stp (by (repeat constructor); first | done | fail) ?_ | refine stn (by (repeat constructor); first | done | fail) ?_ | refine sto (by (repeat constructor); first | done | fail) (by first | omega | (simp only; omega)) ?_ | refine .mk fun Ap capp => ?_ | refine ⟨?_, trivial⟩ | intro _); conv => whnf))
   refine fin3 rfl rfl rfl rfl (fun w' hm => ⟨?_, hm.fr⟩)
   rw [List.take_of_length_le (by simp; omega)] at hlen ⊢
   rw [textR, List.length_map, if_neg (by omega), if_neg (by omega), if_neg (by omega)]
end Go.Proofs.YtbfbjgakmnckbaaGreatDoor
namespace Go.Proofs.YtbfbjgakmnckbaaGreatDoor
open Go Go.RowKit Eng
section
variable {cx : Cx}
/-- append onto a row that is owned, of a slice whose cells are known. -/
theorem rn_appV {m m' : Mem} {t e ty len : Nat} {i ti : TyI} {A : Option Addr} {cap n : Nat} {xs : List Value} {p : Option Addr} {c : Nat} (ys : List Value) (hlen : ys.length = len) (ht : TabOk cx.P cx.tab) {K : Value → Mem → Prop}
  (hi : cx.tab.get t = some i) (hk : i.kind = .slice e) (hti : cx.tab.get e = some ti) (hz : ti.zero.length = ti.cells) (hs : ti.cells = 1) (hp : (Nat.ble 1 ti.cells && Nat.ble ti.bytes 4096) = true)
  (hu : Out m (.row A cap n e 1 xs) m') (hy : ∀ w, MemOk cx.w0 cx.S m w → 0 < len → ∃ b o, p = some ⟨b, o, none⟩ ∧ ∀ j u, ys[j]? = some u → w.cell? ⟨b, o + j, none⟩ = some u) (h1 : allOne ys = true)
  (hb : n + len ≤ 34359738368) (hK : ∀ A' cap', K (.slice A' (n + len) cap') (.row A' cap' (n + len) e 1 (xs ++ ys) :: m')) :
  Rn cx m (Builtin.append_ #[t, t] ty #[.slice A n cap, .slice p len c]) K := by
 subst hlen
 by_cases h0 : ys = []
 ·subst h0
  intro w hm
  obtain ⟨inf, z, g1, g2, g3, g4, g5⟩ := TyI.zeroOf (ht _ _ hti)
  have hm1 := hm.perm hu.perm
  have hown : w.ownsRow 0 e 1 (.slice A n cap) n xs := hm1.ok _ (List.mem_cons_self ..)
  have hr := run_append_zero (P := cx.P) 0 t ty e inf 1 (TyI.sliceOf (ht _ _ hi) hk) g1 _ n xs hown p c
  have := hK A cap
  simp only [List.length_nil, Nat.add_zero, List.append_nil] at this
  exact ⟨_, w, _, hr, hm1, this⟩
 ·intro w hm
  have hpos : 0 < ys.length := List.length_pos_iff.2 h0
  obtain ⟨b, o, rfl, _⟩ := hy w hm hpos
  refine rn_app (cx := cx) (news := ys) (a := ⟨b, o, none⟩) (k := ys.length) (size := 1) ht hi hk hti hz hs hp hu (by simp) (fun w' hm' j u hj => ?_) h1 hb hK w hm
  obtain ⟨b', o', hbo, hc⟩ := hy w' hm' hpos
  injection hbo with hbo; injection hbo with e1 e2; subst e1 e2
  rw [Addr.add_lit]
  exact hc j u hj
end
theorem allOne_strs : ∀ l : List (List UInt8), allOne (strsOf l) = true
 | [] => rfl
 | _ :: r => allOne_strs r
/-- A part of a row of strings, where its slice begins. -/
theorem strs_part {w : World} {A : Option Addr} {cap : Nat} {l : List (List UInt8)} (hr : (Res.row A cap l.length 9 1 (strsOf l)).ok w) (hcap : l.length ≤ cap) (i k : Nat) (hik : i + k ≤ l.length) (h0 : 0 < k) :
  ∃ b o, cutA A cap i 1 = some ⟨b, o, none⟩ ∧ ∀ j u, (strsOf ((l.drop i).take k))[j]? = some u → w.cell? ⟨b, o + j, none⟩ = some u := by
 obtain ⟨b, rfl, _⟩ := row_cell hr (j := 0) (v := .string (Str (l.getD 0 []))) (by rw [strsOf, List.getElem?_map, List.getD, List.getElem?_eq_getElem (by omega)]; rfl)
 refine ⟨b, i, ?_, fun j u hj => ?_⟩
 ·unfold cutA
  rw [if_neg (by omega), mulC_eq, Nat.mul_one]
  show some (⟨b, 0 + i, none⟩ : Addr) = _
  rw [Nat.zero_add]
 ·have hjk : j < k := by
   have := (List.getElem?_eq_some_iff.1 hj).1
   rw [strsOf, List.length_map, List.length_take] at this
   omega
  have hj2 : (strsOf l)[i + j]? = some u := by
   rw [strsOf, List.getElem?_map] at hj ⊢
   rw [List.getElem?_take_of_lt hjk, List.getElem?_drop] at hj
   exact hj
  obtain ⟨b', e, hc⟩ := row_cell hr hj2
  injection e with e; injection e with e; subst e
  exact hc
attribute [local irreducible] Br Rn RnU Cl RdG CpG Ld Rd Lp Dr Oth Cut fin Fits Eng.Enters Md NA
theorem with_enters : Eng.Enters Tryz.prog 68 := enters_mk fun _ _ => by kernel_rfl
/-- How many names stand before a name. -/
def insK (l : List (List UInt8)) (s : List UInt8) : Nat := (l.takeWhile fun x => Op.bytesLess x s).length
/-- A rising list with a name that is not empty. -/
def insL (l : List (List UInt8)) (s : List UInt8) : List (List UInt8) := if s = [] then l else if l[insK l s]? = some s then l else l.take (insK l s) ++ (s :: l.drop (insK l s))
abbrev StM (A : Option Addr) (cap : Nat) (l : List (List UInt8)) : Mem := [.row A cap l.length 9 1 (strsOf l)]
theorem strs_get {l : List (List UInt8)} {i : Nat} (h : i < l.length) : (strsOf l)[i]? = some (.string (Str (l.getD i []))) := by
 rw [strsOf, List.getElem?_map, List.getD, List.getElem?_eq_getElem h]; rfl
set_option maxRecDepth 100000 in
set_option maxHeartbeats 1000000 in
theorem with_any (A : Option Addr) (cap : Nat) (l : List (List UInt8)) (s : List UInt8) (w : World) (hn : l.length ≤ 1048576) (hm : MemOk w (Foot (StM A cap l)) (StM A cap l) w) :
  Ctr Tryz.prog 68 [.slice A l.length cap, .string (Str s)] (StM A cap l) (fun e m' => ∃ A' cap', e = .returned (.slice A' (insL l s).length cap') ∧ m' = StM A' cap' (insL l s)) w := by
 have hplA : 0 < l.length → Pl A := fun h => by
  obtain ⟨b, e, _⟩ := row_cell (hm.ok _ (List.mem_cons_self ..)) (strs_get h)
  exact ⟨b, 0, e⟩
 have hcap : l.length ≤ cap := by
  have hr : w.ownsRow 0 9 1 (.slice A l.length cap) l.length (strsOf l) := hm.ok _ (List.mem_cons_self ..)
  rcases hr.2 with ⟨_, h0⟩ | ⟨g, c', cur, e, _, _, h, _⟩
  ·omega
  ·injection e with _ _ e; omega
 have hA : A = none ∨ Pl A := by
  have hr : w.ownsRow 0 9 1 (.slice A l.length cap) l.length (strsOf l) := hm.ok _ (List.mem_cons_self ..)
  rcases hr.2 with ⟨e, h0⟩ | ⟨g, c', cur, e, _⟩
  ·injection e with e; exact .inl e
  ·injection e with e; exact .inr ⟨g, 0, e⟩
 refine enter (cx := CXS 51 [] w (Foot (StM A cap l))) [(0, .slice A l.length cap), (1, .string (Str s))] tab_ok Tryz.func68 rfl rfl rfl rfl hm ?_
 conv => whnf
 refine lp tab_ok (γ := Nat) (fun i => i ≤ l.length ∧ ∀ x ∈ l.take i, Op.bytesLess x s = true) (fun i => [(5, .int .i64 i), (0, .slice A l.length cap), (1, .string (Str s))]) (fun _ => StM A cap l) (fun i => l.length - i) 0 ⟨by omega, fun x h => by simp at h⟩ ⟨rfl, rfl, rfl, trivial⟩ (SubM.refl _ _) ?_
 rintro i ⟨hi, hlt⟩
 change XC _ _ _ [(5, .int .i64 (i : Int)), (0, .slice A l.length cap), (1, .string (Str s))] (StM A cap l)
 conv => whnf
 (repeat ((first | refine stp (by (repeat constructor); first | done | fail) ?_ | refine stn (by (repeat constructor); first | done | fail) ?_ | refine sto (by (repeat constructor); first | done | fail) (by first | omega | (simp only; omega)) ?_ | refine .mk fun Ap capp => ?_ | refine ⟨?_, trivial⟩ | intro _); conv => whnf))
 refine And.intro (fun hg => ⟨by omega, of_decide_eq_true hg, hplA (by have := of_decide_eq_true hg; omega)⟩) ?_
 conv => whnf
 refine ⟨.string (Str (l.getD i [])), ldg (fun hg => ldR tab_ok .here rfl rfl (strs_get (i := i) (by have := of_decide_eq_true hg; omega))), ?_⟩
 conv => whnf
 (repeat ((first | refine stp (by (repeat constructor); first | done | fail) ?_ | refine stn (by (repeat constructor); first | done | fail) ?_ | refine sto (by (repeat constructor); first | done | fail) (by first | omega | (simp only; omega)) ?_ | refine .mk fun Ap capp => ?_ | refine ⟨?_, trivial⟩ | intro _); conv => whnf))
 refine br (fun hb => ?_) (fun hb => ?_)
 ·rw [Bool.and_eq_true] at hb
  have hlt' : i < l.length := by have := of_decide_eq_true hb.1; omega
  conv => whnf
  (repeat ((first | refine stp (by (repeat constructor); first | done | fail) ?_ | refine stn (by (repeat constructor); first | done | fail) ?_ | refine sto (by (repeat constructor); first | done | fail) (by first | omega | (simp only; omega)) ?_ | refine .mk fun Ap capp => ?_ | refine ⟨?_, trivial⟩ | intro _); conv => whnf))
  refine ⟨i + 1, ⟨by omega, fun y hy => ?_⟩, by omega, ⟨rfl, rfl, rfl, trivial⟩, SubM.refl _ _⟩
  rw [List.take_add_one, List.getElem?_eq_getElem hlt'] at hy
  rcases List.mem_append.1 hy with hy | hy
  ·exact hlt y hy
  ·simp only [Option.toList_some, List.mem_singleton] at hy
   subst hy
   have := hb.2
   rw [List.getD, List.getElem?_eq_getElem hlt'] at this
   exact this
 ·have hk : insK l s = i := by
   by_cases hl : i < l.length
   ·refine tw_at _ l i l[i] (List.getElem?_eq_getElem hl) hlt ?_
    have h1 : decide ((i : Int) < (l.length : Int)) = true := decide_eq_true (by omega)
    rw [h1, Bool.true_and, List.getD, List.getElem?_eq_getElem hl] at hb
    exact hb
   ·rw [show i = l.length by omega]
    exact tw_all _ l (fun x hx => hlt x (by rw [List.take_of_length_le (by omega)]; exact hx))
  clear hb hlt
  conv => whnf
  (repeat ((first | refine stp (by (repeat constructor); first | done | fail) ?_ | refine stn (by (repeat constructor); first | done | fail) ?_ | refine sto (by (repeat constructor); first | done | fail) (by first | omega | (simp only; omega)) ?_ | refine .mk fun Ap capp => ?_ | refine ⟨?_, trivial⟩ | intro _); conv => whnf))
  refine br_d (fun hs => ?_) (fun hs => ?_)
  ·have hs0 : s = [] := Str.inj.1 hs
   conv => whnf
   (repeat ((first | refine stp (by (repeat constructor); first | done | fail) ?_ | refine stn (by (repeat constructor); first | done | fail) ?_ | refine sto (by (repeat constructor); first | done | fail) (by first | omega | (simp only; omega)) ?_ | refine .mk fun Ap capp => ?_ | refine ⟨?_, trivial⟩ | intro _); conv => whnf))
   refine br_t rfl ?_
   conv => whnf
   (repeat ((first | refine stp (by (repeat constructor); first | done | fail) ?_ | refine stn (by (repeat constructor); first | done | fail) ?_ | refine sto (by (repeat constructor); first | done | fail) (by first | omega | (simp only; omega)) ?_ | refine .mk fun Ap capp => ?_ | refine ⟨?_, trivial⟩ | intro _); conv => whnf))
   refine fin1 rfl rfl (fun w' hm => ⟨_, ⟨A, cap, ?_, ?_⟩, hm⟩)
   ·rw [insL, if_pos hs0]
   ·rw [insL, if_pos hs0]
  ·have hs0 : ¬ s = [] := fun h => hs (Str.inj.2 h)
   conv => whnf
   (repeat ((first | refine stp (by (repeat constructor); first | done | fail) ?_ | refine stn (by (repeat constructor); first | done | fail) ?_ | refine sto (by (repeat constructor); first | done | fail) (by first | omega | (simp only; omega)) ?_ | refine .mk fun Ap capp => ?_ | refine ⟨?_, trivial⟩ | intro _); conv => whnf))
   refine br_d (fun hl => ?_) (fun hl => ?_)
   ·have hl' : i < l.length := by omega
    have hget : l[i]? = some (l.getD i []) := by rw [List.getD, List.getElem?_eq_getElem hl']; rfl
    conv => whnf
    (repeat ((first | refine stp (by (repeat constructor); first | done | fail) ?_ | refine stn (by (repeat constructor); first | done | fail) ?_ | refine sto (by (repeat constructor); first | done | fail) (by first | omega | (simp only; omega)) ?_ | refine .mk fun Ap capp => ?_ | refine ⟨?_, trivial⟩ | intro _); conv => whnf))
    refine And.intro ⟨by omega, by omega, hplA (by omega)⟩ ?_
    conv => whnf
    refine rn_load (v := .string (Str (l.getD i []))) (ldR tab_ok .here rfl rfl (strs_get (i := i) hl')) ?_
    conv => whnf
    (repeat ((first | refine stp (by (repeat constructor); first | done | fail) ?_ | refine stn (by (repeat constructor); first | done | fail) ?_ | refine sto (by (repeat constructor); first | done | fail) (by first | omega | (simp only; omega)) ?_ | refine .mk fun Ap capp => ?_ | refine ⟨?_, trivial⟩ | intro _); conv => whnf))
    refine br_d (fun he => ?_) (fun he => ?_)
    ·have he' : l.getD i [] = s := Str.inj.1 he
     conv => whnf
     (repeat ((first | refine stp (by (repeat constructor); first | done | fail) ?_ | refine stn (by (repeat constructor); first | done | fail) ?_ | refine sto (by (repeat constructor); first | done | fail) (by first | omega | (simp only; omega)) ?_ | refine .mk fun Ap capp => ?_ | refine ⟨?_, trivial⟩ | intro _); conv => whnf))
     have hin : insL l s = l := by rw [insL, if_neg hs0, hk, hget, if_pos (by rw [he'])]
     refine fin1 rfl rfl (fun w' hm => ⟨_, ⟨A, cap, ?_, ?_⟩, hm⟩)
     ·rw [hin]
     ·rw [hin]
    ·have hin : insL l s = l.take i ++ (s :: l.drop i) := by rw [insL, if_neg hs0, hk, hget, if_neg (fun h => he (Str.inj.2 (Option.some.inj h)))]
     conv => whnf
     (repeat ((first | refine stp (by (repeat constructor); first | done | fail) ?_ | refine stn (by (repeat constructor); first | done | fail) ?_ | refine sto (by (repeat constructor); first | done | fail) (by first | omega | (simp only; omega)) ?_ | refine .mk fun Ap capp => ?_ | refine ⟨?_, trivial⟩ | intro _); conv => whnf))
     refine And.intro ⟨by omega, by omega, by omega, hA⟩ ?_
     conv => whnf
     refine rn_subm (SubM.row0 (SubM.refl _ _) 9 1) ?_
     refine rn_appV (strsOf (l.take i)) (by rw [strsOf, List.length_map, List.length_take]; show min i l.length = i - 0; omega) tab_ok rfl rfl rfl rfl rfl rfl .here (fun w' hm' h0 => ?_) (allOne_strs _) (by show 0 + (i - 0) ≤ _; omega) (fun A1 c1 => ?_)
     ·have := strs_part (hm'.ok _ (List.mem_cons_of_mem _ (List.mem_cons_self ..))) hcap 0 i (by omega) (by have : 0 < i - 0 := h0; omega)
      rw [List.drop_zero] at this
      exact this
     conv => whnf
     (repeat ((first | refine stp (by (repeat constructor); first | done | fail) ?_ | refine stn (by (repeat constructor); first | done | fail) ?_ | refine sto (by (repeat constructor); first | done | fail) (by first | omega | (simp only; omega)) ?_ | refine .mk fun Ap capp => ?_ | refine ⟨?_, trivial⟩ | intro _); conv => whnf))
     refine And.intro ⟨by omega, by omega, by omega, hA⟩ ?_
     conv => whnf
     refine rn_appV (strsOf (l.drop i)) (by rw [strsOf, List.length_map, List.length_drop]; rfl) tab_ok rfl rfl rfl rfl rfl rfl .here (fun w' hm' h0 => ?_) (allOne_strs _) (by show 0 + (i - 0) + 1 + (l.length - i) ≤ _; omega) (fun A2 c2 => ?_)
     ·have h0 : 0 < l.length - i := h0
      have := strs_part (hm'.ok (.row A cap l.length 9 1 (strsOf l)) (by simp)) hcap i (l.length - i) (by omega) h0
      rw [List.take_of_length_le (by simp)] at this
      exact this
     conv => whnf
     (repeat ((first | refine stp (by (repeat constructor); first | done | fail) ?_ | refine stn (by (repeat constructor); first | done | fail) ?_ | refine sto (by (repeat constructor); first | done | fail) (by first | omega | (simp only; omega)) ?_ | refine .mk fun Ap capp => ?_ | refine ⟨?_, trivial⟩ | intro _); conv => whnf))
     have e1 : (insL l s).length = 0 + (i - 0) + 1 + (l.length - i) := by rw [hin]; simp; omega
     have e2 : strsOf (insL l s) = [] ++ strsOf (l.take i) ++ [.string (Str s)] ++ strsOf (l.drop i) := by rw [hin]; simp [strsOf]
     refine fin1 rfl rfl (fun w' hm => ⟨_, ⟨A2, c2, by rw [e1]; rfl, rfl⟩, ?_⟩)
     show MemOk _ _ [.row A2 c2 (insL l s).length 9 1 (strsOf (insL l s))] _
     rw [e1, e2]
     exact hm.sel (by (repeat constructor); first | done | fail)
   ·have hin : insL l s = l.take i ++ (s :: l.drop i) := by rw [insL, if_neg hs0, hk, List.getElem?_eq_none (by omega), if_neg (by simp)]
    conv => whnf
    (repeat ((first | refine stp (by (repeat constructor); first | done | fail) ?_ | refine stn (by (repeat constructor); first | done | fail) ?_ | refine sto (by (repeat constructor); first | done | fail) (by first | omega | (simp only; omega)) ?_ | refine .mk fun Ap capp => ?_ | refine ⟨?_, trivial⟩ | intro _); conv => whnf))
    refine br_f rfl ?_
    conv => whnf
    (repeat ((first | refine stp (by (repeat constructor); first | done | fail) ?_ | refine stn (by (repeat constructor); first | done | fail) ?_ | refine sto (by (repeat constructor); first | done | fail) (by first | omega | (simp only; omega)) ?_ | refine .mk fun Ap capp => ?_ | refine ⟨?_, trivial⟩ | intro _); conv => whnf))
    refine And.intro ⟨by omega, by omega, by omega, hA⟩ ?_
    conv => whnf
    refine rn_subm (SubM.row0 (SubM.refl _ _) 9 1) ?_
    refine rn_appV (strsOf (l.take i)) (by rw [strsOf, List.length_map, List.length_take]; show min i l.length = i - 0; omega) tab_ok rfl rfl rfl rfl rfl rfl .here (fun w' hm' h0 => ?_) (allOne_strs _) (by show 0 + (i - 0) ≤ _; omega) (fun A1 c1 => ?_)
    ·have := strs_part (hm'.ok _ (List.mem_cons_of_mem _ (List.mem_cons_self ..))) hcap 0 i (by omega) (by have : 0 < i - 0 := h0; omega)
     rw [List.drop_zero] at this
     exact this
    conv => whnf
    (repeat ((first | refine stp (by (repeat constructor); first | done | fail) ?_ | refine stn (by (repeat constructor); first | done | fail) ?_ | refine sto (by (repeat constructor); first | done | fail) (by first | omega | (simp only; omega)) ?_ | refine .mk fun Ap capp => ?_ | refine ⟨?_, trivial⟩ | intro _); conv => whnf))
    refine And.intro ⟨by omega, by omega, by omega, hA⟩ ?_
    conv => whnf
    refine rn_appV (strsOf (l.drop i)) (by rw [strsOf, List.length_map, List.length_drop]; rfl) tab_ok rfl rfl rfl rfl rfl rfl .here (fun w' hm' h0 => ?_) (allOne_strs _) (by show 0 + (i - 0) + 1 + (l.length - i) ≤ _; omega) (fun A2 c2 => ?_)
    ·have h0 : 0 < l.length - i := h0
     have := strs_part (hm'.ok (.row A cap l.length 9 1 (strsOf l)) (by simp)) hcap i (l.length - i) (by omega) h0
     rw [List.take_of_length_le (by simp)] at this
     exact this
    conv => whnf
    (repeat ((first | refine stp (by (repeat constructor); first | done | fail) ?_ | refine stn (by (repeat constructor); first | done | fail) ?_ | refine sto (by (repeat constructor); first | done | fail) (by first | omega | (simp only; omega)) ?_ | refine .mk fun Ap capp => ?_ | refine ⟨?_, trivial⟩ | intro _); conv => whnf))
    have e1 : (insL l s).length = 0 + (i - 0) + 1 + (l.length - i) := by rw [hin]; simp; omega
    have e2 : strsOf (insL l s) = [] ++ strsOf (l.take i) ++ [.string (Str s)] ++ strsOf (l.drop i) := by rw [hin]; simp [strsOf]
    refine fin1 rfl rfl (fun w' hm => ⟨_, ⟨A2, c2, by rw [e1]; rfl, rfl⟩, ?_⟩)
    show MemOk _ _ [.row A2 c2 (insL l s).length 9 1 (strsOf (insL l s))] _
    rw [e1, e2]
    exact hm.sel (by (repeat constructor); first | done | fail)
end Go.Proofs.YtbfbjgakmnckbaaGreatDoor
namespace Go.Proofs.YtbfbjgakmnckbaaGreatDoor
open Go Go.RowKit Eng
attribute [local irreducible] Br Rn RnU Cl RdG CpG Ld Rd Lp Dr Oth Cut fin Fits Eng.Enters Md NA
theorem rnames_enters : Eng.Enters Tryz.prog 32 := enters_mk fun _ _ => by kernel_rfl
/-- Has an act of this kind a second image? -/
def twoK (k : Int) : Bool := decide (k = 1) || (decide (k = 19) || (decide (k = 20) || decide (k = 21)))
def namesStep (l : List (List UInt8)) (a : PAct) : List (List UInt8) := if twoK a.kind then insL (insL l (bs a.name)) (bs a.other) else insL l (bs a.name)
/-- The images' names, rising. -/
def namesR (l : List PAct) : List (List UInt8) := l.foldl namesStep []
theorem namesR_take {l : List PAct} {i : Nat} {a : PAct} (h : l[i]? = some a) : namesR (l.take (i + 1)) = namesStep (namesR (l.take i)) a := by
 rw [List.take_add_one, h]; simp [namesR]
theorem insL_len (l : List (List UInt8)) (s : List UInt8) : (insL l s).length ≤ l.length + 1 := by
 unfold insL
 split
 ·omega
 ·split
  ·omega
  ·simp only [List.length_append, List.length_take, List.length_cons, List.length_drop]; omega
theorem namesStep_len (l : List (List UInt8)) (a : PAct) : (namesStep l a).length ≤ l.length + 2 := by
 unfold namesStep
 have h1 := insL_len l (bs a.name)
 have h2 := insL_len (insL l (bs a.name)) (bs a.other)
 split <;> omega
set_option maxRecDepth 100000 in
set_option maxHeartbeats 1000000 in
theorem rnames_any (A : Option Addr) (c : Nat) (L : List LA) (w : World) (hL : ActsIn w A L) (hn : L.length ≤ 65536) :
  Ctr Tryz.prog 32 [.slice A L.length c] [] (fun e m' => ∃ A' c', e = .returned (.slice A' (namesR (L.map LA.a)).length c') ∧ m' = StM A' c' (namesR (L.map LA.a))) w := by
 have hF : ∀ w', Fr (Foot []) w w' → Fr (fun _ => False) w w' := fun w' hf => hf.mono (fun k _ ⟨r, hr, _⟩ => by cases hr)
 refine enter (cx := CXS 36 [] w (Foot [])) [(0, .slice A L.length c)] tab_ok Tryz.func32 rfl rfl rfl rfl (MemOk.nil w _) ?_
 conv => whnf
 (repeat ((first | refine stp (by (repeat constructor); first | done | fail) ?_ | refine stn (by (repeat constructor); first | done | fail) ?_ | refine sto (by (repeat constructor); first | done | fail) (by first | omega | (simp only; omega)) ?_ | refine .mk fun Ap capp => ?_ | refine ⟨?_, trivial⟩ | intro _); conv => whnf))
 refine lp tab_ok (γ := Nat × Option Addr × Nat) (fun g => g.1 ≤ L.length ∧ (namesR ((L.map LA.a).take g.1)).length ≤ 2 * g.1) (fun g => [(4, .int .i64 g.1), (0, .slice A L.length c), (3, .slice g.2.1 (namesR ((L.map LA.a).take g.1)).length g.2.2)]) (fun g => StM g.2.1 g.2.2 (namesR ((L.map LA.a).take g.1))) (fun g => L.length - g.1) (0, none, 0) ⟨by omega, by simp [namesR]⟩ ⟨rfl, rfl, rfl, trivial⟩ (SubM.row0 (SubM.refl _ _) 9 1) ?_
 rintro ⟨i, oA, oc⟩ ⟨hi, hlen⟩
 simp only at hi hlen
 change XC _ _ _ [(4, .int .i64 (i : Int)), (0, .slice A L.length c), (3, .slice oA (namesR ((L.map LA.a).take i)).length oc)] (StM oA oc (namesR ((L.map LA.a).take i)))
 conv => whnf
 refine br_d (fun hlt => ?_) (fun hge => ?_)
 ·have hlt' : i < L.length := by omega
  have hx := List.getElem?_eq_getElem hlt'
  have hpl := hL.plain (by omega)
  generalize L[i] = x at hx
  have hxa : (L.map LA.a)[i]? = some x.a := by rw [List.getElem?_map, hx]; rfl
  have hstep := namesR_take hxa
  have hsl := namesStep_len (namesR ((L.map LA.a).take i)) x.a
  generalize namesR ((L.map LA.a).take i) = l at hlen hstep hsl
  have hi1 := insL_len l (bs x.a.name)
  conv => whnf
  (repeat ((first | refine stp (by (repeat constructor); first | done | fail) ?_ | refine stn (by (repeat constructor); first | done | fail) ?_ | refine sto (by (repeat constructor); first | done | fail) (by first | omega | (simp only; omega)) ?_ | refine .mk fun Ap capp => ?_ | refine ⟨?_, trivial⟩ | intro _); conv => whnf))
  refine And.intro ⟨by omega, by omega, hpl⟩ ?_
  conv => whnf
  refine And.intro (hpl.pl _) ?_
  conv => whnf
  (repeat ((first | refine stp (by (repeat constructor); first | done | fail) ?_ | refine stn (by (repeat constructor); first | done | fail) ?_ | refine sto (by (repeat constructor); first | done | fail) (by first | omega | (simp only; omega)) ?_ | refine .mk fun Ap capp => ?_ | refine ⟨?_, trivial⟩ | intro _); conv => whnf))
  refine rn_load (v := .string x.a.name) (hL.ldF rfl rfl foot_no (j := 1) hx rfl rfl rfl) ?_
  rw [← Str_bs x.a.name]
  conv => whnf
  refine ⟨with_enters, cl_mem (m1 := StM oA oc l) (by (repeat constructor); first | done | fail) (fun w' hm' => with_any oA oc l (bs x.a.name) w' (by omega) hm'.part) ?_⟩
  rintro e m' ⟨oA1, oc1, rfl, rfl⟩
  conv => whnf
  (repeat ((first | refine stp (by (repeat constructor); first | done | fail) ?_ | refine stn (by (repeat constructor); first | done | fail) ?_ | refine sto (by (repeat constructor); first | done | fail) (by first | omega | (simp only; omega)) ?_ | refine .mk fun Ap capp => ?_ | refine ⟨?_, trivial⟩ | intro _); conv => whnf))
  refine And.intro ⟨by omega, by omega, hpl⟩ ?_
  conv => whnf
  refine And.intro (hpl.pl _) ?_
  conv => whnf
  (repeat ((first | refine stp (by (repeat constructor); first | done | fail) ?_ | refine stn (by (repeat constructor); first | done | fail) ?_ | refine sto (by (repeat constructor); first | done | fail) (by first | omega | (simp only; omega)) ?_ | refine .mk fun Ap capp => ?_ | refine ⟨?_, trivial⟩ | intro _); conv => whnf))
  refine rn_load (v := .int .i64 x.a.kind) (hL.ldF rfl rfl foot_no (j := 0) hx rfl rfl rfl) ?_
  conv => whnf
  (repeat ((first | refine stp (by (repeat constructor); first | done | fail) ?_ | refine stn (by (repeat constructor); first | done | fail) ?_ | refine sto (by (repeat constructor); first | done | fail) (by first | omega | (simp only; omega)) ?_ | refine .mk fun Ap capp => ?_ | refine ⟨?_, trivial⟩ | intro _); conv => whnf))
  refine br_d (fun h1 => ?_) (fun h1 => ?_)
  ·conv => whnf
   (repeat ((first | refine stp (by (repeat constructor); first | done | fail) ?_ | refine stn (by (repeat constructor); first | done | fail) ?_ | refine sto (by (repeat constructor); first | done | fail) (by first | omega | (simp only; omega)) ?_ | refine .mk fun Ap capp => ?_ | refine ⟨?_, trivial⟩ | intro _); conv => whnf))
   refine br_t (decide_eq_true h1) ?_
   conv => whnf
   (repeat ((first | refine stp (by (repeat constructor); first | done | fail) ?_ | refine stn (by (repeat constructor); first | done | fail) ?_ | refine sto (by (repeat constructor); first | done | fail) (by first | omega | (simp only; omega)) ?_ | refine .mk fun Ap capp => ?_ | refine ⟨?_, trivial⟩ | intro _); conv => whnf))
   refine And.intro ⟨by omega, by omega, hpl⟩ ?_
   conv => whnf
   refine And.intro (hpl.pl _) ?_
   conv => whnf
   (repeat ((first | refine stp (by (repeat constructor); first | done | fail) ?_ | refine stn (by (repeat constructor); first | done | fail) ?_ | refine sto (by (repeat constructor); first | done | fail) (by first | omega | (simp only; omega)) ?_ | refine .mk fun Ap capp => ?_ | refine ⟨?_, trivial⟩ | intro _); conv => whnf))
   refine rn_load (v := .string x.a.other) (hL.ldF rfl rfl foot_no (j := 2) hx rfl rfl rfl) ?_
   rw [← Str_bs x.a.other]
   conv => whnf
   refine ⟨with_enters, cl_mem (m1 := StM oA1 oc1 (insL l (bs x.a.name))) (by (repeat constructor); first | done | fail) (fun w' hm' => with_any oA1 oc1 (insL l (bs x.a.name)) (bs x.a.other) w' (by omega) hm'.part) ?_⟩
   rintro e m' ⟨oA2, oc2, rfl, rfl⟩
   conv => whnf
   (repeat ((first | refine stp (by (repeat constructor); first | done | fail) ?_ | refine stn (by (repeat constructor); first | done | fail) ?_ | refine sto (by (repeat constructor); first | done | fail) (by first | omega | (simp only; omega)) ?_ | refine .mk fun Ap capp => ?_ | refine ⟨?_, trivial⟩ | intro _); conv => whnf))
   have hst : namesR ((L.map LA.a).take (i + 1)) = insL (insL l (bs x.a.name)) (bs x.a.other) := by rw [hstep, namesStep, if_pos (by simp [twoK, h1])]
   rw [← hst]
   rw [← hstep] at hsl
   exact ⟨(i + 1, oA2, oc2), ⟨by simp only; omega, by simp only; omega⟩, by simp only; omega, ⟨rfl, rfl, rfl, trivial⟩, SubM.sel (by (repeat constructor); first | done | fail)⟩
  ·conv => whnf
   (repeat ((first | refine stp (by (repeat constructor); first | done | fail) ?_ | refine stn (by (repeat constructor); first | done | fail) ?_ | refine sto (by (repeat constructor); first | done | fail) (by first | omega | (simp only; omega)) ?_ | refine .mk fun Ap capp => ?_ | refine ⟨?_, trivial⟩ | intro _); conv => whnf))
   refine br_d (fun h19 => ?_) (fun h19 => ?_)
   ·conv => whnf
    (repeat ((first | refine stp (by (repeat constructor); first | done | fail) ?_ | refine stn (by (repeat constructor); first | done | fail) ?_ | refine sto (by (repeat constructor); first | done | fail) (by first | omega | (simp only; omega)) ?_ | refine .mk fun Ap capp => ?_ | refine ⟨?_, trivial⟩ | intro _); conv => whnf))
    refine br_t (decide_eq_true h19) ?_
    conv => whnf
    (repeat ((first | refine stp (by (repeat constructor); first | done | fail) ?_ | refine stn (by (repeat constructor); first | done | fail) ?_ | refine sto (by (repeat constructor); first | done | fail) (by first | omega | (simp only; omega)) ?_ | refine .mk fun Ap capp => ?_ | refine ⟨?_, trivial⟩ | intro _); conv => whnf))
    refine And.intro ⟨by omega, by omega, hpl⟩ ?_
    conv => whnf
    refine And.intro (hpl.pl _) ?_
    conv => whnf
    (repeat ((first | refine stp (by (repeat constructor); first | done | fail) ?_ | refine stn (by (repeat constructor); first | done | fail) ?_ | refine sto (by (repeat constructor); first | done | fail) (by first | omega | (simp only; omega)) ?_ | refine .mk fun Ap capp => ?_ | refine ⟨?_, trivial⟩ | intro _); conv => whnf))
    refine rn_load (v := .string x.a.other) (hL.ldF rfl rfl foot_no (j := 2) hx rfl rfl rfl) ?_
    rw [← Str_bs x.a.other]
    conv => whnf
    refine ⟨with_enters, cl_mem (m1 := StM oA1 oc1 (insL l (bs x.a.name))) (by (repeat constructor); first | done | fail) (fun w' hm' => with_any oA1 oc1 (insL l (bs x.a.name)) (bs x.a.other) w' (by omega) hm'.part) ?_⟩
    rintro e m' ⟨oA2, oc2, rfl, rfl⟩
    conv => whnf
    (repeat ((first | refine stp (by (repeat constructor); first | done | fail) ?_ | refine stn (by (repeat constructor); first | done | fail) ?_ | refine sto (by (repeat constructor); first | done | fail) (by first | omega | (simp only; omega)) ?_ | refine .mk fun Ap capp => ?_ | refine ⟨?_, trivial⟩ | intro _); conv => whnf))
    have hst : namesR ((L.map LA.a).take (i + 1)) = insL (insL l (bs x.a.name)) (bs x.a.other) := by rw [hstep, namesStep, if_pos (by simp [twoK, h19])]
    rw [← hst]
    rw [← hstep] at hsl
    exact ⟨(i + 1, oA2, oc2), ⟨by simp only; omega, by simp only; omega⟩, by simp only; omega, ⟨rfl, rfl, rfl, trivial⟩, SubM.sel (by (repeat constructor); first | done | fail)⟩
   ·conv => whnf
    (repeat ((first | refine stp (by (repeat constructor); first | done | fail) ?_ | refine stn (by (repeat constructor); first | done | fail) ?_ | refine sto (by (repeat constructor); first | done | fail) (by first | omega | (simp only; omega)) ?_ | refine .mk fun Ap capp => ?_ | refine ⟨?_, trivial⟩ | intro _); conv => whnf))
    refine br_d (fun h20 => ?_) (fun h20 => ?_)
    ·conv => whnf
     (repeat ((first | refine stp (by (repeat constructor); first | done | fail) ?_ | refine stn (by (repeat constructor); first | done | fail) ?_ | refine sto (by (repeat constructor); first | done | fail) (by first | omega | (simp only; omega)) ?_ | refine .mk fun Ap capp => ?_ | refine ⟨?_, trivial⟩ | intro _); conv => whnf))
     refine br_t (decide_eq_true h20) ?_
     conv => whnf
     (repeat ((first | refine stp (by (repeat constructor); first | done | fail) ?_ | refine stn (by (repeat constructor); first | done | fail) ?_ | refine sto (by (repeat constructor); first | done | fail) (by first | omega | (simp only; omega)) ?_ | refine .mk fun Ap capp => ?_ | refine ⟨?_, trivial⟩ | intro _); conv => whnf))
     refine And.intro ⟨by omega, by omega, hpl⟩ ?_
     conv => whnf
     refine And.intro (hpl.pl _) ?_
     conv => whnf
     (repeat ((first | refine stp (by (repeat constructor); first | done | fail) ?_ | refine stn (by (repeat constructor); first | done | fail) ?_ | refine sto (by (repeat constructor); first | done | fail) (by first | omega | (simp only; omega)) ?_ | refine .mk fun Ap capp => ?_ | refine ⟨?_, trivial⟩ | intro _); conv => whnf))
     refine rn_load (v := .string x.a.other) (hL.ldF rfl rfl foot_no (j := 2) hx rfl rfl rfl) ?_
     rw [← Str_bs x.a.other]
     conv => whnf
     refine ⟨with_enters, cl_mem (m1 := StM oA1 oc1 (insL l (bs x.a.name))) (by (repeat constructor); first | done | fail) (fun w' hm' => with_any oA1 oc1 (insL l (bs x.a.name)) (bs x.a.other) w' (by omega) hm'.part) ?_⟩
     rintro e m' ⟨oA2, oc2, rfl, rfl⟩
     conv => whnf
     (repeat ((first | refine stp (by (repeat constructor); first | done | fail) ?_ | refine stn (by (repeat constructor); first | done | fail) ?_ | refine sto (by (repeat constructor); first | done | fail) (by first | omega | (simp only; omega)) ?_ | refine .mk fun Ap capp => ?_ | refine ⟨?_, trivial⟩ | intro _); conv => whnf))
     have hst : namesR ((L.map LA.a).take (i + 1)) = insL (insL l (bs x.a.name)) (bs x.a.other) := by rw [hstep, namesStep, if_pos (by simp [twoK, h20])]
     rw [← hst]
     rw [← hstep] at hsl
     exact ⟨(i + 1, oA2, oc2), ⟨by simp only; omega, by simp only; omega⟩, by simp only; omega, ⟨rfl, rfl, rfl, trivial⟩, SubM.sel (by (repeat constructor); first | done | fail)⟩
    ·conv => whnf
     (repeat ((first | refine stp (by (repeat constructor); first | done | fail) ?_ | refine stn (by (repeat constructor); first | done | fail) ?_ | refine sto (by (repeat constructor); first | done | fail) (by first | omega | (simp only; omega)) ?_ | refine .mk fun Ap capp => ?_ | refine ⟨?_, trivial⟩ | intro _); conv => whnf))
     refine br_d (fun h21 => ?_) (fun h21 => ?_)
     ·conv => whnf
      (repeat ((first | refine stp (by (repeat constructor); first | done | fail) ?_ | refine stn (by (repeat constructor); first | done | fail) ?_ | refine sto (by (repeat constructor); first | done | fail) (by first | omega | (simp only; omega)) ?_ | refine .mk fun Ap capp => ?_ | refine ⟨?_, trivial⟩ | intro _); conv => whnf))
      refine And.intro ⟨by omega, by omega, hpl⟩ ?_
      conv => whnf
      refine And.intro (hpl.pl _) ?_
      conv => whnf
      (repeat ((first | refine stp (by (repeat constructor); first | done | fail) ?_ | refine stn (by (repeat constructor); first | done | fail) ?_ | refine sto (by (repeat constructor); first | done | fail) (by first | omega | (simp only; omega)) ?_ | refine .mk fun Ap capp => ?_ | refine ⟨?_, trivial⟩ | intro _); conv => whnf))
      refine rn_load (v := .string x.a.other) (hL.ldF rfl rfl foot_no (j := 2) hx rfl rfl rfl) ?_
      rw [← Str_bs x.a.other]
      conv => whnf
      refine ⟨with_enters, cl_mem (m1 := StM oA1 oc1 (insL l (bs x.a.name))) (by (repeat constructor); first | done | fail) (fun w' hm' => with_any oA1 oc1 (insL l (bs x.a.name)) (bs x.a.other) w' (by omega) hm'.part) ?_⟩
      rintro e m' ⟨oA2, oc2, rfl, rfl⟩
      conv => whnf
      (repeat ((first | refine stp (by (repeat constructor); first | done | fail) ?_ | refine stn (by (repeat constructor); first | done | fail) ?_ | refine sto (by (repeat constructor); first | done | fail) (by first | omega | (simp only; omega)) ?_ | refine .mk fun Ap capp => ?_ | refine ⟨?_, trivial⟩ | intro _); conv => whnf))
      have hst : namesR ((L.map LA.a).take (i + 1)) = insL (insL l (bs x.a.name)) (bs x.a.other) := by rw [hstep, namesStep, if_pos (by simp [twoK, h21])]
      rw [← hst]
      rw [← hstep] at hsl
      exact ⟨(i + 1, oA2, oc2), ⟨by simp only; omega, by simp only; omega⟩, by simp only; omega, ⟨rfl, rfl, rfl, trivial⟩, SubM.sel (by (repeat constructor); first | done | fail)⟩
     ·conv => whnf
      (repeat ((first | refine stp (by (repeat constructor); first | done | fail) ?_ | refine stn (by (repeat constructor); first | done | fail) ?_ | refine sto (by (repeat constructor); first | done | fail) (by first | omega | (simp only; omega)) ?_ | refine .mk fun Ap capp => ?_ | refine ⟨?_, trivial⟩ | intro _); conv => whnf))
      have hst : namesR ((L.map LA.a).take (i + 1)) = insL l (bs x.a.name) := by rw [hstep, namesStep, if_neg (by simp [twoK, h1, h19, h20, h21])]
      rw [← hst]
      rw [← hstep] at hsl
      exact ⟨(i + 1, oA1, oc1), ⟨by simp only; omega, by simp only; omega⟩, by simp only; omega, ⟨rfl, rfl, rfl, trivial⟩, SubM.sel (by (repeat constructor); first | done | fail)⟩
 ·have hil : i = L.length := by omega
  conv => whnf
  (repeat ((first | refine stp (by (repeat constructor); first | done | fail) ?_ | refine stn (by (repeat constructor); first | done | fail) ?_ | refine sto (by (repeat constructor); first | done | fail) (by first | omega | (simp only; omega)) ?_ | refine .mk fun Ap capp => ?_ | refine ⟨?_, trivial⟩ | intro _); conv => whnf))
  rw [List.take_of_length_le (by simp; omega)]
  exact fin1 rfl rfl (fun w' hm => ⟨_, ⟨oA, oc, rfl, rfl⟩, hm⟩)
end Go.Proofs.YtbfbjgakmnckbaaGreatDoor
