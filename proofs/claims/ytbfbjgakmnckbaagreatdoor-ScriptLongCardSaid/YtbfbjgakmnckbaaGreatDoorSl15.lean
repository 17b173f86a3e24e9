/- The law's own functions: kept. No statement of the seat is proved here. -/
import Derived.Test.YtbfbjgakmnckbaaGreatDoorSl14
namespace Go.Proofs.YtbfbjgakmnckbaaGreatDoor
open Go Go.RowKit Eng
attribute [local irreducible] Br Rn RnU Cl RdG CpG Ld Rd Lp Dr Oth Cut fin Fits Eng.Enters Md NA
theorem IntsIn.take {k : IntKind} {w : World} {p : Option Addr} {xs ys : List Int} (h : IntsIn k w p (xs ++ ys)) : IntsIn k w p xs := by
 intro hn
 obtain ⟨b, o, rfl, hc⟩ := h (by simp; omega)
 refine ⟨b, o, rfl, fun i hi => ?_⟩
 have := hc i (by simp; omega)
 rwa [List.getD, List.getElem?_append_left hi, ← List.getD] at this
theorem kept_enters : Eng.Enters Tryz.prog 14 := enters_mk fun _ _ => by kernel_rfl
set_option maxRecDepth 100000 in
set_option maxHeartbeats 2000000 in
theorem kept_any (a : PAct) (g g' c c' : Nat) (bA pA : Option Addr) (bc pc : Nat) (w : World) (ha : ActIn w a bA pA) (h1 : IntsIn .u8 w (some ⟨g, 0, none⟩) (numsOf a.bytes ++ [165])) (h2 : IntsIn .i64 w (some ⟨g', 0, none⟩) (a.picks ++ [77])) (hc : a.bytes.length + 1 ≤ c) (hc' : a.picks.length + 1 ≤ c') :
  Calls Tryz.prog 14 #[.agg (actL a (some ⟨g, 0, none⟩) c (some ⟨g', 0, none⟩) c').toArray, .agg (actL a bA bc pA pc).toArray] w fun e w' => e = .returned (.bool true) ∧ Fr (fun _ => False) w w' := by
 refine enter (cx := ⟨Tryz.prog, 38, w, fun _ => False, tab, [], [16], [], []⟩) [(0, .agg (actL a (some ⟨g, 0, none⟩) c (some ⟨g', 0, none⟩) c').toArray), (1, .agg (actL a bA bc pA pc).toArray)] tab_ok Tryz.func14 rfl rfl rfl rfl (MemOk.nil w _) ?_
 have hS : ∀ w', Fr (fun _ => False) w w' → ActIn w' a (some ⟨g, 0, none⟩) (some ⟨g', 0, none⟩) ∧ ActIn w' a bA pA := fun w' hf => ⟨(ActIn.stb ⟨ha.ok, IntsIn.take h1, IntsIn.take h2⟩ hf), ha.stb hf⟩
 have i1 := fun m => IntsIn.ints (cx := ⟨Tryz.prog, 38, w, fun _ => False, tab, [], [16], [], []⟩) (m := m) h1 (fun _ h => h)
 have i2 := fun m => IntsIn.ints (cx := ⟨Tryz.prog, 38, w, fun _ => False, tab, [], [16], [], []⟩) (m := m) h2 (fun _ h => h)
 have hs : sameB a a = true := (sameB_iff a a).2 rfl
 have hb1 := ha.ok.bytes
 have hp1 := ha.ok.picks
 have hnl := numsOf_length a.bytes
 have e1 : (numsOf a.bytes ++ [165]).getD a.bytes.length 0 = 165 := by rw [← hnl]; simp [List.getD]
 have e2 : (a.picks ++ [77]).getD a.picks.length 0 = 77 := by simp [List.getD]
 have hplc : ∀ g c s, Pl (cutA (some ⟨g, 0, none⟩) c (Int.toNat 0) s) := fun g c s => by unfold cutA; split <;> exact Pl.mk _ _
 have hcut8 : ∀ g c, cutA (some ⟨g, 0, none⟩) c (Int.toNat 0) ty5.cells = some ⟨g, 0, none⟩ := fun g c => by unfold cutA; split <;> rfl
 have hcutI : ∀ g c, cutA (some ⟨g, 0, none⟩) c (Int.toNat 0) ty3.cells = some ⟨g, 0, none⟩ := fun g c => by unfold cutA; split <;> rfl
 conv => whnf
 intro b2
 conv => whnf
 intro b3
 conv => whnf
 refine dr_quiet tab_ok mixed (by kernel_rfl) rfl ?_; conv => whnf
 (repeat ((first | refine ⟨_, cpg same_enters (fun _ w' hm => rsame_any a a _ _ _ _ _ _ _ _ w' (hS w' hm.fr).1 (hS w' hm.fr).2), ?_⟩ | refine stp (by (repeat constructor); first | done | fail) ?_ | refine stn (by (repeat constructor); first | done | fail) ?_ | refine sto (by (repeat constructor); first | done | fail) (by first | omega | (simp only; omega)) ?_ | refine .mk fun Ap capp => ?_ | refine ⟨?_, trivial⟩ | intro _); conv => whnf))
 refine And.intro (fun _ => fits_i64 (by omega)) ?_
 conv => whnf
 (repeat ((first | refine stp (by (repeat constructor); first | done | fail) ?_ | refine stn (by (repeat constructor); first | done | fail) ?_ | refine sto (by (repeat constructor); first | done | fail) (by first | omega | (simp only; omega)) ?_ | refine .mk fun Ap capp => ?_ | refine ⟨?_, trivial⟩ | intro _); conv => whnf))
 refine And.intro (fun _ => ⟨by omega, by omega, by omega, .inr (Pl.mk _ _)⟩) ?_
 conv => whnf
 (repeat ((first | refine stp (by (repeat constructor); first | done | fail) ?_ | refine stn (by (repeat constructor); first | done | fail) ?_ | refine sto (by (repeat constructor); first | done | fail) (by first | omega | (simp only; omega)) ?_ | refine .mk fun Ap capp => ?_ | refine ⟨?_, trivial⟩ | intro _); conv => whnf))
 refine And.intro (fun _ => ⟨by omega, by show (a.bytes.length : Int) < ((a.bytes.length + 1 : Nat) : Int); omega, hplc _ _ _⟩) ?_
 conv => whnf
 refine ⟨.int .u8 165, ?_, ?_⟩
 ·refine Ld.g ?_
  rw [hcut8, ← e1]
  exact (i1 _).ld tab_ok rfl rfl (j := a.bytes.length) (by simp [hnl])
 conv => whnf
 (repeat ((first | refine stp (by (repeat constructor); first | done | fail) ?_ | refine stn (by (repeat constructor); first | done | fail) ?_ | refine sto (by (repeat constructor); first | done | fail) (by first | omega | (simp only; omega)) ?_ | refine .mk fun Ap capp => ?_ | refine ⟨?_, trivial⟩ | intro _); conv => whnf))
 refine And.intro (fun _ => fits_i64 (by omega)) ?_
 conv => whnf
 (repeat ((first | refine stp (by (repeat constructor); first | done | fail) ?_ | refine stn (by (repeat constructor); first | done | fail) ?_ | refine sto (by (repeat constructor); first | done | fail) (by first | omega | (simp only; omega)) ?_ | refine .mk fun Ap capp => ?_ | refine ⟨?_, trivial⟩ | intro _); conv => whnf))
 refine And.intro (fun _ => ⟨by omega, by omega, by omega, .inr (Pl.mk _ _)⟩) ?_
 conv => whnf
 (repeat ((first | refine stp (by (repeat constructor); first | done | fail) ?_ | refine stn (by (repeat constructor); first | done | fail) ?_ | refine sto (by (repeat constructor); first | done | fail) (by first | omega | (simp only; omega)) ?_ | refine .mk fun Ap capp => ?_ | refine ⟨?_, trivial⟩ | intro _); conv => whnf))
 refine And.intro (fun _ => ⟨by omega, by show (a.picks.length : Int) < ((a.picks.length + 1 : Nat) : Int); omega, hplc _ _ _⟩) ?_
 conv => whnf
 refine ⟨.int .i64 77, ?_, ?_⟩
 ·refine Ld.g ?_
  rw [hcutI, ← e2]
  exact (i2 _).ld tab_ok rfl rfl (j := a.picks.length) (by simp)
 conv => whnf
 (repeat ((first | refine stp (by (repeat constructor); first | done | fail) ?_ | refine stn (by (repeat constructor); first | done | fail) ?_ | refine sto (by (repeat constructor); first | done | fail) (by first | omega | (simp only; omega)) ?_ | refine .mk fun Ap capp => ?_ | refine ⟨?_, trivial⟩ | intro _); conv => whnf))
 refine fin1 rfl rfl (fun w' hm => ⟨?_, hm.fr⟩)
 rw [hs]; rfl
end Go.Proofs.YtbfbjgakmnckbaaGreatDoor
namespace Go.Proofs.YtbfbjgakmnckbaaGreatDoor
open Go Go.RowKit Eng
/-- A contract, and a world in which it has come true. -/
theorem Eng.Ctr.ex {P : Program} {f : Nat} {args : List Value} {m : Mem} {R : Ending → Mem → Prop} {w : World} (h : Ctr P f args m R w) : Ctr P f args m (fun e m' => R e m' ∧ ∃ w', ∀ r ∈ m', r.ok w') w :=
 Calls.mono h fun _ w' ⟨m', hr, hm⟩ => ⟨m', ⟨hr, w', hm.ok⟩, hm⟩
/-- Where the cells of a list of acts lie. -/
def AtIn (w : World) (A : Option Addr) (L : List LA) : Prop := 0 < L.length → ∃ b o, A = some ⟨b, o, none⟩ ∧ ∀ i x, L[i]? = some x → ∀ j v, x.cells[j]? = some v → w.cell? ⟨b, o + (i * 13 + j), none⟩ = some v
/-- An element that lies where the world tells. -/
theorem ld_acts {cx : Cx} (hP : cx.P = Tryz.prog) (hT : cx.tab = tab) {m : Mem} {A : Option Addr} {L : List LA} (h : ∀ w, MemOk cx.w0 cx.S m w → AtIn w A L) {i : Nat} {x : LA} (hi : L[i]? = some x) : Ld cx m 29 (.pointer (pl A (mulC i 13))) x.val := by
 intro w hm
 obtain ⟨b, o, rfl, hc⟩ := h w hm (by have := (List.getElem?_eq_some_iff.1 hi).1; omega)
 refine run_loadN (tab_cx hP hT _ ty29 (by rw [hT]; rfl)) rfl rfl fun j v hj => ?_
 rw [Addr.add_lit, mulC_eq, Nat.add_assoc]
 exact hc i x hi j v hj
attribute [local irreducible] Br Rn RnU Cl RdG CpG Ld Rd Lp Dr Oth Cut fin Fits Eng.Enters Md NA
def longB (a : PAct) : Bool := decide ((20000 : Int) < a.bytes.length) || decide ((500 : Int) < a.picks.length) || decide ((500 : Int) < a.name.size) || decide ((500 : Int) < a.other.size) || decide ((500 : Int) < a.third.size)
theorem long31_enters : Eng.Enters Tryz.prog 8 := enters_mk fun _ _ => by kernel_rfl
theorem g_ixp {a b c d : Int} {p K : Prop} (h : (a ≤ b ∧ c < d ∧ p) ∧ K) : (a ≤ b ∧ c < d ∧ p) ∧ K := h
theorem g_pl {A : Option Addr} {K : Prop} (h : Pl A ∧ K) : Pl A ∧ K := h
theorem g_plg {g : Prop} {A : Option Addr} {K : Prop} (h : (g → Pl A) ∧ K) : (g → Pl A) ∧ K := h
theorem g_cpg {cx : Cx} {g : Prop} {m : Mem} {f : Nat} {args : List Value} {K : Value → Prop} (h : ∃ v, CpG cx g m f args v ∧ K v) : ∃ v, CpG cx g m f args v ∧ K v := h
set_option maxRecDepth 100000 in
set_option maxHeartbeats 2000000 in
theorem long_any (A : Option Addr) (c : Nat) (L : List LA) (w : World) (hL : ActsIn w A L) (hn : L.length ≤ 1048576) :
  Calls Tryz.prog 8 #[.slice A L.length c] w fun e w' => e = .returned (.bool (L.any fun x => longB x.a)) ∧ Fr (fun _ => False) w w' := by
 refine enter (cx := CX 53 [] w) [(0, .slice A L.length c)] tab_ok Tryz.func8 rfl rfl rfl rfl (MemOk.nil w _) ?_
 conv => whnf
 refine lp tab_ok (γ := Nat) (fun i => i ≤ L.length ∧ ∀ x ∈ L.take i, longB x.a = false) (fun i => [(3, .int .i64 (i : Int)), (0, .slice A L.length c)]) (fun _ => []) (fun i => L.length - i) 0 ⟨by omega, fun x h => by simp at h⟩ ⟨rfl, rfl, trivial⟩ (SubM.refl _ _) ?_
 rintro i ⟨hi, ha⟩
 change XC _ _ _ [(3, .int .i64 (i : Int)), (0, .slice A L.length c)] []
 conv => whnf
 refine br_d (fun hlt => ?_) (fun hge => ?_)
 ·have hlt' : i < L.length := by omega
  have hx := List.getElem?_eq_getElem hlt'
  have hpl := hL.plain (by omega)
  generalize L[i] = x at hx
  have k6 := fun m => hL.ldF (cx := CX 53 [] w) rfl rfl (m := m) (fun _ h => h) (j := 6) (t := 23) hx rfl rfl rfl
  have k11 := fun m => hL.ldF (cx := CX 53 [] w) rfl rfl (m := m) (fun _ h => h) (j := 12) (t := 27) hx rfl rfl rfl
  have k1 := fun m => hL.ldF (cx := CX 53 [] w) rfl rfl (m := m) (fun _ h => h) (j := 1) (t := 9) hx rfl rfl rfl
  have k2 := fun m => hL.ldF (cx := CX 53 [] w) rfl rfl (m := m) (fun _ h => h) (j := 2) (t := 9) hx rfl rfl rfl
  have k3 := fun m => hL.ldF (cx := CX 53 [] w) rfl rfl (m := m) (fun _ h => h) (j := 3) (t := 9) hx rfl rfl rfl
  conv => whnf
  (repeat ((first | refine And.intro ⟨by omega, by omega, hpl⟩ ?_ | refine And.intro (hpl.pl _) ?_ | refine rn_load (k6 _) ?_ | refine And.intro (fun _ => ⟨by omega, by omega, hpl⟩) ?_ | refine And.intro (fun _ => hpl.pl _) ?_ | refine ⟨_, Ld.g (k11 _), ?_⟩ | refine ⟨_, Ld.g (k1 _), ?_⟩ | refine ⟨_, Ld.g (k2 _), ?_⟩ | refine ⟨_, Ld.g (k3 _), ?_⟩ | refine stp (by (repeat constructor); first | done | fail) ?_ | refine stn (by (repeat constructor); first | done | fail) ?_ | refine sto (by (repeat constructor); first | done | fail) (by first | omega | (simp only; omega)) ?_ | refine .mk fun Ap capp => ?_ | refine ⟨?_, trivial⟩ | intro _); conv => whnf))
  refine br (fun hl => ?_) (fun hl => ?_)
  ·have hl : longB x.a = true := hl
   conv => whnf
   (repeat ((first | refine stp (by (repeat constructor); first | done | fail) ?_ | refine stn (by (repeat constructor); first | done | fail) ?_ | refine sto (by (repeat constructor); first | done | fail) (by first | omega | (simp only; omega)) ?_ | refine .mk fun Ap capp => ?_ | refine ⟨?_, trivial⟩ | intro _); conv => whnf))
   refine fin1 rfl rfl (fun w' hm => ⟨?_, hm.fr⟩)
   rw [show (L.any fun x => longB x.a) = true from List.any_eq_true.2 ⟨x, List.mem_of_getElem? hx, hl⟩]
  ·have hl : longB x.a = false := hl
   conv => whnf
   (repeat ((first | refine stp (by (repeat constructor); first | done | fail) ?_ | refine stn (by (repeat constructor); first | done | fail) ?_ | refine sto (by (repeat constructor); first | done | fail) (by first | omega | (simp only; omega)) ?_ | refine .mk fun Ap capp => ?_ | refine ⟨?_, trivial⟩ | intro _); conv => whnf))
   refine ⟨i + 1, ⟨by omega, fun y hy => ?_⟩, by omega, ⟨rfl, rfl, trivial⟩, SubM.refl _ _⟩
   rw [List.take_add_one, hx] at hy
   rcases List.mem_append.1 hy with hy | hy
   ·exact ha y hy
   ·simp only [Option.toList_some, List.mem_singleton] at hy
    rw [hy]; exact hl
 ·conv => whnf
  (repeat ((first | refine stp (by (repeat constructor); first | done | fail) ?_ | refine stn (by (repeat constructor); first | done | fail) ?_ | refine sto (by (repeat constructor); first | done | fail) (by first | omega | (simp only; omega)) ?_ | refine .mk fun Ap capp => ?_ | refine ⟨?_, trivial⟩ | intro _); conv => whnf))
  refine fin1 rfl rfl (fun w' hm => ⟨?_, hm.fr⟩)
  rw [List.take_of_length_le (by omega)] at ha
  rw [show (L.any fun x => longB x.a) = false from List.any_eq_false.2 (fun x hx => by simp [ha x hx])]
/-! ## Acts in a row -/
theorem flat13 : ∀ {L : List LA} {i : Nat} {x : LA}, L[i]? = some x → ∀ {j : Nat} {v : Value}, x.cells[j]? = some v → (L.flatMap LA.cells)[i * 13 + j]? = some v
 | [], _, _, h, _, _, _ => by simp at h
 | y :: L, 0, x, h, j, v, hv => by
  simp only [List.getElem?_cons_zero, Option.some.injEq] at h
  subst h
  have hj := (List.getElem?_eq_some_iff.1 hv).1
  rw [List.flatMap_cons, Nat.zero_mul, Nat.zero_add, List.getElem?_append_left hj, hv]
 | y :: L, i + 1, x, h, j, v, hv => by
  have h1 := flat13 (L := L) (i := i) (by simpa using h) hv
  rw [List.flatMap_cons, List.getElem?_append_right (by rw [LA.cells_length]; omega), LA.cells_length, ← h1]
  congr 1
  omega
theorem at_row {w : World} {A : Option Addr} {c : Nat} {L : List LA} (hr : (PH.row ⟨A, c, L⟩).ok w) : AtIn w A L := by
 intro hn
 obtain ⟨b, rfl, _⟩ := row_cell hr (flat13 (List.getElem?_eq_getElem hn) (j := 0) (v := .int .i64 L[0].a.kind) rfl)
 refine ⟨b, 0, rfl, fun i x hx j v hv => ?_⟩
 obtain ⟨b', e, hc⟩ := row_cell hr (flat13 hx hv)
 injection e with e; injection e with e; subst e
 rw [Nat.zero_add]; exact hc
theorem acts_row {w : World} {A : Option Addr} {c : Nat} {L : List LA} (hr : (PH.row ⟨A, c, L⟩).ok w) (ha : ∀ x ∈ L, ActIn w x.a x.bA x.pA) : ActsIn w A L := ⟨at_row hr, ha⟩
/-! ## Copies -/
def coR (y : LA) : Mem := [.row y.bA y.bc (y.a.bytes.length + 1) 5 1 ((numsOf y.a.bytes).map (.int .u8) ++ [.int .u8 165]), .row y.pA y.pc (y.a.picks.length + 1) 3 1 (y.a.picks.map (.int .i64) ++ [.int .i64 77])]
def coM (M : List LA) : Mem := M.flatMap coR
/-- A copy's slices. -/
structure Cop (y : LA) : Prop where
 ok : y.a.Ok
 at_ : ∃ g g', y.bA = some ⟨g, 0, none⟩ ∧ y.pA = some ⟨g', 0, none⟩
 bc : y.a.bytes.length + 1 ≤ y.bc
 pc : y.a.picks.length + 1 ≤ y.pc
theorem Cop.bytes {y : LA} {w : World} {m : Mem} (hs : ∀ r ∈ coR y, r ∈ m) (hm : ∀ r ∈ m, r.ok w) : IntsIn .u8 w y.bA (numsOf y.a.bytes ++ [165]) := by
 refine row_ints (cap := y.bc) (n := y.a.bytes.length + 1) (t := 5) ?_
 rw [List.map_append]
 exact hm _ (hs _ (List.mem_cons_self ..))
theorem Cop.picks {y : LA} {w : World} {m : Mem} (hs : ∀ r ∈ coR y, r ∈ m) (hm : ∀ r ∈ m, r.ok w) : IntsIn .i64 w y.pA (y.a.picks ++ [77]) := by
 refine row_ints (cap := y.pc) (n := y.a.picks.length + 1) (t := 3) ?_
 rw [List.map_append]
 exact hm _ (hs _ (List.mem_cons_of_mem _ (List.mem_cons_self ..)))
theorem Cop.in_ {y : LA} (h : Cop y) {w : World} {m : Mem} (hs : ∀ r ∈ coR y, r ∈ m) (hm : ∀ r ∈ m, r.ok w) : ActIn w y.a y.bA y.pA := ⟨h.ok, IntsIn.take (Cop.bytes hs hm), IntsIn.take (Cop.picks hs hm)⟩
abbrev MM (A : Option Addr) (c : Nat) (M : List LA) : Mem := PH.row ⟨A, c, M⟩ :: coM M
theorem coM_mem {M : List LA} {y : LA} (hy : y ∈ M) : ∀ r ∈ coR y, r ∈ coM M := fun r hr => List.mem_flatMap.2 ⟨y, hy, hr⟩
theorem acts_copies {w : World} {m : Mem} {A : Option Addr} {c : Nat} {M : List LA} (hc : ∀ y ∈ M, Cop y) (hs : ∀ r ∈ MM A c M, r ∈ m) (hm : ∀ r ∈ m, r.ok w) : ActsIn w A M :=
 acts_row (hm _ (hs _ (List.mem_cons_self ..))) fun y hy => (hc y hy).in_ (fun r hr => hs r (List.mem_cons_of_mem _ (coM_mem hy r hr))) hm
theorem Has.of_mem : ∀ {m : Mem} {r : Res}, r ∈ m → Has m r
 | s :: m, r, h => by
  rcases List.mem_cons.1 h with rfl | h
  ·exact .here
  ·exact .there (Has.of_mem h)
theorem kept_la (x y : LA) (w : World) (e : y.a = x.a) (hx : ActIn w x.a x.bA x.pA) (hc : Cop y) (h1 : IntsIn .u8 w y.bA (numsOf y.a.bytes ++ [165])) (h2 : IntsIn .i64 w y.pA (y.a.picks ++ [77])) :
  Calls Tryz.prog 14 #[y.val, x.val] w fun e w' => e = .returned (.bool true) ∧ Fr (fun _ => False) w w' := by
 obtain ⟨hok, ⟨g, g', e1, e2⟩, hb, hp⟩ := hc
 obtain ⟨ya, yA, yc, yP, yd⟩ := y
 obtain ⟨xa, xA, xc, xP, xd⟩ := x
 simp only at e e1 e2 hb hp h1 h2 hx
 subst e e1 e2
 exact kept_any ya g g' yc yd xA xP xc xd w hx h1 h2 hb hp
theorem same_la (x y : LA) (w : World) (e : y.a = x.a) (hx : ActIn w x.a x.bA x.pA) (hy : ActIn w y.a y.bA y.pA) :
  Calls Tryz.prog 16 #[y.val, x.val] w fun e w' => e = .returned (.bool true) ∧ Fr (fun _ => False) w w' := by
 have h := rsame_any y.a x.a y.bA x.bA y.pA x.pA y.bc x.bc y.pc x.pc w hy hx
 rw [e, (sameB_iff x.a x.a).2 rfl] at h
 rw [LA.val, LA.val, LA.cells, LA.cells, e]
 exact h
theorem clR_in {y : LA} (hok : y.a.Ok) {w : World} {m : Mem} (hs : ∀ r ∈ clR y, r ∈ m) (hm : ∀ r ∈ m, r.ok w) : ActIn w y.a y.bA y.pA :=
 ⟨hok, row_ints (cap := y.bc) (n := y.a.bytes.length) (t := 5) (hm _ (hs _ (List.mem_cons_self ..))), row_ints (cap := y.pc) (n := y.a.picks.length) (t := 3) (hm _ (hs _ (List.mem_cons_of_mem _ (List.mem_cons_self ..))))⟩
theorem coM_snoc (l : List LA) (y : LA) : coM (l ++ [y]) = coM l ++ coR y := by simp [coM]
theorem countK_map (k : Int) (L : List LA) : countK k L = (L.map LA.a).countP fun a => decide (a.kind = k) := by
 rw [countK, List.countP_map]; rfl
/-! ## Parts -/
/-- Parts cover a list: behind each but the last stands a crash. -/
def Cov : List (List PAct) → List PAct → Prop
 | [], l => l = []
 | [p], l => l = p ∧ ∀ a ∈ p, a.kind ≠ 25
 | p :: q :: r, l => ∃ x l', l = p ++ x :: l' ∧ x.kind = 25 ∧ (∀ a ∈ p, a.kind ≠ 25) ∧ Cov (q :: r) l'
theorem cov_get : ∀ {p : List PAct} {r : List (List PAct)} {l : List PAct}, Cov (p :: r) l → ∀ {j : Nat} {a : PAct}, p[j]? = some a → l[j]? = some a ∧ a.kind ≠ 25
 | p, [], l, h, j, a, hj => by
  obtain ⟨rfl, h2⟩ := h
  exact ⟨hj, h2 _ (List.mem_of_getElem? hj)⟩
 | p, q :: r, l, h, j, a, hj => by
  obtain ⟨x, l', rfl, _, h2, _⟩ := h
  exact ⟨by rw [List.getElem?_append_left (List.getElem?_eq_some_iff.1 hj).1]; exact hj, h2 _ (List.mem_of_getElem? hj)⟩
theorem cov_next {p q : List PAct} {r : List (List PAct)} {l : List PAct} (h : Cov (p :: q :: r) l) : ∃ x, l[p.length]? = some x ∧ x.kind = 25 ∧ Cov (q :: r) (l.drop (p.length + 1)) := by
 obtain ⟨x, l', rfl, h1, _, h2⟩ := h
 refine ⟨x, by simp, h1, ?_⟩
 rw [show (p ++ x :: l').drop (p.length + 1) = l' from by rw [List.drop_append]; simp]
 exact h2
theorem cov_parts : ∀ (l : List PAct) (ps : List (List PAct)) (q : List PAct), (∀ a ∈ q, a.kind ≠ 25) → ∃ t r, (l.foldl partStep (ps, q)).1 ++ [(l.foldl partStep (ps, q)).2] = ps ++ t :: r ∧ Cov (t :: r) (q ++ l)
 | [], ps, q, hq => ⟨q, [], rfl, by rw [List.append_nil]; exact ⟨rfl, hq⟩⟩
 | x :: l, ps, q, hq => by
  by_cases h : x.kind = 25
  ·obtain ⟨t, r, h1, h2⟩ := cov_parts l (ps ++ [q]) [] (fun a h => by simp at h)
   refine ⟨q, t :: r, ?_, x, l, rfl, h, hq, by simpa using h2⟩
   rw [List.foldl_cons, show partStep (ps, q) x = (ps ++ [q], []) from by rw [partStep, if_pos h], h1]
   simp
  ·obtain ⟨t, r, h1, h2⟩ := cov_parts l ps (q ++ [x]) (fun a ha => by
    rcases List.mem_append.1 ha with ha | ha
    ·exact hq a ha
    ·rw [List.mem_singleton.1 ha]; exact h)
   refine ⟨t, r, ?_, by simpa using h2⟩
   rw [List.foldl_cons, show partStep (ps, q) x = (ps, q ++ [x]) from by rw [partStep, if_neg h], h1]
theorem cov_all (l : List PAct) : ∃ t r, partsAll l = t :: r ∧ Cov (partsAll l) l := by
 obtain ⟨t, r, h1, h2⟩ := cov_parts l [] [] (fun a h => by simp at h)
 have e : partsAll l = t :: r := by simpa [partsAll, partsL] using h1
 exact ⟨t, r, e, by rw [e]; simpa using h2⟩
end Go.Proofs.YtbfbjgakmnckbaaGreatDoor
namespace Go.Proofs.YtbfbjgakmnckbaaGreatDoor
open Go Go.RowKit Eng
attribute [local irreducible] Br Rn RnU Cl RdG CpG Ld Rd Lp Dr Oth Cut fin Fits Eng.Enters Md NA
theorem textL_flT : ∀ k, textL (List.replicate k actA) = flT k
 | 0 => rfl
 | k + 1 => by
  rw [List.replicate_succ, textL, List.flatMap_cons, actA_line, show (List.replicate k actA).flatMap (fun a => lineL a ++ [10]) = flT k from textL_flT k]
  rfl
theorem textR_ok (N : Nat) (hN : N = 65536) : textR (List.replicate N actA) = (flT N, (N : Int), 0) := by
 have h1 : firstBad (List.replicate N actA) = N := by
  rw [firstBad, tw_all mayB _ (fun y hy => by rw [(List.mem_replicate.1 hy).2]; exact actA_may), List.length_replicate]
 have h2 := flT_len N
 rw [textR, List.length_replicate, h1, textL_flT, if_neg (by omega), if_neg (by omega), if_neg (by omega)]
theorem textR_long (N : Nat) (hN : N = 65537) : textR (List.replicate N actA) = ([], 0, 3) := by
 rw [textR, List.length_replicate, if_pos (by omega)]
/-- A write of bytes at nought. -/
def bigA (b : List UInt8) : PAct := { nilAct 5 with name := Str [97], bytes := b }
theorem bigA_ok (b : List UInt8) (h : b.length ≤ 1048576) : (bigA b).Ok :=
 { nilAct_ok (k := 5) (by omega) with name := by show (Str [97]).size ≤ 140737488355328; decide, bytes := by show b.length ≤ _; omega }
theorem bigA_full (b : List UInt8) : fullX (bigA b) = bigA b := by rfl
theorem bigA_may (b : List UInt8) : mayB (bigA b) = decide (b.length ≤ 524288) := by
 have h1 : onlyOk (lettersL (bigA b).kind) (bigA b) = true := by rfl
 have h2 : sameB (fullX (bigA b)) (bigA b) = true := (sameB_iff _ _).2 (bigA_full b)
 have h3 : badB (bigA b) = decide (524288 < b.length) := by
  show ((((((decide (Str (formL 5) = Str [])) || decide ((524288 : Int) < b.length)) || decide ((65536 : Int) < (([] : List Int).length : Int))) || decide ((0 : Int) < 0)) || decide ((2 : Int) < 0)) || (decide ((0 : Int) = 0) && !decide ((0 : Int) = 0))) = _
  rw [show decide (Str (formL 5) = Str []) = false from by decide]
  simp
  omega
 rw [mayB, h1, h2, h3]
 by_cases h : b.length ≤ 524288
 ·rw [decide_eq_true h, decide_eq_false (by omega)]; rfl
 ·rw [decide_eq_false h, decide_eq_true (by omega)]; rfl
theorem bigA_line (b : List UInt8) : lineL (bigA b) = [119, 114, 105, 116, 101, 32, 97, 32, 48, 32] ++ hexF b := by
 have : lineW (bigA b) = [wordL 5, [97], Lib.itoa 0, hexF b] := by rfl
 rw [lineL, this, show Lib.itoa 0 = [48] from itoa_dig 0 (by omega), show wordL 5 = [119, 114, 105, 116, 101] from by decide]
 simp [joinB]
theorem bigA_len (b : List UInt8) (hb : 0 < b.length) : (lineL (bigA b)).length = 2 * b.length + 10 := by
 rw [bigA_line, hexF, if_neg (by rintro rfl; simp at hb), List.length_append, hexs_length]
 simp; omega
theorem textR_big (b : List UInt8) (hb : b.length = 524288) : textR [bigA b] = ([], 0, 3) := by
 have hm : mayB (bigA b) = true := by rw [bigA_may]; exact decide_eq_true (by omega)
 have hl := bigA_len b (by omega)
 have h1 : firstBad [bigA b] = 1 := by simp [firstBad, hm]
 rw [textR, h1, if_neg (by simp), if_neg (by simp), if_pos]
 simp only [textL, List.flatMap_cons, List.flatMap_nil, List.append_nil, List.length_append, hl]
 simp only [List.length_cons, List.length_nil]
 omega
theorem lineE_big (b : List UInt8) (hb : b.length = 524288) : lineE (bigA b) = 3 := by
 have hm : mayB (bigA b) = true := by rw [bigA_may]; exact decide_eq_true (by omega)
 have hl := bigA_len b (by omega)
 rw [lineE, if_pos hm, if_pos (by omega)]
theorem lineS_big (b : List UInt8) (hb : b.length = 524288) : lineS (bigA b) = [] := by
 have hl := bigA_len b (by omega)
 rw [lineS, decide_eq_false (by omega), Bool.and_false]; rfl
theorem numOk0 (w : World) : NumOk w 0 := ⟨by omega, .inr (by omega)⟩
theorem numA0 (w : World) : NumAct w actA := ⟨numOk0 w, numOk0 w, numOk0 w, numOk0 w, numOk0 w, fun p hp => by cases hp⟩
theorem numBig (w : World) (b : List UInt8) : NumAct w (bigA b) := ⟨numOk0 w, numOk0 w, numOk0 w, numOk0 w, numOk0 w, fun p hp => by cases hp⟩
/-- Parts of too many acts. -/
theorem parts_long (A : Option Addr) (c : Nat) (L : List LA) (w : World) (hL : ActsIn w A L) (hn : 65536 < L.length) (hn2 : L.length ≤ 1048576) :
  Calls Tryz.prog 28 #[.slice A L.length c] w fun e w' => e = .returned (.tuple #[.slice none 0 0, .int .i64 3]) ∧ Fr (fun _ => False) w w' := by
 refine enter (cx := CX 47 [] w) [(0, .slice A L.length c)] tab_ok Tryz.func28 rfl rfl rfl rfl (MemOk.nil w _) ?_
 conv => whnf
 (repeat ((first | refine stp (by (repeat constructor); first | done | fail) ?_ | refine stn (by (repeat constructor); first | done | fail) ?_ | refine sto (by (repeat constructor); first | done | fail) (by first | omega | (simp only; omega)) ?_ | refine .mk fun Ap capp => ?_ | refine ⟨?_, trivial⟩ | intro _); conv => whnf))
 refine br_t (decide_eq_true (by omega)) ?_
 conv => whnf
 (repeat ((first | refine stp (by (repeat constructor); first | done | fail) ?_ | refine stn (by (repeat constructor); first | done | fail) ?_ | refine sto (by (repeat constructor); first | done | fail) (by first | omega | (simp only; omega)) ?_ | refine .mk fun Ap capp => ?_ | refine ⟨?_, trivial⟩ | intro _); conv => whnf))
 exact fin2 rfl rfl rfl (fun w' hm => ⟨rfl, hm.fr⟩)
/-! ## A row of acts -/
def nilLA : LA := ⟨nilAct 0, none, 0, none, 0⟩
def aLA : LA := ⟨actA, none, 0, none, 0⟩
theorem aLA_val : aLA.val = .agg (actL actA none 0 none 0).toArray := rfl
theorem made_acts (n : Nat) : (madeCells nilLA.cells.toArray (n * 13)).toList = (List.replicate n nilLA).flatMap LA.cells := by
 apply List.ext_getElem?
 intro q
 by_cases hq : q < n * 13
 ·have h1 : q / 13 < n := by omega
  have h2 : q % 13 < nilLA.cells.length := by rw [LA.cells_length]; omega
  have h3 := flat13 (L := List.replicate n nilLA) (i := q / 13) (x := nilLA) (by rw [List.getElem?_replicate, if_pos h1]) (j := q % 13) (List.getElem?_eq_getElem h2)
  rw [show q / 13 * 13 + q % 13 = q by omega] at h3
  rw [h3]
  simp only [madeCells, Array.getElem?_toList, Array.getElem?_map]
  rw [show (Array.range (n * 13))[q]? = some q from by simp [hq]]
  simp only [Option.map_some, Option.some.injEq]
  have hs : nilLA.cells.toArray.size = 13 := rfl
  rw [hs, getElem!_pos nilLA.cells.toArray (q % 13) (by rw [hs]; omega)]
  rfl
 ·rw [List.getElem?_eq_none (by rw [Array.length_toList, size_madeCells]; omega), List.getElem?_eq_none]
  have : ∀ k, ((List.replicate k nilLA).flatMap LA.cells).length = k * 13 := by
   intro k
   induction k with
   | zero => rfl
   | succ k ih => rw [List.replicate_succ, List.flatMap_cons, List.length_append, ih, LA.cells_length]; omega
  rw [this]; omega
/-- i acts, and n nil ones behind. -/
def mixL (i n : Nat) : List LA := List.replicate i aLA ++ List.replicate n nilLA
theorem flat_len13 : ∀ L : List LA, (L.flatMap LA.cells).length = L.length * 13
 | [] => rfl
 | x :: L => by rw [List.flatMap_cons, List.length_append, flat_len13 L, LA.cells_length, List.length_cons]; omega
theorem mix_set (i n : Nat) : setsL (mulC i 13) aLA.cells ((mixL i (n + 1)).flatMap LA.cells) = (mixL (i + 1) n).flatMap LA.cells := by
 have h0 : ((List.replicate i aLA).flatMap LA.cells).length = i * 13 := by rw [flat_len13, List.length_replicate]
 have h1 : ((mixL i (n + 1)).flatMap LA.cells).length = (i + (n + 1)) * 13 := by rw [flat_len13, mixL, List.length_append, List.length_replicate, List.length_replicate]
 rw [mulC_eq, setsL_take _ _ _ (by rw [h1, LA.cells_length]; omega), LA.cells_length]
 have h2 : (mixL i (n + 1)).flatMap LA.cells = (List.replicate i aLA).flatMap LA.cells ++ (nilLA.cells ++ (List.replicate n nilLA).flatMap LA.cells) := by
  rw [mixL, List.flatMap_append, List.replicate_succ, List.flatMap_cons]
 have h3 : (mixL (i + 1) n).flatMap LA.cells = ((List.replicate i aLA).flatMap LA.cells ++ aLA.cells) ++ (List.replicate n nilLA).flatMap LA.cells := by
  rw [mixL, List.flatMap_append, List.replicate_succ', List.flatMap_append, List.flatMap_cons, List.flatMap_nil, List.append_nil]
 rw [h2, h3, List.take_left' h0, List.drop_append, List.drop_eq_nil_of_le (by omega), List.nil_append, h0, show i * 13 + 13 - i * 13 = 13 by omega, List.drop_left' (show nilLA.cells.length = 13 from rfl)]
/-- make([]api.Act, n). -/
theorem rn_makeA {cx : Cx} (ht : TabOk cx.P cx.tab) {m : Mem} {t e : Nat} {i ti : TyI} {kl kc : IntKind} {c : Int} {K : Value → Mem → Prop} (n : Nat) (hc : c = (n : Int)) (hi : cx.tab.get t = some i) (hk : i.kind = .slice e) (hti : cx.tab.get e = some ti) (hz : ti.zero = nilLA.cells) (h1c : ti.cells = 13)
  (hb : ti.bytes * n ≤ 281474976710656) (h63 : c ≤ 9223372036854775807) (hK : ∀ b, K (.slice (some ⟨b, 0, none⟩) n n) (.row (some ⟨b, 0, none⟩) n n e 13 ((mixL 0 n).flatMap LA.cells) :: m)) :
  Rn cx m (Instr.makeSlice t (.int kl c) (.int kc c)) K := by
 subst hc
 unfold Rn
 intro w hm
 obtain ⟨inf, z', h1, h2, h3, h4, h5⟩ := TyI.zeroOf (ht _ _ hti)
 obtain ⟨w', hr, ho, hg⟩ := run_make_full w w.heap.size t e inf z' 13 (TyI.sliceOf (ht _ _ hi) hk) h1 h2 (h3.trans h1c) kl kc n (by rw [h4]; exact hb) (by simp only [maxLen]; omega) (Nat.le_refl _)
 rw [h5, hz, made_acts] at ho
 exact ⟨_, w', _, hr, hm.fresh (Fr.of_grown_none hg) ho, hK _⟩
/-- make([]byte, n). -/
theorem rn_makeB {cx : Cx} (ht : TabOk cx.P cx.tab) {m : Mem} {t e : Nat} {i ti : TyI} {kl kc : IntKind} {c : Int} {K : Value → Mem → Prop} (B : List UInt8) (hB : B = List.replicate c.toNat 0) (hi : cx.tab.get t = some i) (hk : i.kind = .slice e) (hti : cx.tab.get e = some ti) (hz : ti.zero = [.int .u8 0]) (h1c : ti.cells = 1)
  (h0 : 0 ≤ c) (hb : ti.bytes * c.toNat ≤ 281474976710656) (h63 : c ≤ 9223372036854775807) (hK : ∀ b, K (.slice (some ⟨b, 0, none⟩) B.length B.length) (.row (some ⟨b, 0, none⟩) B.length B.length e 1 ((numsOf B).map (.int .u8)) :: m)) :
  Rn cx m (Instr.makeSlice t (.int kl c) (.int kc c)) K := by
 refine rn_makeN ht hi hk hti hz h1c h0 hb h63 fun b => ?_
 have h := hK b
 have e1 : B.length = c.toNat := by rw [hB, List.length_replicate]
 have e2 : (numsOf B).map (Value.int .u8) = List.replicate c.toNat (.int .u8 0) := by rw [hB]; simp [numsOf]
 rw [e1, e2] at h
 exact h
theorem AtIn.take {w : World} {A : Option Addr} {L : List LA} (h : AtIn w A L) (n : Nat) : AtIn w A (L.take n) := by
 intro hn
 obtain ⟨b, o, e, hc⟩ := h (by rw [List.length_take] at hn; omega)
 refine ⟨b, o, e, fun i x hx j v hv => hc i x ?_ j v hv⟩
 rw [List.getElem?_take] at hx
 split at hx
 ·exact hx
 ·cases hx
theorem at_like {M N : Nat} (hN : N ≤ M) {w : World} {A : Option Addr} {c : Nat} (hr : (Res.row A c M 29 13 ((List.replicate M aLA).flatMap LA.cells)).ok w) : AtIn w A (List.replicate N aLA) := by
 have h1 : AtIn w A (List.replicate M aLA) := at_row (c := c) (by unfold PH.row; simp only [List.length_replicate]; exact hr)
 have h2 := h1.take N
 rw [List.take_replicate, Nat.min_eq_left hN] at h2
 exact h2
theorem acts_like (N : Nat) {w : World} {A : Option Addr} (h : AtIn w A (List.replicate N aLA)) : ActsW w A (List.replicate N aLA) :=
 ⟨⟨h, fun x hx => by rw [(List.mem_replicate.1 hx).2]; exact ⟨actA_ok, BytsIn.nil _ _, IntsIn.nil _ _ _⟩⟩, fun x hx => by rw [(List.mem_replicate.1 hx).2]; exact numA0 w⟩
theorem text_like (N : Nat) (hN : N = 65536) (A : Option Addr) (c : Nat) (w : World) (h : AtIn w A (List.replicate N aLA)) :
  Calls Tryz.prog 27 #[.slice A N c] w fun e w' => e = .returned (.tuple #[.string (Str (flT N)), .int .i64 N, .int .i64 0]) ∧ Fr (fun _ => False) w w' := by
 have h1 := stext_any A c (List.replicate N aLA) w (acts_like N h) (by rw [List.length_replicate]; omega) (fun x hx _ => by rw [(List.mem_replicate.1 hx).2]; show (lineL actA).length ≤ _; rw [actA_line]; decide)
 rw [List.length_replicate, List.map_replicate, show aLA.a = actA from rfl, textR_ok N hN] at h1
 exact h1
theorem text_over (N : Nat) (hN : N = 65537) (A : Option Addr) (c : Nat) (w : World) (h : AtIn w A (List.replicate N aLA)) :
  Calls Tryz.prog 27 #[.slice A N c] w fun e w' => e = .returned (.tuple #[.string (Str []), .int .i64 0, .int .i64 3]) ∧ Fr (fun _ => False) w w' := by
 have h1 := stext_any A c (List.replicate N aLA) w (acts_like N h) (by rw [List.length_replicate]; omega) (fun x hx _ => by rw [(List.mem_replicate.1 hx).2]; show (lineL actA).length ≤ _; rw [actA_line]; decide)
 rw [List.length_replicate, List.map_replicate, show aLA.a = actA from rfl, textR_long N hN] at h1
 exact h1
theorem parts_over (N : Nat) (hN : N = 65537) (A : Option Addr) (c : Nat) (w : World) (h : AtIn w A (List.replicate N aLA)) :
  Calls Tryz.prog 28 #[.slice A N c] w fun e w' => e = .returned (.tuple #[.slice none 0 0, .int .i64 3]) ∧ Fr (fun _ => False) w w' := by
 have h1 := parts_long A c (List.replicate N aLA) w (acts_like N h).acts (by rw [List.length_replicate]; omega) (by rw [List.length_replicate]; omega)
 rw [List.length_replicate] at h1
 exact h1
theorem bigIn {B : List UInt8} (hB : B.length ≤ 1048576) {w : World} {g : Option Addr} (hb : IntsIn .u8 w g (numsOf B)) : ActW w (bigA B) g none :=
 ⟨⟨bigA_ok B hB, hb, IntsIn.nil _ _ _⟩, numBig w B⟩
theorem text_big (B : List UInt8) (hB : B.length = 524288) (g : Option Addr) (gc : Nat) (b c : Nat) (w : World) (hb : IntsIn .u8 w g (numsOf B)) (hr : ∀ j v, (actL (bigA B) g gc none 0)[j]? = some v → w.cell? ⟨b, j, none⟩ = some v) :
  Calls Tryz.prog 27 #[.slice (some ⟨b, 0, none⟩) 1 c] w fun e w' => e = .returned (.tuple #[.string (Str []), .int .i64 0, .int .i64 3]) ∧ Fr (fun _ => False) w w' := by
 have hin := bigIn (by omega) hb
 have hx : ∀ x ∈ [(⟨bigA B, g, gc, none, 0⟩ : LA)], x = ⟨bigA B, g, gc, none, 0⟩ := fun x hx => List.mem_singleton.1 hx
 have hl := bigA_len B (by omega)
 have h1 := stext_any (some ⟨b, 0, none⟩) c [⟨bigA B, g, gc, none, 0⟩] w ⟨⟨fun _ => ⟨b, 0, rfl, fun i x hi j v hv => by
  have hi0 : i = 0 := by
   have := (List.getElem?_eq_some_iff.1 hi).1
   simp at this
   exact this
  subst hi0
  simp only [List.getElem?_cons_zero, Option.some.injEq] at hi
  subst hi
  rw [show 0 + (0 * 13 + j) = j by omega]
  exact hr j v hv⟩, fun x h => by rw [hx x h]; exact hin.act⟩, fun x h => by rw [hx x h]; exact hin.num⟩ (by simp) (fun x h _ => by rw [hx x h]; show (lineL (bigA B)).length ≤ _; omega)
 rw [show [(⟨bigA B, g, gc, none, 0⟩ : LA)].map LA.a = [bigA B] from rfl, textR_big B hB] at h1
 exact h1
theorem line_big (B : List UInt8) (hB : B.length = 524288) (g : Option Addr) (gc : Nat) (w : World) (hb : IntsIn .u8 w g (numsOf B)) :
  Calls Tryz.prog 11 #[.agg (actL (bigA B) g gc none 0).toArray] w fun e w' => e = .returned (.tuple #[.string (Str []), .int .i64 3]) ∧ Fr (fun _ => False) w w' := by
 have h1 := Line_any (bigA B) g none gc 0 w (bigIn (by omega) hb)
 rw [lineS_big B hB, lineE_big B hB] at h1
 exact h1
theorem check_big (B : List UInt8) (hB : B.length ≤ 1048576) (r : Int) (hr : r = if B.length ≤ 524288 then 0 else 2) (g : Option Addr) (gc : Nat) (w : World) (hb : IntsIn .u8 w g (numsOf B)) :
  Calls Tryz.prog 19 #[.agg (actL (bigA B) g gc none 0).toArray] w fun e w' => e = .returned (.int .i64 r) ∧ Fr (fun _ => False) w w' := by
 have h1 := check_any (bigA B) g none gc 0 w (bigIn hB hb)
 rw [bigA_may] at h1
 rw [hr]
 simp only [decide_eq_true_eq] at h1
 exact h1
end Go.Proofs.YtbfbjgakmnckbaaGreatDoor
namespace Go.Proofs.YtbfbjgakmnckbaaGreatDoor
open Go Go.RowKit Eng
attribute [local irreducible] Br Rn RnU Cl RdG CpG Ld Rd Lp Dr Oth Cut fin Fits Eng.Enters Md NA
attribute [local irreducible] flT mixL
set_option maxRecDepth 100000 in
set_option maxHeartbeats 2000000 in
theorem slong_any (w : World) (hw : LW w) : Ctr Tryz.prog 6 [] [] (fun e m' => e = .returned (.bool true) ∧ m' = []) w := by
 obtain ⟨M, hM⟩ : ∃ M : Nat, M = 65537 := ⟨_, rfl⟩
 obtain ⟨N, hN⟩ : ∃ N : Nat, N = 65536 := ⟨_, rfl⟩
 refine enter (cx := ⟨Tryz.prog, 178, w, Foot [], tab, [], [17, 9, 19], [], []⟩) [] tab_ok Tryz.func6 rfl rfl rfl rfl (MemOk.nil w _) ?_
 have hF : ∀ w', Fr (Foot []) w w' → Fr (fun _ => False) w w' := fun w' hf => hf.mono (fun k _ ⟨r, hr, _⟩ => by cases hr)
 have hw' := fun w' hf => hw.fr (hF w' hf)
 have hwk : ∀ w', Fr (Foot []) w w' → Calls Tryz.prog 9 #[] w' fun e w'' => e = .returned (.bool true) ∧ Fr (fun _ => False) w' w'' := fun w' hf =>
  (works_any w' (hw' w' hf)).mono fun e w'' ⟨m', ⟨he, _⟩, hm⟩ => ⟨he, hm.fr.mono (fun k _ ⟨r, hr, _⟩ => by cases hr)⟩
 have hsz1 : (Str (flT 65536)).size + (⟨#[102, 108, 117, 115, 104, 32, 97, 10]⟩ : ByteArray).size ≤ 9223372036854775807 := by rw [Str.size, flT_len]; show 8 * 65536 + 8 ≤ _; omega
 have hstr : Str (flT 65536) ++ (⟨#[102, 108, 117, 115, 104, 32, 97, 10]⟩ : ByteArray) = Str (flT (65536 + 1)) := by
  have h1 : (⟨#[102, 108, 117, 115, 104, 32, 97, 10]⟩ : ByteArray) = Str (flT 1) := by unfold flT flT; rfl
  rw [h1, Str.append, flT_app]
 obtain ⟨B1, hB1⟩ : ∃ B : List UInt8, B = List.replicate (Int.toNat 524288) 0 := ⟨_, rfl⟩
 have hl1 : B1.length = 524288 := by rw [hB1, List.length_replicate]; rfl
 obtain ⟨B2, hB2⟩ : ∃ B : List UInt8, B = List.replicate (Int.toNat 524289) 0 := ⟨_, rfl⟩
 have hl2 : B2.length = 524289 := by rw [hB2, List.length_replicate]; rfl
 have hdec : decide (((Str (flT 65536)).size : Int) = 524288) = true := decide_eq_true (by rw [Str.size, flT_len]; rfl)
 conv => whnf
 refine rn_makeA tab_ok M (by omega) rfl rfl rfl rfl rfl (by show 160 * M ≤ _; omega) (by omega) (fun lB => ?_)
 conv => whnf
 have hcut : ∀ c, cutA (some ⟨lB, 0, none⟩) c (Int.toNat 0) ty29.cells = some ⟨lB, 0, none⟩ := fun c => by unfold cutA; split <;> rfl
 have hat : ∀ {cx : Cx} {m : Mem} {w' : World}, MemOk cx.w0 cx.S m w' → Has m (.row (some ⟨lB, 0, none⟩) M M 29 13 ((List.replicate M aLA).flatMap LA.cells)) → ∀ n, n ≤ M → AtIn w' (some ⟨lB, 0, none⟩) (List.replicate n aLA) :=
  fun hm hh n hn => at_like hn (hm.ok _ hh.mem)
 refine lp tab_ok (γ := Nat) (fun i => i ≤ M) (fun i => [(2, .int .i64 (i : Int)), (1, .slice (some ⟨lB, 0, none⟩) M M)]) (fun i => [.row (some ⟨lB, 0, none⟩) M M 29 13 ((mixL i (M - i)).flatMap LA.cells)]) (fun i => M - i) 0 (by omega) ⟨rfl, rfl, trivial⟩ (SubM.sel (by (repeat constructor); first | done | fail)) ?_
 intro i hi
 change XC _ _ _ [(2, .int .i64 (i : Int)), (1, .slice (some ⟨lB, 0, none⟩) M M)] [.row (some ⟨lB, 0, none⟩) M M 29 13 ((mixL i (M - i)).flatMap LA.cells)]
 conv => whnf
 refine br_d (fun hlt => ?_) (fun hge => ?_)
 ·have hlt' : i < M := by omega
  conv => whnf
  (repeat ((first | refine stp (by (repeat constructor); first | done | fail) ?_ | refine stn (by (repeat constructor); first | done | fail) ?_ | refine sto (by (repeat constructor); first | done | fail) (by first | omega | (simp only; omega)) ?_ | refine .mk fun Ap capp => ?_ | refine ⟨?_, trivial⟩ | intro _); conv => whnf))
  refine And.intro ⟨by omega, by omega, Pl.mk _ _⟩ ?_
  conv => whnf
  obtain ⟨k, hk⟩ : ∃ k, M - i = k + 1 := ⟨M - i - 1, by omega⟩
  refine rn_storeR (off := mulC i 13) (xs' := (mixL (i + 1) k).flatMap LA.cells) tab_ok rfl .here rfl rfl (by show mulC i 13 + 13 ≤ M * 13; rw [mulC_eq]; omega) (by decide) ?_ ?_
  ·rw [hk]; exact mix_set i k
  conv => whnf
  (repeat ((first | refine stp (by (repeat constructor); first | done | fail) ?_ | refine stn (by (repeat constructor); first | done | fail) ?_ | refine sto (by (repeat constructor); first | done | fail) (by first | omega | (simp only; omega)) ?_ | refine .mk fun Ap capp => ?_ | refine ⟨?_, trivial⟩ | intro _); conv => whnf))
  refine ⟨i + 1, by omega, by omega, ⟨rfl, rfl, trivial⟩, ?_⟩
  rw [show M - (i + 1) = k by omega]
  exact SubM.refl _ _
 ·have hiM : i = M := by omega
  rw [hiM, show M - M = 0 by omega, show (mixL M 0).flatMap LA.cells = (List.replicate M aLA).flatMap LA.cells from by unfold mixL; rw [List.replicate_zero, List.append_nil]]
  clear hi hge hiM
  conv => whnf
  (repeat ((first | refine stp (by (repeat constructor); first | done | fail) ?_ | refine stn (by (repeat constructor); first | done | fail) ?_ | refine sto (by (repeat constructor); first | done | fail) (by first | omega | (simp only; omega)) ?_ | refine .mk fun Ap capp => ?_ | refine ⟨?_, trivial⟩ | intro _); conv => whnf))
  refine And.intro ⟨by omega, by omega, by omega, .inr (Pl.mk _ _)⟩ ?_
  conv => whnf
  refine ⟨stext_enters, cl_same (.tuple #[.string (Str (flT 65536)), .int .i64 ((65536 : Nat) : Int), .int .i64 0]) (fun w' hm' => by rw [hcut]; exact text_like 65536 rfl _ _ w' (hat hm' (by (repeat constructor); first | done | fail) 65536 (by omega))) ?_⟩
  conv => whnf
  (repeat ((first | refine stp (by (repeat constructor); first | done | fail) ?_ | refine stn (by (repeat constructor); first | done | fail) ?_ | refine sto (by (repeat constructor); first | done | fail) (by first | omega | (simp only; omega)) ?_ | refine .mk fun Ap capp => ?_ | refine ⟨?_, trivial⟩ | intro _); conv => whnf))
  refine ⟨stext_enters, cl_same _ (fun w' hm' => text_over M hM _ _ w' (hat hm' (by (repeat constructor); first | done | fail) M (Nat.le_refl _))) ?_⟩
  conv => whnf
  (repeat ((first | refine stp (by (repeat constructor); first | done | fail) ?_ | refine stn (by (repeat constructor); first | done | fail) ?_ | refine sto (by (repeat constructor); first | done | fail) (by first | omega | (simp only; omega)) ?_ | refine .mk fun Ap capp => ?_ | refine ⟨?_, trivial⟩ | intro _); conv => whnf))
  refine ⟨parse_enters', cl_mem (m1 := []) .nil (fun w' hm' => parse65_any 65536 rfl w' (hw' w' hm'.fr)) ?_⟩
  rintro e m' ⟨⟨pA, pc, rfl⟩, rfl⟩
  conv => whnf
  (repeat ((first | refine stp (by (repeat constructor); first | done | fail) ?_ | refine stn (by (repeat constructor); first | done | fail) ?_ | refine sto (by (repeat constructor); first | done | fail) (by first | omega | (simp only; omega)) ?_ | refine .mk fun Ap capp => ?_ | refine ⟨?_, trivial⟩ | intro _); conv => whnf))
  refine And.intro hsz1 ?_
  conv => whnf
  refine ⟨parse_enters', cl_same (.tuple #[.slice none 0 0, .int .i64 0, .int .i64 3]) (fun w' _ => by rw [hstr]; exact parseOver_any 65536 (Nat.le_refl _) (by omega) w') ?_⟩
  conv => whnf
  (repeat ((first | refine stp (by (repeat constructor); first | done | fail) ?_ | refine stn (by (repeat constructor); first | done | fail) ?_ | refine sto (by (repeat constructor); first | done | fail) (by first | omega | (simp only; omega)) ?_ | refine .mk fun Ap capp => ?_ | refine ⟨?_, trivial⟩ | intro _); conv => whnf))
  refine rn_makeB tab_ok B1 hB1 rfl rfl rfl rfl rfl (by omega) (by decide) (by omega) (fun g1 => ?_)
  conv => whnf
  intro bB
  conv => whnf
  (repeat ((first | refine stp (by (repeat constructor); first | done | fail) ?_ | refine stn (by (repeat constructor); first | done | fail) ?_ | refine sto (by (repeat constructor); first | done | fail) (by first | omega | (simp only; omega)) ?_ | refine .mk fun Ap capp => ?_ | refine ⟨?_, trivial⟩ | intro _); conv => whnf))
  rename_i sB
  have hbig : ∀ {cx : Cx} {m : Mem} {w' : World}, MemOk cx.w0 cx.S m w' → Has m (.row (some ⟨g1, 0, none⟩) B1.length B1.length 5 1 ((numsOf B1).map (.int .u8))) → IntsIn .u8 w' (some ⟨g1, 0, none⟩) (numsOf B1) := fun hm hh => row_ints (hm.ok _ hh.mem)
  refine ⟨stext_enters, cl_same _ (fun w' hm' => text_big B1 hl1 (some ⟨g1, 0, none⟩) B1.length sB 1 w' (hbig hm' (.there (.there .here))) (fun j v hv => ?_)) ?_⟩
  ·have hb : w'.heap[sB]? = some (.cells (actL (bigA B1) (some ⟨g1, 0, none⟩) B1.length none 0).toArray 29) := hm'.ok _ (List.mem_cons_self ..)
   rw [cell_of_blk hb]
   simpa using hv
  conv => whnf
  (repeat ((first | refine stp (by (repeat constructor); first | done | fail) ?_ | refine stn (by (repeat constructor); first | done | fail) ?_ | refine sto (by (repeat constructor); first | done | fail) (by first | omega | (simp only; omega)) ?_ | refine .mk fun Ap capp => ?_ | refine ⟨?_, trivial⟩ | intro _); conv => whnf))
  refine ⟨Line_enters, cl_same _ (fun w' hm' => line_big B1 hl1 (some ⟨g1, 0, none⟩) B1.length w' (hbig hm' (.there (.there .here)))) ?_⟩
  conv => whnf
  (repeat ((first | refine stp (by (repeat constructor); first | done | fail) ?_ | refine stn (by (repeat constructor); first | done | fail) ?_ | refine sto (by (repeat constructor); first | done | fail) (by first | omega | (simp only; omega)) ?_ | refine .mk fun Ap capp => ?_ | refine ⟨?_, trivial⟩ | intro _); conv => whnf))
  refine ⟨parts_enters, cl_same _ (fun w' hm' => parts_over M hM _ _ w' (hat hm' (by (repeat constructor); first | done | fail) M (Nat.le_refl _))) ?_⟩
  conv => whnf
  (repeat ((first | refine stp (by (repeat constructor); first | done | fail) ?_ | refine stn (by (repeat constructor); first | done | fail) ?_ | refine sto (by (repeat constructor); first | done | fail) (by first | omega | (simp only; omega)) ?_ | refine .mk fun Ap capp => ?_ | refine ⟨?_, trivial⟩ | intro _); conv => whnf))
  refine rn_makeB tab_ok B2 hB2 rfl rfl rfl rfl rfl (by omega) (by decide) (by omega) (fun g2 => ?_)
  conv => whnf
  have hbig2 : ∀ {cx : Cx} {m : Mem} {w' : World}, MemOk cx.w0 cx.S m w' → Has m (.row (some ⟨g2, 0, none⟩) B2.length B2.length 5 1 ((numsOf B2).map (.int .u8))) → IntsIn .u8 w' (some ⟨g2, 0, none⟩) (numsOf B2) := fun hm hh => row_ints (hm.ok _ hh.mem)
  have hc1 : ∀ w', IntsIn .u8 w' (some ⟨g1, 0, none⟩) (numsOf B1) → Calls Tryz.prog 19 #[.agg (actL (bigA B1) (some ⟨g1, 0, none⟩) B1.length none 0).toArray] w' fun e w'' => e = .returned (.int .i64 0) ∧ Fr (fun _ => False) w' w'' := fun w' hb => check_big B1 (by omega) 0 (by rw [if_pos (by omega)]) _ _ w' hb
  have hc2 : ∀ w', IntsIn .u8 w' (some ⟨g2, 0, none⟩) (numsOf B2) → Calls Tryz.prog 19 #[.agg (actL (bigA B2) (some ⟨g2, 0, none⟩) B2.length none 0).toArray] w' fun e w'' => e = .returned (.int .i64 2) ∧ Fr (fun _ => False) w' w'' := fun w' hb => check_big B2 (by omega) 2 (by rw [if_neg (by omega)]) _ _ w' hb
  (repeat ((first | refine g_cpg ⟨_, cpg num_enters (fun _ w' hm => num_any _ w'), ?_⟩ | refine stp (by (repeat constructor); first | done | fail) ?_ | refine stn (by (repeat constructor); first | done | fail) ?_ | refine sto (by (repeat constructor); first | done | fail) (by first | omega | (simp only; omega)) ?_ | refine .mk fun Ap capp => ?_ | refine ⟨?_, trivial⟩ | intro _); conv => whnf))
  refine ⟨_, cpg check_enters (fun _ w' hm => hc1 w' (hbig hm (.there (.there (.there (.there .here)))))), ?_⟩
  conv => whnf
  (repeat ((first | refine g_cpg ⟨_, cpg num_enters (fun _ w' hm => num_any _ w'), ?_⟩ | refine stp (by (repeat constructor); first | done | fail) ?_ | refine stn (by (repeat constructor); first | done | fail) ?_ | refine sto (by (repeat constructor); first | done | fail) (by first | omega | (simp only; omega)) ?_ | refine .mk fun Ap capp => ?_ | refine ⟨?_, trivial⟩ | intro _); conv => whnf))
  refine ⟨_, cpg check_enters (fun _ w' hm => hc2 w' (hbig2 hm .here)), ?_⟩
  conv => whnf
  (repeat ((first | refine g_cpg ⟨_, cpg num_enters (fun _ w' hm => num_any _ w'), ?_⟩ | refine stp (by (repeat constructor); first | done | fail) ?_ | refine stn (by (repeat constructor); first | done | fail) ?_ | refine sto (by (repeat constructor); first | done | fail) (by first | omega | (simp only; omega)) ?_ | refine .mk fun Ap capp => ?_ | refine ⟨?_, trivial⟩ | intro _); conv => whnf))
  refine ⟨_, cpg works_enters (fun _ w' hm => hwk w' hm.fr), ?_⟩
  conv => whnf
  (repeat ((first | refine stp (by (repeat constructor); first | done | fail) ?_ | refine stn (by (repeat constructor); first | done | fail) ?_ | refine sto (by (repeat constructor); first | done | fail) (by first | omega | (simp only; omega)) ?_ | refine .mk fun Ap capp => ?_ | refine ⟨?_, trivial⟩ | intro _); conv => whnf))
  refine fin1 rfl rfl (fun w' hm => ⟨_, ⟨?_, rfl⟩, hm.sel .nil⟩)
  rw [hdec]
  rfl
end Go.Proofs.YtbfbjgakmnckbaaGreatDoor
