/- The law's own functions: kept. No statement of the seat is proved here. -/
import Derived.Test.YtbfbjgakmnckbaaGreatDoorTx1M13
import Derived.Deep.Slices
import Derived.SizedLaws
import Derived.DataShut
import Derived.Test.YtbfbjgakmnckbaaGreatDoorCards
import Derived.Test.YtbfbjgakmnckbaaGreatDoorTie
import Derived.ProofKit
import Derived.OpenShut
import Derived.Deep.DeepHandedRow
import Derived.Lib.LaidTab
import Derived.Stop.LaidErr
import Derived.Lay
import Derived.Shelf.Vars
import Derived.Carry
namespace Go.Proofs.YtbfbjgakmnckbaaGreatDoor
open Go Go.RowKit Eng
attribute [local irreducible] Br Rn RnU Cl RdG CpG Ld Rd Lp Dr Oth Cut fin Fits Eng.Enters Md NA
theorem IntsIn.take {k : IntKind} {w : World} {p : Option Addr} {xs ys : List Int} (h : IntsIn k w p (xs ++ ys)) : IntsIn k w p xs := by
 intro hn
 obtain ⟨b, o, rfl, hc⟩ := h (by simp; omega)
 refine ⟨b, o, rfl, fun i hi => ?_⟩
 have := hc i (by simp; omega)
 rwa [List.getD, List.getElem?_append_left hi, ← List.getD] at this
theorem kept_enters : Eng.Enters Tryz.prog 14 := enters_mk fun _ _ => by kernel_rfl
set_option maxRecDepth 100000 in
set_option maxHeartbeats 2000000 in
theorem kept_any (a : PAct) (g g' c c' : Nat) (bA pA : Option Addr) (bc pc : Nat) (w : World) (ha : ActIn w a bA pA) (h1 : IntsIn .u8 w (some ⟨g, 0, none⟩) (numsOf a.bytes ++ [165])) (h2 : IntsIn .i64 w (some ⟨g', 0, none⟩) (a.picks ++ [77])) (hc : a.bytes.length + 1 ≤ c) (hc' : a.picks.length + 1 ≤ c') :
  Calls Tryz.prog 14 #[.agg (actL a (some ⟨g, 0, none⟩) c (some ⟨g', 0, none⟩) c').toArray, .agg (actL a bA bc pA pc).toArray] w fun e w' => e = .returned (.bool true) ∧ Fr (fun _ => False) w w' := by
 refine enter (cx := ⟨Tryz.prog, 38, w, fun _ => False, tab, [], [16], [], []⟩) [(0, .agg (actL a (some ⟨g, 0, none⟩) c (some ⟨g', 0, none⟩) c').toArray), (1, .agg (actL a bA bc pA pc).toArray)] tab_ok Tryz.func14 rfl rfl rfl rfl (MemOk.nil w _) ?_
 have hS : ∀ w', Fr (fun _ => False) w w' → ActIn w' a (some ⟨g, 0, none⟩) (some ⟨g', 0, none⟩) ∧ ActIn w' a bA pA := fun w' hf => ⟨(ActIn.stb ⟨ha.ok, IntsIn.take h1, IntsIn.take h2⟩ hf), ha.stb hf⟩
 have i1 := fun m => IntsIn.ints (cx := ⟨Tryz.prog, 38, w, fun _ => False, tab, [], [16], [], []⟩) (m := m) h1 (fun _ h => h)
 have i2 := fun m => IntsIn.ints (cx := ⟨Tryz.prog, 38, w, fun _ => False, tab, [], [16], [], []⟩) (m := m) h2 (fun _ h => h)
 have hs : sameB a a = true := (sameB_iff a a).2 rfl
 have hb1 := ha.ok.bytes
 have hp1 := ha.ok.picks
 have hnl := numsOf_length a.bytes
 have e1 : (numsOf a.bytes ++ [165]).getD a.bytes.length 0 = 165 := by rw [← hnl]; simp [List.getD]
 have e2 : (a.picks ++ [77]).getD a.picks.length 0 = 77 := by simp [List.getD]
 have hplc : ∀ g c s, Pl (cutA (some ⟨g, 0, none⟩) c (Int.toNat 0) s) := fun g c s => by unfold cutA; split <;> exact Pl.mk _ _
 have hcut8 : ∀ g c, cutA (some ⟨g, 0, none⟩) c (Int.toNat 0) ty5.cells = some ⟨g, 0, none⟩ := fun g c => by unfold cutA; split <;> rfl
 have hcutI : ∀ g c, cutA (some ⟨g, 0, none⟩) c (Int.toNat 0) ty3.cells = some ⟨g, 0, none⟩ := fun g c => by unfold cutA; split <;> rfl
 conv => whnf
 intro b2
 conv => whnf
 intro b3
 conv => whnf
 refine dr_quiet tab_ok mixed (by kernel_rfl) rfl ?_; conv => whnf
 (repeat ((first | refine ⟨_, cpg same_enters (fun _ w' hm => rsame_any a a _ _ _ _ _ _ _ _ w' (hS w' hm.fr).1 (hS w' hm.fr).2), ?_⟩ | refine stp (by (repeat constructor); first | done | fail) ?_ | refine stn (by (repeat constructor); first | done | fail) ?_ | refine sto (by (repeat constructor); first | done | fail) (by first | omega | (simp only; omega)) ?_ | refine .mk fun Ap capp => ?_ | refine ⟨?_, trivial⟩ | intro _); conv => whnf))
 refine And.intro (fun _ => fits_i64 (by omega)) ?_
 conv => whnf
 (repeat ((first | refine stp (by (repeat constructor); first | done | fail) ?_ | refine stn (by (repeat constructor); first | done | fail) ?_ | refine sto (by (repeat constructor); first | done | fail) (by first | omega | (simp only; omega)) ?_ | refine .mk fun Ap capp => ?_ | refine ⟨?_, trivial⟩ | intro _); conv => whnf))
 refine And.intro (fun _ => ⟨by omega, by omega, by omega, .inr (Pl.mk _ _)⟩) ?_
 conv => whnf
 (repeat ((first | refine stp (by (repeat constructor); first | done | fail) ?_ | refine stn (by (repeat constructor); first | done | fail) ?_ | refine sto (by (repeat constructor); first | done | fail) (by first | omega | (simp only; omega)) ?_ | refine .mk fun Ap capp => ?_ | refine ⟨?_, trivial⟩ | intro _); conv => whnf))
 refine And.intro (fun _ => ⟨by omega, by show (a.bytes.length : Int) < ((a.bytes.length + 1 : Nat) : Int); omega, hplc _ _ _⟩) ?_
 conv => whnf
 refine ⟨.int .u8 165, ?_, ?_⟩
 ·refine Ld.g ?_
  rw [hcut8, ← e1]
  exact (i1 _).ld tab_ok rfl rfl (j := a.bytes.length) (by simp [hnl])
 conv => whnf
 (repeat ((first | refine stp (by (repeat constructor); first | done | fail) ?_ | refine stn (by (repeat constructor); first | done | fail) ?_ | refine sto (by (repeat constructor); first | done | fail) (by first | omega | (simp only; omega)) ?_ | refine .mk fun Ap capp => ?_ | refine ⟨?_, trivial⟩ | intro _); conv => whnf))
 refine And.intro (fun _ => fits_i64 (by omega)) ?_
 conv => whnf
 (repeat ((first | refine stp (by (repeat constructor); first | done | fail) ?_ | refine stn (by (repeat constructor); first | done | fail) ?_ | refine sto (by (repeat constructor); first | done | fail) (by first | omega | (simp only; omega)) ?_ | refine .mk fun Ap capp => ?_ | refine ⟨?_, trivial⟩ | intro _); conv => whnf))
 refine And.intro (fun _ => ⟨by omega, by omega, by omega, .inr (Pl.mk _ _)⟩) ?_
 conv => whnf
 (repeat ((first | refine stp (by (repeat constructor); first | done | fail) ?_ | refine stn (by (repeat constructor); first | done | fail) ?_ | refine sto (by (repeat constructor); first | done | fail) (by first | omega | (simp only; omega)) ?_ | refine .mk fun Ap capp => ?_ | refine ⟨?_, trivial⟩ | intro _); conv => whnf))
 refine And.intro (fun _ => ⟨by omega, by show (a.picks.length : Int) < ((a.picks.length + 1 : Nat) : Int); omega, hplc _ _ _⟩) ?_
 conv => whnf
 refine ⟨.int .i64 77, ?_, ?_⟩
 ·refine Ld.g ?_
  rw [hcutI, ← e2]
  exact (i2 _).ld tab_ok rfl rfl (j := a.picks.length) (by simp)
 conv => whnf
 (repeat ((first | refine stp (by (repeat constructor); first | done | fail) ?_ | refine stn (by (repeat constructor); first | done | fail) ?_ | refine sto (by (repeat constructor); first | done | fail) (by first | omega | (simp only; omega)) ?_ | refine .mk fun Ap capp => ?_ | refine ⟨?_, trivial⟩ | intro _); conv => whnf))
 refine fin1 rfl rfl (fun w' hm => ⟨?_, hm.fr⟩)
 rw [hs]; rfl
end Go.Proofs.YtbfbjgakmnckbaaGreatDoor
namespace Go.Proofs.YtbfbjgakmnckbaaGreatDoor
open Go Go.RowKit Eng
theorem fate_eqF (ox oy : Operand) (a b c d : Int) (w : World) : (eqSem .eql 26 ox oy (.agg #[.int .i64 a, .int .i64 b]) (.agg #[.int .i64 c, .int .i64 d])).run Tryz.prog w = .ok (.bool (decide (a = c) && decide (b = d))) w := fate_eqlS _ _ _ _ _ _ w
theorem eqS_fn (ox : Operand) (sB : Nat) (w : World) : (eqSem .neq 53 ox (.const .nilFunc) (.func (.func 55) #[] #[.pointer (some ⟨sB, 0, none⟩)]) .nilFunc).run Tryz.prog w = .ok (.bool true) w := by kernel_rfl
attribute [local irreducible] Br Rn RnU Cl RdG CpG Ld Rd Lp Dr Oth Cut fin Fits Eng.Enters Md NA
theorem all_enters : Eng.Enters Tryz.prog 24 := enters_mk fun _ _ => by kernel_rfl
theorem works_enters : Eng.Enters Tryz.prog 9 := enters_mk fun _ _ => by kernel_rfl
abbrev AllM (sB : Nat) (l : List UInt8) : Mem := [.blk sB (.cells #[.string (Str l)] 9)]
set_option maxRecDepth 100000 in
/-- All makes a function that holds the text. -/
theorem All_any (l : List UInt8) (w : World) : Ctr Tryz.prog 24 [.string (Str l)] [] (fun e m' => ∃ sB, e = .returned (.func (.func 55) #[] #[.pointer (some ⟨sB, 0, none⟩)]) ∧ m' = AllM sB l) w := by
 refine enter (cx := CXS 4 [] w (Foot [])) [(0, .string (Str l))] tab_ok Tryz.func24 rfl rfl rfl rfl (MemOk.nil w _) ?_
 conv => whnf
 intro sB
 conv => whnf
 (repeat ((first | refine stp (by (repeat constructor); first | done | fail) ?_ | refine stn (by (repeat constructor); first | done | fail) ?_ | refine sto (by (repeat constructor); first | done | fail) (by first | omega | (simp only; omega)) ?_ | refine .mk fun Ap capp => ?_ | refine ⟨?_, trivial⟩ | intro _); conv => whnf))
 exact fin1 rfl rfl (fun w' hm => ⟨_, ⟨sB, rfl, rfl⟩, hm.sel (by (repeat constructor); first | done | fail)⟩)
set_option maxRecDepth 100000 in
set_option maxHeartbeats 2000000 in
theorem works_any (w : World) (hw : LW w) : Ctr Tryz.prog 9 [] [] (fun e m' => e = .returned (.bool true) ∧ m' = []) w := by
 refine enter (cx := ⟨Tryz.prog, 53, w, Foot [], tab, [], [17], [], []⟩) [] tab_ok Tryz.func9 rfl rfl rfl rfl (MemOk.nil w _) ?_
 have hF : ∀ w', Fr (Foot []) w w' → Fr (fun _ => False) w w' := fun w' hf => hf.mono (fun k _ ⟨r, hr, _⟩ => by cases hr)
 have hw' := fun w' hf => hw.fr (hF w' hf)
 conv => whnf
 intro dB
 conv => whnf
 have hby : ∀ {cx : Cx} {m : Mem} {w : World}, MemOk cx.w0 cx.S m w → Has m (.blk dB (.cells #[.int .u8 0, .int .u8 255] 5)) → BytsIn w (some ⟨dB, 0, none⟩) actW1.bytes := by
  intro cx m w hm hh hn
  refine ⟨dB, 0, rfl, fun i hi => ?_⟩
  rw [cell_of_blk (hm.ok _ hh.mem)]
  match i, hi with
  | 0, _ => rfl
  | 1, _ => rfl
 (repeat ((first | refine stp (by (repeat constructor); first | done | fail) ?_ | refine stn (by (repeat constructor); first | done | fail) ?_ | refine sto (by (repeat constructor); first | done | fail) (by first | omega | (simp only; omega)) ?_ | refine .mk fun Ap capp => ?_ | refine ⟨?_, trivial⟩ | intro _); conv => whnf))
 refine ⟨Line_enters, cl_same _ (fun w' hm' => Line_any actW1 (some ⟨dB, 0, none⟩) none 2 0 w' ⟨⟨actW1_ok, hby hm' (by (repeat constructor); first | done | fail), IntsIn.nil _ _ _⟩, numW1 w'⟩) ?_⟩
 rw [show lineS actW1 = [119, 114, 105, 116, 101, 32, 97, 32, 51, 32, 48, 48, 102, 102] from by unfold lineS; rw [actW1_line, actW1_may]; rfl, show lineE actW1 = 0 from by unfold lineE; rw [actW1_line, actW1_may]; rfl]
 conv => whnf
 (repeat ((first | refine stp (by (repeat constructor); first | done | fail) ?_ | refine stn (by (repeat constructor); first | done | fail) ?_ | refine sto (by (repeat constructor); first | done | fail) (by first | omega | (simp only; omega)) ?_ | refine .mk fun Ap capp => ?_ | refine ⟨?_, trivial⟩ | intro _); conv => whnf))
 refine ⟨Read_enters, cl_mem (m1 := []) .nil (fun w' hm' => Read_any lineF2 w' (hw' w' hm'.fr) (wordsF2 w') (.inr okF2) (by decide)) ?_⟩
 rintro e m' ⟨bA, pA, bc, pc, rfl, rfl⟩
 rw [show readA lineF2 = actF2 from by rw [readA, if_neg (by decide), readF2]; rfl, show readE lineF2 = 0 from by rw [readE, if_neg (by decide), readF2]; rfl]
 conv => whnf
 (repeat ((first | refine stp (by (repeat constructor); first | done | fail) ?_ | refine stn (by (repeat constructor); first | done | fail) ?_ | refine sto (by (repeat constructor); first | done | fail) (by first | omega | (simp only; omega)) ?_ | refine .mk fun Ap capp => ?_ | refine ⟨?_, trivial⟩ | intro _); conv => whnf))
 refine ⟨Read_enters, cl_mem (m1 := []) .nil (fun w' hm' => Read_any lineR7 w' (hw' w' hm'.fr) (wordsR7 w') (.inr okR7) (by decide)) ?_⟩
 rintro e m' ⟨bA', pA', bc', pc', rfl, rfl⟩
 rw [show readA lineR7 = nilAct 0 from by rw [readA, if_neg (by decide), readR7]; rfl, show readE lineR7 = 410 from by rw [readE, if_neg (by decide), readR7]; rfl]
 conv => whnf
 (repeat ((first | refine stp (by (repeat constructor); first | done | fail) ?_ | refine stn (by (repeat constructor); first | done | fail) ?_ | refine sto (by (repeat constructor); first | done | fail) (by first | omega | (simp only; omega)) ?_ | refine .mk fun Ap capp => ?_ | refine ⟨?_, trivial⟩ | intro _); conv => whnf))
 (repeat ((first | refine ⟨_, cpg num_enters (fun _ w' hm => (num_any _ w').mono (fun e w'' h => ⟨h.1, h.2⟩)), ?_⟩ | refine ⟨num_enters, cl_same _ (fun w' _ => num_any _ w') ?_⟩ | refine ⟨_, Rd.g (rd_all fun w => fate_eqlS _ _ _ _ _ _ w), ?_⟩ | refine stp (by (repeat constructor); first | done | fail) ?_ | refine stn (by (repeat constructor); first | done | fail) ?_ | refine sto (by (repeat constructor); first | done | fail) (by first | omega | (simp only; omega)) ?_ | refine .mk fun Ap capp => ?_ | refine ⟨?_, trivial⟩ | intro _); conv => whnf))
 refine br_t (by decide) ?_
 conv => whnf
 (repeat ((first | refine ⟨_, cpg num_enters (fun _ w' hm => num_any _ w'), ?_⟩ | refine ⟨num_enters, cl_same _ (fun w' _ => num_any _ w') ?_⟩ | refine ⟨_, Rd.g (rd_all fun w => fate_eqlS _ _ _ _ _ _ w), ?_⟩ | refine br_t (by decide) ?_ | refine stp (by (repeat constructor); first | done | fail) ?_ | refine stn (by (repeat constructor); first | done | fail) ?_ | refine sto (by (repeat constructor); first | done | fail) (by first | omega | (simp only; omega)) ?_ | refine .mk fun Ap capp => ?_ | refine ⟨?_, trivial⟩ | intro _); conv => whnf))
 refine Rd.n (rd_all fun w => fate_eqlS _ _ 2 2 2 2 w) ?_
 conv => whnf
 (repeat ((first | refine ⟨_, cpg num_enters (fun _ w' hm => num_any _ w'), ?_⟩ | refine ⟨num_enters, cl_same _ (fun w' _ => num_any _ w') ?_⟩ | refine br_t (by decide) ?_ | refine stp (by (repeat constructor); first | done | fail) ?_ | refine stn (by (repeat constructor); first | done | fail) ?_ | refine sto (by (repeat constructor); first | done | fail) (by first | omega | (simp only; omega)) ?_ | refine .mk fun Ap capp => ?_ | refine ⟨?_, trivial⟩ | intro _); conv => whnf))
 refine ⟨all_enters, cl_mem (m1 := []) .nil (fun w' _ => All_any [] w') ?_⟩
 rintro e m' ⟨sB, rfl, rfl⟩
 conv => whnf
 (repeat ((first | refine stp (by (repeat constructor); first | done | fail) ?_ | refine stn (by (repeat constructor); first | done | fail) ?_ | refine sto (by (repeat constructor); first | done | fail) (by first | omega | (simp only; omega)) ?_ | refine .mk fun Ap capp => ?_ | refine ⟨?_, trivial⟩ | intro _); conv => whnf))
 refine Rd.n (rd_all fun w => eqS_fn _ sB w) ?_
 conv => whnf
 (repeat ((first | refine stp (by (repeat constructor); first | done | fail) ?_ | refine stn (by (repeat constructor); first | done | fail) ?_ | refine sto (by (repeat constructor); first | done | fail) (by first | omega | (simp only; omega)) ?_ | refine .mk fun Ap capp => ?_ | refine ⟨?_, trivial⟩ | intro _); conv => whnf))
 refine fin1 rfl rfl (fun w' hm => ⟨_, ⟨?_, rfl⟩, hm.sel .nil⟩)
 rfl
end Go.Proofs.YtbfbjgakmnckbaaGreatDoor
namespace Go.Proofs.YtbfbjgakmnckbaaGreatDoor
open Go Go.RowKit Eng
/-- A contract, and a world in which it has come true. -/
theorem Eng.Ctr.ex {P : Program} {f : Nat} {args : List Value} {m : Mem} {R : Ending → Mem → Prop} {w : World} (h : Ctr P f args m R w) : Ctr P f args m (fun e m' => R e m' ∧ ∃ w', ∀ r ∈ m', r.ok w') w :=
 Calls.mono h fun _ w' ⟨m', hr, hm⟩ => ⟨m', ⟨hr, w', hm.ok⟩, hm⟩
/-- Where the cells of a list of acts lie. -/
def AtIn (w : World) (A : Option Addr) (L : List LA) : Prop := 0 < L.length → ∃ b o, A = some ⟨b, o, none⟩ ∧ ∀ i x, L[i]? = some x → ∀ j v, x.cells[j]? = some v → w.cell? ⟨b, o + (i * 13 + j), none⟩ = some v
/-- An element that lies where the world tells. -/
theorem ld_acts {cx : Cx} (hP : cx.P = Tryz.prog) (hT : cx.tab = tab) {m : Mem} {A : Option Addr} {L : List LA} (h : ∀ w, MemOk cx.w0 cx.S m w → AtIn w A L) {i : Nat} {x : LA} (hi : L[i]? = some x) : Ld cx m 29 (.pointer (pl A (mulC i 13))) x.val := by
 intro w hm
 obtain ⟨b, o, rfl, hc⟩ := h w hm (by have := (List.getElem?_eq_some_iff.1 hi).1; omega)
 refine run_loadN (tab_cx hP hT _ ty29 (by rw [hT]; rfl)) rfl rfl fun j v hj => ?_
 rw [Addr.add_lit, mulC_eq, Nat.add_assoc]
 exact hc i x hi j v hj
attribute [local irreducible] Br Rn RnU Cl RdG CpG Ld Rd Lp Dr Oth Cut fin Fits Eng.Enters Md NA
def longB (a : PAct) : Bool := decide ((20000 : Int) < a.bytes.length) || decide ((500 : Int) < a.picks.length) || decide ((500 : Int) < a.name.size) || decide ((500 : Int) < a.other.size) || decide ((500 : Int) < a.third.size)
theorem long31_enters : Eng.Enters Tryz.prog 8 := enters_mk fun _ _ => by kernel_rfl
theorem g_ixp {a b c d : Int} {p K : Prop} (h : (a ≤ b ∧ c < d ∧ p) ∧ K) : (a ≤ b ∧ c < d ∧ p) ∧ K := h
theorem g_pl {A : Option Addr} {K : Prop} (h : Pl A ∧ K) : Pl A ∧ K := h
theorem g_plg {g : Prop} {A : Option Addr} {K : Prop} (h : (g → Pl A) ∧ K) : (g → Pl A) ∧ K := h
theorem g_cpg {cx : Cx} {g : Prop} {m : Mem} {f : Nat} {args : List Value} {K : Value → Prop} (h : ∃ v, CpG cx g m f args v ∧ K v) : ∃ v, CpG cx g m f args v ∧ K v := h
set_option maxRecDepth 100000 in
set_option maxHeartbeats 2000000 in
theorem long_any (A : Option Addr) (c : Nat) (L : List LA) (w : World) (hL : ActsIn w A L) (hn : L.length ≤ 1048576) :
  Calls Tryz.prog 8 #[.slice A L.length c] w fun e w' => e = .returned (.bool (L.any fun x => longB x.a)) ∧ Fr (fun _ => False) w w' := by
 refine enter (cx := CX 53 [] w) [(0, .slice A L.length c)] tab_ok Tryz.func8 rfl rfl rfl rfl (MemOk.nil w _) ?_
 conv => whnf
 refine lp tab_ok (γ := Nat) (fun i => i ≤ L.length ∧ ∀ x ∈ L.take i, longB x.a = false) (fun i => [(3, .int .i64 (i : Int)), (0, .slice A L.length c)]) (fun _ => []) (fun i => L.length - i) 0 ⟨by omega, fun x h => by simp at h⟩ ⟨rfl, rfl, trivial⟩ (SubM.refl _ _) ?_
 rintro i ⟨hi, ha⟩
 change XC _ _ _ [(3, .int .i64 (i : Int)), (0, .slice A L.length c)] []
 conv => whnf
 refine br_d (fun hlt => ?_) (fun hge => ?_)
 ·have hlt' : i < L.length := by omega
  have hx := List.getElem?_eq_getElem hlt'
  have hpl := hL.plain (by omega)
  generalize L[i] = x at hx
  have k6 := fun m => hL.ldF (cx := CX 53 [] w) rfl rfl (m := m) (fun _ h => h) (j := 6) (t := 23) hx rfl rfl rfl
  have k11 := fun m => hL.ldF (cx := CX 53 [] w) rfl rfl (m := m) (fun _ h => h) (j := 12) (t := 27) hx rfl rfl rfl
  have k1 := fun m => hL.ldF (cx := CX 53 [] w) rfl rfl (m := m) (fun _ h => h) (j := 1) (t := 9) hx rfl rfl rfl
  have k2 := fun m => hL.ldF (cx := CX 53 [] w) rfl rfl (m := m) (fun _ h => h) (j := 2) (t := 9) hx rfl rfl rfl
  have k3 := fun m => hL.ldF (cx := CX 53 [] w) rfl rfl (m := m) (fun _ h => h) (j := 3) (t := 9) hx rfl rfl rfl
  conv => whnf
  (repeat ((first | refine And.intro ⟨by omega, by omega, hpl⟩ ?_ | refine And.intro (hpl.pl _) ?_ | refine rn_load (k6 _) ?_ | refine And.intro (fun _ => ⟨by omega, by omega, hpl⟩) ?_ | refine And.intro (fun _ => hpl.pl _) ?_ | refine ⟨_, Ld.g (k11 _), ?_⟩ | refine ⟨_, Ld.g (k1 _), ?_⟩ | refine ⟨_, Ld.g (k2 _), ?_⟩ | refine ⟨_, Ld.g (k3 _), ?_⟩ | refine stp (by (repeat constructor); first | done | fail) ?_ | refine stn (by (repeat constructor); first | done | fail) ?_ | refine sto (by (repeat constructor); first | done | fail) (by first | omega | (simp only; omega)) ?_ | refine .mk fun Ap capp => ?_ | refine ⟨?_, trivial⟩ | intro _); conv => whnf))
  refine br (fun hl => ?_) (fun hl => ?_)
  ·have hl : longB x.a = true := hl
   conv => whnf
   (repeat ((first | refine stp (by (repeat constructor); first | done | fail) ?_ | refine stn (by (repeat constructor); first | done | fail) ?_ | refine sto (by (repeat constructor); first | done | fail) (by first | omega | (simp only; omega)) ?_ | refine .mk fun Ap capp => ?_ | refine ⟨?_, trivial⟩ | intro _); conv => whnf))
   refine fin1 rfl rfl (fun w' hm => ⟨?_, hm.fr⟩)
   rw [show (L.any fun x => longB x.a) = true from List.any_eq_true.2 ⟨x, List.mem_of_getElem? hx, hl⟩]
  ·have hl : longB x.a = false := hl
   conv => whnf
   (repeat ((first | refine stp (by (repeat constructor); first | done | fail) ?_ | refine stn (by (repeat constructor); first | done | fail) ?_ | refine sto (by (repeat constructor); first | done | fail) (by first | omega | (simp only; omega)) ?_ | refine .mk fun Ap capp => ?_ | refine ⟨?_, trivial⟩ | intro _); conv => whnf))
   refine ⟨i + 1, ⟨by omega, fun y hy => ?_⟩, by omega, ⟨rfl, rfl, trivial⟩, SubM.refl _ _⟩
   rw [List.take_add_one, hx] at hy
   rcases List.mem_append.1 hy with hy | hy
   ·exact ha y hy
   ·simp only [Option.toList_some, List.mem_singleton] at hy
    rw [hy]; exact hl
 ·conv => whnf
  (repeat ((first | refine stp (by (repeat constructor); first | done | fail) ?_ | refine stn (by (repeat constructor); first | done | fail) ?_ | refine sto (by (repeat constructor); first | done | fail) (by first | omega | (simp only; omega)) ?_ | refine .mk fun Ap capp => ?_ | refine ⟨?_, trivial⟩ | intro _); conv => whnf))
  refine fin1 rfl rfl (fun w' hm => ⟨?_, hm.fr⟩)
  rw [List.take_of_length_le (by omega)] at ha
  rw [show (L.any fun x => longB x.a) = false from List.any_eq_false.2 (fun x hx => by simp [ha x hx])]
/-! ## Acts in a row -/
theorem flat13 : ∀ {L : List LA} {i : Nat} {x : LA}, L[i]? = some x → ∀ {j : Nat} {v : Value}, x.cells[j]? = some v → (L.flatMap LA.cells)[i * 13 + j]? = some v
 | [], _, _, h, _, _, _ => by simp at h
 | y :: L, 0, x, h, j, v, hv => by
  simp only [List.getElem?_cons_zero, Option.some.injEq] at h
  subst h
  have hj := (List.getElem?_eq_some_iff.1 hv).1
  rw [List.flatMap_cons, Nat.zero_mul, Nat.zero_add, List.getElem?_append_left hj, hv]
 | y :: L, i + 1, x, h, j, v, hv => by
  have h1 := flat13 (L := L) (i := i) (by simpa using h) hv
  rw [List.flatMap_cons, List.getElem?_append_right (by rw [LA.cells_length]; omega), LA.cells_length, ← h1]
  congr 1
  omega
theorem at_row {w : World} {A : Option Addr} {c : Nat} {L : List LA} (hr : (PH.row ⟨A, c, L⟩).ok w) : AtIn w A L := by
 intro hn
 obtain ⟨b, rfl, _⟩ := row_cell hr (flat13 (List.getElem?_eq_getElem hn) (j := 0) (v := .int .i64 L[0].a.kind) rfl)
 refine ⟨b, 0, rfl, fun i x hx j v hv => ?_⟩
 obtain ⟨b', e, hc⟩ := row_cell hr (flat13 hx hv)
 injection e with e; injection e with e; subst e
 rw [Nat.zero_add]; exact hc
theorem acts_row {w : World} {A : Option Addr} {c : Nat} {L : List LA} (hr : (PH.row ⟨A, c, L⟩).ok w) (ha : ∀ x ∈ L, ActIn w x.a x.bA x.pA) : ActsIn w A L := ⟨at_row hr, ha⟩
/-! ## Copies -/
def coR (y : LA) : Mem := [.row y.bA y.bc (y.a.bytes.length + 1) 5 1 ((numsOf y.a.bytes).map (.int .u8) ++ [.int .u8 165]), .row y.pA y.pc (y.a.picks.length + 1) 3 1 (y.a.picks.map (.int .i64) ++ [.int .i64 77])]
def coM (M : List LA) : Mem := M.flatMap coR
/-- A copy's slices. -/
structure Cop (y : LA) : Prop where
 ok : y.a.Ok
 at_ : ∃ g g', y.bA = some ⟨g, 0, none⟩ ∧ y.pA = some ⟨g', 0, none⟩
 bc : y.a.bytes.length + 1 ≤ y.bc
 pc : y.a.picks.length + 1 ≤ y.pc
theorem Cop.bytes {y : LA} {w : World} {m : Mem} (hs : ∀ r ∈ coR y, r ∈ m) (hm : ∀ r ∈ m, r.ok w) : IntsIn .u8 w y.bA (numsOf y.a.bytes ++ [165]) := by
 refine row_ints (cap := y.bc) (n := y.a.bytes.length + 1) (t := 5) ?_
 rw [List.map_append]
 exact hm _ (hs _ (List.mem_cons_self ..))
theorem Cop.picks {y : LA} {w : World} {m : Mem} (hs : ∀ r ∈ coR y, r ∈ m) (hm : ∀ r ∈ m, r.ok w) : IntsIn .i64 w y.pA (y.a.picks ++ [77]) := by
 refine row_ints (cap := y.pc) (n := y.a.picks.length + 1) (t := 3) ?_
 rw [List.map_append]
 exact hm _ (hs _ (List.mem_cons_of_mem _ (List.mem_cons_self ..)))
theorem Cop.in_ {y : LA} (h : Cop y) {w : World} {m : Mem} (hs : ∀ r ∈ coR y, r ∈ m) (hm : ∀ r ∈ m, r.ok w) : ActIn w y.a y.bA y.pA := ⟨h.ok, IntsIn.take (Cop.bytes hs hm), IntsIn.take (Cop.picks hs hm)⟩
abbrev MM (A : Option Addr) (c : Nat) (M : List LA) : Mem := PH.row ⟨A, c, M⟩ :: coM M
theorem coM_mem {M : List LA} {y : LA} (hy : y ∈ M) : ∀ r ∈ coR y, r ∈ coM M := fun r hr => List.mem_flatMap.2 ⟨y, hy, hr⟩
theorem acts_copies {w : World} {m : Mem} {A : Option Addr} {c : Nat} {M : List LA} (hc : ∀ y ∈ M, Cop y) (hs : ∀ r ∈ MM A c M, r ∈ m) (hm : ∀ r ∈ m, r.ok w) : ActsIn w A M :=
 acts_row (hm _ (hs _ (List.mem_cons_self ..))) fun y hy => (hc y hy).in_ (fun r hr => hs r (List.mem_cons_of_mem _ (coM_mem hy r hr))) hm
theorem Has.of_mem : ∀ {m : Mem} {r : Res}, r ∈ m → Has m r
 | s :: m, r, h => by
  rcases List.mem_cons.1 h with rfl | h
  ·exact .here
  ·exact .there (Has.of_mem h)
theorem kept_la (x y : LA) (w : World) (e : y.a = x.a) (hx : ActIn w x.a x.bA x.pA) (hc : Cop y) (h1 : IntsIn .u8 w y.bA (numsOf y.a.bytes ++ [165])) (h2 : IntsIn .i64 w y.pA (y.a.picks ++ [77])) :
  Calls Tryz.prog 14 #[y.val, x.val] w fun e w' => e = .returned (.bool true) ∧ Fr (fun _ => False) w w' := by
 obtain ⟨hok, ⟨g, g', e1, e2⟩, hb, hp⟩ := hc
 obtain ⟨ya, yA, yc, yP, yd⟩ := y
 obtain ⟨xa, xA, xc, xP, xd⟩ := x
 simp only at e e1 e2 hb hp h1 h2 hx
 subst e e1 e2
 exact kept_any ya g g' yc yd xA xP xc xd w hx h1 h2 hb hp
theorem same_la (x y : LA) (w : World) (e : y.a = x.a) (hx : ActIn w x.a x.bA x.pA) (hy : ActIn w y.a y.bA y.pA) :
  Calls Tryz.prog 16 #[y.val, x.val] w fun e w' => e = .returned (.bool true) ∧ Fr (fun _ => False) w w' := by
 have h := rsame_any y.a x.a y.bA x.bA y.pA x.pA y.bc x.bc y.pc x.pc w hy hx
 rw [e, (sameB_iff x.a x.a).2 rfl] at h
 rw [LA.val, LA.val, LA.cells, LA.cells, e]
 exact h
theorem clR_in {y : LA} (hok : y.a.Ok) {w : World} {m : Mem} (hs : ∀ r ∈ clR y, r ∈ m) (hm : ∀ r ∈ m, r.ok w) : ActIn w y.a y.bA y.pA :=
 ⟨hok, row_ints (cap := y.bc) (n := y.a.bytes.length) (t := 5) (hm _ (hs _ (List.mem_cons_self ..))), row_ints (cap := y.pc) (n := y.a.picks.length) (t := 3) (hm _ (hs _ (List.mem_cons_of_mem _ (List.mem_cons_self ..))))⟩
theorem coM_snoc (l : List LA) (y : LA) : coM (l ++ [y]) = coM l ++ coR y := by simp [coM]
theorem countK_map (k : Int) (L : List LA) : countK k L = (L.map LA.a).countP fun a => decide (a.kind = k) := by
 rw [countK, List.countP_map]; rfl
/-! ## Parts -/
/-- Parts cover a list: behind each but the last stands a crash. -/
def Cov : List (List PAct) → List PAct → Prop
 | [], l => l = []
 | [p], l => l = p ∧ ∀ a ∈ p, a.kind ≠ 25
 | p :: q :: r, l => ∃ x l', l = p ++ x :: l' ∧ x.kind = 25 ∧ (∀ a ∈ p, a.kind ≠ 25) ∧ Cov (q :: r) l'
theorem cov_get : ∀ {p : List PAct} {r : List (List PAct)} {l : List PAct}, Cov (p :: r) l → ∀ {j : Nat} {a : PAct}, p[j]? = some a → l[j]? = some a ∧ a.kind ≠ 25
 | p, [], l, h, j, a, hj => by
  obtain ⟨rfl, h2⟩ := h
  exact ⟨hj, h2 _ (List.mem_of_getElem? hj)⟩
 | p, q :: r, l, h, j, a, hj => by
  obtain ⟨x, l', rfl, _, h2, _⟩ := h
  exact ⟨by rw [List.getElem?_append_left (List.getElem?_eq_some_iff.1 hj).1]; exact hj, h2 _ (List.mem_of_getElem? hj)⟩
theorem cov_next {p q : List PAct} {r : List (List PAct)} {l : List PAct} (h : Cov (p :: q :: r) l) : ∃ x, l[p.length]? = some x ∧ x.kind = 25 ∧ Cov (q :: r) (l.drop (p.length + 1)) := by
 obtain ⟨x, l', rfl, h1, _, h2⟩ := h
 refine ⟨x, by simp, h1, ?_⟩
 rw [show (p ++ x :: l').drop (p.length + 1) = l' from by rw [List.drop_append]; simp]
 exact h2
theorem cov_parts : ∀ (l : List PAct) (ps : List (List PAct)) (q : List PAct), (∀ a ∈ q, a.kind ≠ 25) → ∃ t r, (l.foldl partStep (ps, q)).1 ++ [(l.foldl partStep (ps, q)).2] = ps ++ t :: r ∧ Cov (t :: r) (q ++ l)
 | [], ps, q, hq => ⟨q, [], rfl, by rw [List.append_nil]; exact ⟨rfl, hq⟩⟩
 | x :: l, ps, q, hq => by
  by_cases h : x.kind = 25
  ·obtain ⟨t, r, h1, h2⟩ := cov_parts l (ps ++ [q]) [] (fun a h => by simp at h)
   refine ⟨q, t :: r, ?_, x, l, rfl, h, hq, by simpa using h2⟩
   rw [List.foldl_cons, show partStep (ps, q) x = (ps ++ [q], []) from by rw [partStep, if_pos h], h1]
   simp
  ·obtain ⟨t, r, h1, h2⟩ := cov_parts l ps (q ++ [x]) (fun a ha => by
    rcases List.mem_append.1 ha with ha | ha
    ·exact hq a ha
    ·rw [List.mem_singleton.1 ha]; exact h)
   refine ⟨t, r, ?_, by simpa using h2⟩
   rw [List.foldl_cons, show partStep (ps, q) x = (ps, q ++ [x]) from by rw [partStep, if_neg h], h1]
theorem cov_all (l : List PAct) : ∃ t r, partsAll l = t :: r ∧ Cov (partsAll l) l := by
 obtain ⟨t, r, h1, h2⟩ := cov_parts l [] [] (fun a h => by simp at h)
 have e : partsAll l = t :: r := by simpa [partsAll, partsL] using h1
 exact ⟨t, r, e, by rw [e]; simpa using h2⟩
end Go.Proofs.YtbfbjgakmnckbaaGreatDoor
namespace Go.Proofs.YtbfbjgakmnckbaaGreatDoor
open Go Go.RowKit Eng
abbrev TxM (B1 : Option Addr) (c1 : Nat) (B2 : Option Addr) (c2 : Nat) (N : List (List UInt8)) (oB pc : Nat) (ps : List PH) (Q : Mem) (oA : Option Addr) (oc : Nat) (M : List LA) : Mem :=
 .row B2 c2 N.length 9 1 (strsOf N) :: .row B1 c1 N.length 9 1 (strsOf N) :: .row (some ⟨oB, 0, none⟩) pc ps.length 46 1 (ps.map PH.hdr) :: (Q ++ (ps.map PH.row ++ MM oA oc M))
section
variable {B1 : Option Addr} {c1 : Nat} {B2 : Option Addr} {c2 : Nat} {N : List (List UInt8)} {oB pc : Nat} {ps : List PH} {Q : Mem} {oA : Option Addr} {oc : Nat} {M : List LA} {r : Res}
theorem TxM.mm (h : r ∈ MM oA oc M) : r ∈ TxM B1 c1 B2 c2 N oB pc ps Q oA oc M := by
 unfold TxM; simp only [List.mem_cons, List.mem_append] at h ⊢; exact .inr (.inr (.inr (.inr (.inr h))))
theorem TxM.ph {p : PH} (h : p ∈ ps) : p.row ∈ TxM B1 c1 B2 c2 N oB pc ps Q oA oc M := by
 have := List.mem_map_of_mem (f := PH.row) h
 unfold TxM; simp only [List.mem_cons, List.mem_append]; exact .inr (.inr (.inr (.inr (.inl this))))
theorem TxM.q (h : r ∈ Q) : r ∈ TxM B1 c1 B2 c2 N oB pc ps Q oA oc M := by
 unfold TxM; simp only [List.mem_cons, List.mem_append]; exact .inr (.inr (.inr (.inl h)))
theorem TxM.sel {y : LA} {t : List LA} : Sel (TxM B1 c1 B2 c2 N oB pc ps (clM (y :: t)) oA oc M) (clR y) (TxM B1 c1 B2 c2 N oB pc ps (clM t) oA oc M) := by
 show Sel (_ :: _ :: _ :: (_ :: _ :: (clM t ++ (ps.map PH.row ++ MM oA oc M)))) _ _
 exact .cons (.there (.there (.there .here))) (.cons (.there (.there (.there .here))) .nil)
theorem TxM.sub {cx : Cx} : SubM cx (TxM B1 c1 B2 c2 N oB pc ps Q oA oc M) (MM oA oc M) := fun _ hm => ((((hm.tail).tail).tail).sublist (List.sublist_append_right _ _)).sublist (List.sublist_append_right _ _)
end
theorem namesR_len : ∀ (l : List PAct) (acc : List (List UInt8)), (l.foldl namesStep acc).length ≤ acc.length + 2 * l.length
 | [], acc => by simp
 | a :: l, acc => by
  have h1 := namesR_len l (namesStep acc a)
  have h2 := namesStep_len acc a
  rw [List.foldl_cons, List.length_cons]; omega
theorem parts_len : ∀ (l : List PAct) (ps : List (List PAct)) (q : List PAct), (l.foldl partStep (ps, q)).1.length ≤ ps.length + l.length
 | [], ps, q => by simp
 | x :: l, ps, q => by
  rw [List.foldl_cons, List.length_cons]
  by_cases h : x.kind = 25
  ·rw [show partStep (ps, q) x = (ps ++ [q], []) from by rw [partStep, if_pos h]]
   have := parts_len l (ps ++ [q]) []
   simp only [List.length_append, List.length_singleton] at this
   omega
  ·rw [show partStep (ps, q) x = (ps, q ++ [x]) from by rw [partStep, if_neg h]]
   have := parts_len l ps (q ++ [x])
   omega
theorem plain_strs {B : Option Addr} {c : Nat} {N : List (List UInt8)} {w : World} (h : ∀ r ∈ StM B c N, r.ok w) (hn : 0 < N.length) : Pl B := by
 obtain ⟨b, e, _⟩ := row_cell (h _ (List.mem_cons_self ..)) (strs_get hn)
 exact ⟨b, 0, e⟩
theorem plain_ph {p : PH} {w : World} (h : p.row.ok w) (hn : 0 < p.L.length) : Pl p.A := by
 obtain ⟨b, o, e, _⟩ := at_row h hn
 exact ⟨b, o, e⟩
theorem drop_cons {α : Type} {l : List α} {j : Nat} {x : α} (h : l[j]? = some x) : l.drop j = x :: l.drop (j + 1) := by
 obtain ⟨h1, h2⟩ := List.getElem?_eq_some_iff.1 h
 rw [List.drop_eq_getElem_cons h1, h2]
attribute [local irreducible] Br Rn RnU Cl RdG CpG Ld Rd Lp Dr Oth Cut fin Fits Eng.Enters Md NA
set_option maxRecDepth 100000 in
set_option maxHeartbeats 4000000 in
theorem texts_any (A : Option Addr) (c : Nat) (L : List LA) (kind : Int) (w : World) (hL : ActsIn w A L) (hn : L.length ≤ 140737488355328) (hw : LW w) (hP : ∀ n : Int, -9223372036854775808 ≤ n ∧ n ≤ 9223372036854775807 → NumOk w n) :
  Ctr Tryz.prog 7 [.slice A L.length c, .int .i64 kind] [] (fun e m' => e = .returned (.bool true) ∧ m' = []) w := by
 refine enter (cx := ⟨Tryz.prog, 241, w, Foot [], tab, [], [14, 16, 17, 9, 8], [], []⟩) [(0, .slice A L.length c), (1, .int .i64 kind)] tab_ok Tryz.func7 rfl rfl rfl rfl (MemOk.nil w _) ?_
 have hF : ∀ w', Fr (Foot []) w w' → Fr (fun _ => False) w w' := fun w' hf => hf.mono (fun k _ ⟨r, hr, _⟩ => by cases hr)
 have hw' := fun w' hf => hw.fr (hF w' hf)
 have hL' := fun w' hf => hL.fr (hF w' hf)
 have hP' : ∀ w', Fr (Foot []) w w' → ∀ n : Int, -9223372036854775808 ≤ n ∧ n ≤ 9223372036854775807 → NumOk w' n := fun w' hf n hn => (hP n hn).fr (hF w' hf)
 have hwk : ∀ w', Fr (Foot []) w w' → Calls Tryz.prog 9 #[] w' fun e w'' => e = .returned (.bool true) ∧ Fr (fun _ => False) w' w'' := fun w' hf =>
  (works_any w' (hw' w' hf)).mono fun e w'' ⟨m', ⟨he, _⟩, hm⟩ => ⟨he, hm.fr.mono (fun k _ ⟨r, hr, _⟩ => by cases hr)⟩
 conv => whnf
 (repeat ((first | refine stp (by (repeat constructor); first | done | fail) ?_ | refine stn (by (repeat constructor); first | done | fail) ?_ | refine sto (by (repeat constructor); first | done | fail) (by first | omega | (simp only; omega)) ?_ | refine .mk fun Ap capp => ?_ | refine ⟨?_, trivial⟩ | intro _); conv => whnf))
 refine ⟨_, cpg long31_enters (v := .bool (L.any fun x => longB x.a)) (fun hg w' hm => long_any A c L w' (hL' w' hm.fr) (by simp at hg; omega)), ?_⟩
 conv => whnf
 (repeat ((first | refine stp (by (repeat constructor); first | done | fail) ?_ | refine stn (by (repeat constructor); first | done | fail) ?_ | refine sto (by (repeat constructor); first | done | fail) (by first | omega | (simp only; omega)) ?_ | refine .mk fun Ap capp => ?_ | refine ⟨?_, trivial⟩ | intro _); conv => whnf))
 refine br (fun hl => ?_) (fun hl => ?_)
 ·conv => whnf
  (repeat ((first | refine stp (by (repeat constructor); first | done | fail) ?_ | refine stn (by (repeat constructor); first | done | fail) ?_ | refine sto (by (repeat constructor); first | done | fail) (by first | omega | (simp only; omega)) ?_ | refine .mk fun Ap capp => ?_ | refine ⟨?_, trivial⟩ | intro _); conv => whnf))
  refine ⟨works_enters, cl_same _ (fun w' hm => hwk w' hm.fr) ?_⟩
  conv => whnf
  (repeat ((first | refine stp (by (repeat constructor); first | done | fail) ?_ | refine stn (by (repeat constructor); first | done | fail) ?_ | refine sto (by (repeat constructor); first | done | fail) (by first | omega | (simp only; omega)) ?_ | refine .mk fun Ap capp => ?_ | refine ⟨?_, trivial⟩ | intro _); conv => whnf))
  exact fin1 rfl rfl (fun w' hm => ⟨_, ⟨rfl, rfl⟩, hm.sel .nil⟩)
 ·simp only [Bool.or_eq_false_iff, decide_eq_false_iff_not] at hl
  obtain ⟨hl1, hl2⟩ := hl
  have hn1 : L.length ≤ 100 := by omega
  have hsm : ∀ x ∈ L, x.a.bytes.length ≤ 20000 ∧ x.a.picks.length ≤ 500 := by
   intro x hx
   have := List.any_eq_false.1 hl2 x hx
   simp only [longB, Bool.or_eq_true, decide_eq_true_eq] at this
   omega
  clear hl1 hl2
  conv => whnf
  (repeat ((first | refine stp (by (repeat constructor); first | done | fail) ?_ | refine stn (by (repeat constructor); first | done | fail) ?_ | refine sto (by (repeat constructor); first | done | fail) (by first | omega | (simp only; omega)) ?_ | refine .mk fun Ap capp => ?_ | refine ⟨?_, trivial⟩ | intro _); conv => whnf))
  refine lp tab_ok (γ := Nat × Option Addr × Nat × List LA) (fun g => g.1 ≤ L.length ∧ g.2.2.2.map LA.a = (L.take g.1).map LA.a ∧ g.2.2.2.length = g.1 ∧ (∀ y ∈ g.2.2.2, Cop y) ∧ (0 < g.1 → Pl g.2.1))
   (fun g => [(6, .int .i64 g.1), (0, .slice A L.length c), (1, .int .i64 kind), (5, .slice g.2.1 g.1 g.2.2.1)]) (fun g => MM g.2.1 g.2.2.1 g.2.2.2) (fun g => L.length - g.1) (0, none, 0, []) ⟨by omega, rfl, rfl, by simp, fun h => absurd h (Nat.lt_irrefl _)⟩ ⟨rfl, rfl, rfl, rfl, trivial⟩ (SubM.row0 (SubM.refl _ _) 29 13) ?_
  rintro ⟨i, oA, oc, M⟩ ⟨hi, hMa, hMl, hcop, hplM⟩
  simp only at hi hMa hMl hcop hplM
  subst hMl
  change XC _ _ _ [(6, .int .i64 (M.length : Int)), (0, .slice A L.length c), (1, .int .i64 kind), (5, .slice oA M.length oc)] (PH.row ⟨oA, oc, M⟩ :: coM M)
  conv => whnf
  refine br_d (fun hlt => ?_) (fun hge => ?_)
  ·have hlt' : M.length < L.length := by omega
   have hx := List.getElem?_eq_getElem hlt'
   have hpl := hL.plain (by omega)
   generalize L[M.length] = x at hx
   have hxm := List.mem_of_getElem? hx
   conv => whnf
   (repeat ((first | refine stp (by (repeat constructor); first | done | fail) ?_ | refine stn (by (repeat constructor); first | done | fail) ?_ | refine sto (by (repeat constructor); first | done | fail) (by first | omega | (simp only; omega)) ?_ | refine .mk fun Ap capp => ?_ | refine ⟨?_, trivial⟩ | intro _); conv => whnf))
   refine And.intro ⟨by omega, by omega, hpl⟩ ?_
   conv => whnf
   refine rn_load (hL.ld rfl rfl foot_no hx) ?_
   conv => whnf
   refine ⟨copied_enters, cl_mem (m1 := []) .nil (fun w' hm' => copied_any x.a x.bA x.pA x.bc x.pc w' ((hL' w' hm'.fr).act x hxm) (by have := hsm x hxm; omega) (by have := hsm x hxm; omega)) ?_⟩
   rintro e m' ⟨g, cb, g', cp, hcb, hcp, rfl, rfl⟩
   conv => whnf
   intro nB
   conv => whnf
   refine rn_appP tab_ok rfl rfl rfl rfl rfl rfl (.there (.there (.there .here))) rfl (news_blk (by (repeat constructor); first | done | fail)) rfl (by omega) (by omega) (fun oB' oc' _ => ?_)
   conv => whnf
   (repeat ((first | refine stp (by (repeat constructor); first | done | fail) ?_ | refine stn (by (repeat constructor); first | done | fail) ?_ | refine sto (by (repeat constructor); first | done | fail) (by first | omega | (simp only; omega)) ?_ | refine .mk fun Ap capp => ?_ | refine ⟨?_, trivial⟩ | intro _); conv => whnf))
   refine ⟨(M.length + 1, some ⟨oB', 0, none⟩, oc', M ++ [⟨x.a, some ⟨g, 0, none⟩, cb, some ⟨g', 0, none⟩, cp⟩]), ⟨by simp only; omega, ?_, by simp, ?_, fun _ => Pl.mk _ _⟩, by simp only; omega, ⟨rfl, rfl, rfl, rfl, trivial⟩, fun w hm => ?_⟩
   ·simp only [List.map_append, hMa, List.take_add_one, hx]; rfl
   ·intro y hy
    rcases List.mem_append.1 hy with hy | hy
    ·exact hcop y hy
    ·rw [List.mem_singleton.1 hy]
     exact ⟨(hL.act x hxm).ok, ⟨g, g', rfl, rfl⟩, hcb, hcp⟩
   ·simp only [MM, coM_snoc, row_snoc]
    exact (hm.sublist (List.Sublist.cons_cons _ (.cons _ (.refl _)))).perm (.cons _ (List.perm_append_comm (l₁ := coR ⟨x.a, some ⟨g, 0, none⟩, cb, some ⟨g', 0, none⟩, cp⟩) (l₂ := coM M)))
  ·have hML : M.length = L.length := by omega
   have hMA : M.map LA.a = L.map LA.a := by rw [hMa, List.take_of_length_le (by omega)]
   have hn2 : L.length ≤ 65536 := by omega
   have hn3 : M.length ≤ 65536 := by omega
   have hln : ∀ x ∈ L, mayB x.a = true → (lineL x.a).length ≤ 1099511627776 := fun x hx hm => by
    have := line_small (hL.act x hx).ok hm (hsm x hx).1 (hsm x hx).2
    omega
   have hof : ∀ y ∈ M, ∃ x ∈ L, y.a = x.a := fun y hy => by
    have := List.mem_map_of_mem (f := LA.a) hy
    rw [hMA] at this
    obtain ⟨x, hx, e⟩ := List.mem_map.1 this
    exact ⟨x, hx, e.symm⟩
   have hlnM : ∀ y ∈ M, mayB y.a = true → (lineL y.a).length ≤ 1099511627776 := fun y hy hm => by
    obtain ⟨x, hx, e⟩ := hof y hy
    rw [e] at hm ⊢
    exact hln x hx hm
   have hsmM : ∀ y ∈ M, y.a.bytes.length ≤ 1048576 ∧ y.a.picks.length ≤ 1048576 := fun y hy => by
    obtain ⟨x, hx, e⟩ := hof y hy
    have := hsm x hx
    rw [e]; omega
   have hAM : ∀ {m : Mem} {w' : World}, (∀ r ∈ MM oA oc M, r ∈ m) → MemOk w (Foot []) m w' → ActsIn w' oA M := fun hs hm => acts_copies hcop hs hm.ok
   have hWM : ∀ {m : Mem} {w' : World}, (∀ r ∈ MM oA oc M, r ∈ m) → MemOk w (Foot []) m w' → ActsW w' oA M := fun hs hm => ⟨hAM hs hm, fun y hy => act_num (hcop y hy).ok (hP' _ hm.fr)⟩
   have hWL : ∀ w', Fr (Foot []) w w' → ActsW w' A L := fun w' hf => ⟨hL' w' hf, fun x hx => act_num (hL.act x hx).ok (hP' w' hf)⟩
   rw [hML] at hplM
   conv => whnf
   (repeat ((first | refine stp (by (repeat constructor); first | done | fail) ?_ | refine stn (by (repeat constructor); first | done | fail) ?_ | refine sto (by (repeat constructor); first | done | fail) (by first | omega | (simp only; omega)) ?_ | refine .mk fun Ap capp => ?_ | refine ⟨?_, trivial⟩ | intro _); conv => whnf))
   refine ⟨stext_enters, cl_same _ (fun w' hm' => stext_any oA oc M w' (hWM (fun r h => h) hm') (by omega) hlnM) ?_⟩
   rw [hMA]
   conv => whnf
   (repeat ((first | refine stp (by (repeat constructor); first | done | fail) ?_ | refine stn (by (repeat constructor); first | done | fail) ?_ | refine sto (by (repeat constructor); first | done | fail) (by first | omega | (simp only; omega)) ?_ | refine .mk fun Ap capp => ?_ | refine ⟨?_, trivial⟩ | intro _); conv => whnf))
   refine ⟨rtext_enters, cl_same _ (fun w' hm' => rtext_any A c L w' (hWL w' hm'.fr) (by omega) hln) ?_⟩
   conv => whnf
   (repeat ((first | refine stp (by (repeat constructor); first | done | fail) ?_ | refine stn (by (repeat constructor); first | done | fail) ?_ | refine sto (by (repeat constructor); first | done | fail) (by first | omega | (simp only; omega)) ?_ | refine .mk fun Ap capp => ?_ | refine ⟨?_, trivial⟩ | intro _); conv => whnf))
   refine ⟨count_enters, cl_same _ (fun w' hm' => count_any kind oA oc M w' (hAM (fun r h => h) hm') (by omega)) ?_⟩
   conv => whnf
   (repeat ((first | refine stp (by (repeat constructor); first | done | fail) ?_ | refine stn (by (repeat constructor); first | done | fail) ?_ | refine sto (by (repeat constructor); first | done | fail) (by first | omega | (simp only; omega)) ?_ | refine .mk fun Ap capp => ?_ | refine ⟨?_, trivial⟩ | intro _); conv => whnf))
   refine ⟨parts_enters, cl_mem (m1 := []) .nil (fun w' hm' => (parts_any oA oc M w' (hAM (fun r h => h) hm') hn3 hsmM).ex) ?_⟩
   rintro e m' ⟨⟨oB, pc, ps, rfl, hps, hpok, rfl⟩, wp, hwp⟩
   rw [hMA] at hps
   conv => whnf
   (repeat ((first | refine stp (by (repeat constructor); first | done | fail) ?_ | refine stn (by (repeat constructor); first | done | fail) ?_ | refine sto (by (repeat constructor); first | done | fail) (by first | omega | (simp only; omega)) ?_ | refine .mk fun Ap capp => ?_ | refine ⟨?_, trivial⟩ | intro _); conv => whnf))
   refine ⟨snames_enters, cl_mem (m1 := []) .nil (fun w' hm' => (snames_any oA oc M w' (hAM (by intro r h; simp only [List.nil_append]; exact List.mem_append_right _ h) hm') hn3).ex) ?_⟩
   rintro e m' ⟨⟨B1, c1, rfl, rfl⟩, w1, hw1⟩
   rw [hMA, names_same] at hw1 ⊢
   conv => whnf
   (repeat ((first | refine stp (by (repeat constructor); first | done | fail) ?_ | refine stn (by (repeat constructor); first | done | fail) ?_ | refine sto (by (repeat constructor); first | done | fail) (by first | omega | (simp only; omega)) ?_ | refine .mk fun Ap capp => ?_ | refine ⟨?_, trivial⟩ | intro _); conv => whnf))
   refine ⟨rnames_enters, cl_mem (m1 := []) .nil (fun w' hm' => (rnames_any A c L w' (hL' w' hm'.fr) hn2).ex) ?_⟩
   rintro e m' ⟨⟨B2, c2, rfl, rfl⟩, w2, hw2⟩
   generalize hN : namesR (L.map LA.a) = N at hw1 hw2 ⊢
   conv => whnf
   (repeat ((first | refine stp (by (repeat constructor); first | done | fail) ?_ | refine stn (by (repeat constructor); first | done | fail) ?_ | refine sto (by (repeat constructor); first | done | fail) (by first | omega | (simp only; omega)) ?_ | refine .mk fun Ap capp => ?_ | refine ⟨?_, trivial⟩ | intro _); conv => whnf))
   have hNl : N.length ≤ 200 := by have := namesR_len (L.map LA.a) []; rw [List.length_map] at this; rw [← hN]; unfold namesR; simp only [List.length_nil] at this; omega
   have hck : countK kind M = countK kind L := by rw [countK_map, countK_map, hMA]
   rw [hck]
   refine lp tab_ok (γ := Nat) (fun i => i ≤ L.length)
    (fun i => [(19, .int .i64 i), (18, .int .i64 (countK kind (L.take i) : Nat)), (0, .slice A L.length c), (1, .int .i64 kind), (5, .slice oA M.length oc), (7, .string (Str (textR (L.map LA.a)).1)), (8, .int .i64 (textR (L.map LA.a)).2.1), (9, .int .i64 (textR (L.map LA.a)).2.2), (10, .string (Str (textR (L.map LA.a)).1)), (11, .int .i64 (textR (L.map LA.a)).2.1), (12, .int .i64 (textR (L.map LA.a)).2.2), (13, .int .i64 (countK kind L : Nat)), (14, .slice (some ⟨oB, 0, none⟩) ps.length pc), (15, .int .i64 0), (16, .slice B1 N.length c1), (17, .slice B2 N.length c2)])
    (fun _ => TxM B1 c1 B2 c2 N oB pc ps (clM (ps.flatMap PH.L)) oA oc M) (fun i => L.length - i) 0 (by omega) ⟨rfl, rfl, rfl, rfl, rfl, rfl, rfl, rfl, rfl, rfl, rfl, rfl, rfl, rfl, rfl, rfl, trivial⟩
    (fun w hm => hm.perm (.cons _ (.cons _ (.cons _ (by rw [← List.append_assoc]; exact List.Perm.append_right _ List.perm_append_comm))))) ?_
   intro i hi
   change XC _ _ _ [(19, .int .i64 (i : Int)), (18, .int .i64 (countK kind (L.take i) : Nat)), (0, .slice A L.length c), (1, .int .i64 kind), (5, .slice oA M.length oc), (7, .string (Str (textR (L.map LA.a)).1)), (8, .int .i64 (textR (L.map LA.a)).2.1), (9, .int .i64 (textR (L.map LA.a)).2.2), (10, .string (Str (textR (L.map LA.a)).1)), (11, .int .i64 (textR (L.map LA.a)).2.1), (12, .int .i64 (textR (L.map LA.a)).2.2), (13, .int .i64 (countK kind L : Nat)), (14, .slice (some ⟨oB, 0, none⟩) ps.length pc), (15, .int .i64 0), (16, .slice B1 N.length c1), (17, .slice B2 N.length c2)] (TxM B1 c1 B2 c2 N oB pc ps (clM (ps.flatMap PH.L)) oA oc M)
   conv => whnf
   refine br_d (fun hlt => ?_) (fun hge => ?_)
   ·have hlt' : i < L.length := by omega
    have hx := List.getElem?_eq_getElem hlt'
    have hpl := hL.plain (by omega)
    have hplm := hplM (by omega)
    have hy := List.getElem?_eq_getElem (show i < M.length by omega)
    have hya : (M[i]'(by omega)).a = (L[i]).a := by
     have := congrArg (·[i]?) hMA
     simp only [List.getElem?_map, hx, hy, Option.map_some, Option.some.injEq] at this
     exact this
    generalize L[i] = x at hx hya
    generalize M[i]'(by omega) = y at hy hya
    have hxm := List.mem_of_getElem? hx
    have hym := List.mem_of_getElem? hy
    refine dr_quiet tab_ok mixed (by kernel_rfl) rfl ?_; conv => whnf
    (repeat ((first | refine g_ixp (And.intro ⟨by omega, by omega, hplm⟩ ?_) | refine g_ixp (And.intro ⟨by omega, by omega, hpl⟩ ?_) | refine ⟨_, Ld.g (hL.ld rfl rfl foot_no hx), ?_⟩ | refine ⟨_, Ld.g (ld_acts rfl rfl (fun w' hm => (hAM (fun r h => TxM.mm h) hm).at_) hy), ?_⟩ | refine g_cpg ⟨_, cpg kept_enters (fun _ w' hm => kept_la x y w' hya ((hL' w' hm.fr).act x hxm) (hcop y hym) (Cop.bytes (fun r hr => TxM.mm (List.mem_cons_of_mem _ (coM_mem hym r hr))) hm.ok) (Cop.picks (fun r hr => TxM.mm (List.mem_cons_of_mem _ (coM_mem hym r hr))) hm.ok)), ?_⟩ | refine stp (by (repeat constructor); first | done | fail) ?_ | refine stn (by (repeat constructor); first | done | fail) ?_ | refine sto (by (repeat constructor); first | done | fail) (by first | omega | (simp only; omega)) ?_ | refine .mk fun Ap capp => ?_ | refine ⟨?_, trivial⟩ | intro _); conv => whnf))
    refine br_f rfl ?_
    conv => whnf
    (repeat ((first | refine g_ixp (And.intro ⟨by omega, by omega, hpl⟩ ?_) | refine g_pl (And.intro (hpl.pl _) ?_) | refine rn_load (hL.ldF rfl rfl foot_no (j := 0) hx rfl rfl rfl) ?_ | refine stp (by (repeat constructor); first | done | fail) ?_ | refine stn (by (repeat constructor); first | done | fail) ?_ | refine sto (by (repeat constructor); first | done | fail) (by first | omega | (simp only; omega)) ?_ | refine .mk fun Ap capp => ?_ | refine ⟨?_, trivial⟩ | intro _); conv => whnf))
    have hc := (List.countP_le_length (p := fun x => decide (x.a.kind = kind)) (l := L.take i))
    rw [List.length_take] at hc
    have hc : countK kind (L.take i) ≤ min i L.length := hc
    refine br_d (fun hb => ?_) (fun hb => ?_)
    ·conv => whnf
     (repeat ((first | refine stp (by (repeat constructor); first | done | fail) ?_ | refine stn (by (repeat constructor); first | done | fail) ?_ | refine sto (by (repeat constructor); first | done | fail) (by first | omega | (simp only; omega)) ?_ | refine .mk fun Ap capp => ?_ | refine ⟨?_, trivial⟩ | intro _); conv => whnf))
     exact ⟨i + 1, by omega, by omega, ⟨rfl, by rw [countK_succ hx, if_pos hb]; rfl, rfl, rfl, rfl, rfl, rfl, rfl, rfl, rfl, rfl, rfl, rfl, rfl, rfl, rfl, trivial⟩, SubM.refl _ _⟩
    ·conv => whnf
     (repeat ((first | refine stp (by (repeat constructor); first | done | fail) ?_ | refine stn (by (repeat constructor); first | done | fail) ?_ | refine sto (by (repeat constructor); first | done | fail) (by first | omega | (simp only; omega)) ?_ | refine .mk fun Ap capp => ?_ | refine ⟨?_, trivial⟩ | intro _); conv => whnf))
     exact ⟨i + 1, by omega, by omega, ⟨rfl, by rw [countK_succ hx, if_neg hb]; rfl, rfl, rfl, rfl, rfl, rfl, rfl, rfl, rfl, rfl, rfl, rfl, rfl, rfl, rfl, trivial⟩, SubM.refl _ _⟩
   ·have hil : i = L.length := by omega
    rw [hil, List.take_length]
    conv => whnf
    (repeat ((first | refine g_cpg ⟨_, cpg num_enters (fun _ w' hm => num_any _ w'), ?_⟩ | refine stp (by (repeat constructor); first | done | fail) ?_ | refine stn (by (repeat constructor); first | done | fail) ?_ | refine sto (by (repeat constructor); first | done | fail) (by first | omega | (simp only; omega)) ?_ | refine .mk fun Ap capp => ?_ | refine ⟨?_, trivial⟩ | intro _); conv => whnf))
    refine br_f (by simp) ?_
    conv => whnf
    (repeat ((first | refine stp (by (repeat constructor); first | done | fail) ?_ | refine stn (by (repeat constructor); first | done | fail) ?_ | refine sto (by (repeat constructor); first | done | fail) (by first | omega | (simp only; omega)) ?_ | refine .mk fun Ap capp => ?_ | refine ⟨?_, trivial⟩ | intro _); conv => whnf))
    clear hi hge
    have hpl1 := plain_strs hw1
    have hpl2 := plain_strs hw2
    refine lp tab_ok (γ := Nat) (fun i => i ≤ N.length)
     (fun i => [(20, .int .i64 i), (0, .slice A L.length c), (5, .slice oA M.length oc), (14, .slice (some ⟨oB, 0, none⟩) ps.length pc), (16, .slice B1 N.length c1), (17, .slice B2 N.length c2)])
     (fun _ => TxM B1 c1 B2 c2 N oB pc ps (clM (ps.flatMap PH.L)) oA oc M) (fun i => N.length - i) 0 (by omega) ⟨rfl, rfl, rfl, rfl, rfl, rfl, trivial⟩ (SubM.refl _ _) ?_
    intro i hi
    change XC _ _ _ [(20, .int .i64 (i : Int)), (0, .slice A L.length c), (5, .slice oA M.length oc), (14, .slice (some ⟨oB, 0, none⟩) ps.length pc), (16, .slice B1 N.length c1), (17, .slice B2 N.length c2)] (TxM B1 c1 B2 c2 N oB pc ps (clM (ps.flatMap PH.L)) oA oc M)
    conv => whnf
    refine br_d (fun hlt => ?_) (fun hge => ?_)
    ·have hlt' : i < N.length := by omega
     have hp1 := hpl1 (by omega)
     have hp2 := hpl2 (by omega)
     refine dr_quiet tab_ok mixed (by kernel_rfl) rfl ?_; conv => whnf
     (repeat ((first | refine g_ixp (And.intro ⟨by omega, by omega, hp1⟩ ?_) | refine g_ixp (And.intro ⟨by omega, by omega, hp2⟩ ?_) | refine ⟨_, Ld.g (ldR tab_ok (.there .here) rfl rfl (strs_get (i := i) hlt')), ?_⟩ | refine ⟨_, Ld.g (ldR tab_ok .here rfl rfl (strs_get (i := i) hlt')), ?_⟩ | refine stp (by (repeat constructor); first | done | fail) ?_ | refine stn (by (repeat constructor); first | done | fail) ?_ | refine sto (by (repeat constructor); first | done | fail) (by first | omega | (simp only; omega)) ?_ | refine .mk fun Ap capp => ?_ | refine ⟨?_, trivial⟩ | intro _); conv => whnf))
     refine br_f (by simp) ?_
     conv => whnf
     (repeat ((first | refine stp (by (repeat constructor); first | done | fail) ?_ | refine stn (by (repeat constructor); first | done | fail) ?_ | refine sto (by (repeat constructor); first | done | fail) (by first | omega | (simp only; omega)) ?_ | refine .mk fun Ap capp => ?_ | refine ⟨?_, trivial⟩ | intro _); conv => whnf))
     exact ⟨i + 1, by omega, by omega, ⟨rfl, rfl, rfl, rfl, rfl, rfl, trivial⟩, SubM.refl _ _⟩
    ·conv => whnf
     (repeat ((first | refine stp (by (repeat constructor); first | done | fail) ?_ | refine stn (by (repeat constructor); first | done | fail) ?_ | refine sto (by (repeat constructor); first | done | fail) (by first | omega | (simp only; omega)) ?_ | refine .mk fun Ap capp => ?_ | refine ⟨?_, trivial⟩ | intro _); conv => whnf))
     clear hi hge
     obtain ⟨t0, r0, hp0, hcov⟩ := cov_all (L.map LA.a)
     rw [← hps] at hcov
     have hps0 : 0 < ps.length := by
      have := congrArg List.length hp0
      rw [← hps] at this
      simp at this; omega
     have hpsl : ps.length ≤ 200 := by
      have h1 := congrArg List.length hps
      have h2 := parts_len (L.map LA.a) [] []
      rw [List.length_map] at h1
      simp only [partsAll, partsL, List.length_append, List.length_singleton, List.length_map, List.length_nil] at h1 h2
      omega
     refine lp tab_ok (γ := Nat × Nat) (fun g => g.1 ≤ ps.length ∧ g.2 ≤ L.length ∧ Cov ((ps.drop g.1).map PH.acts) ((L.map LA.a).drop g.2))
      (fun g => [(22, .int .i64 g.1), (21, .int .i64 g.2), (0, .slice A L.length c), (5, .slice oA M.length oc), (14, .slice (some ⟨oB, 0, none⟩) ps.length pc)])
      (fun g => TxM B1 c1 B2 c2 N oB pc ps (clM ((ps.drop g.1).flatMap PH.L)) oA oc M) (fun g => ps.length - g.1) (0, 0) ⟨by omega, by omega, hcov⟩ ⟨rfl, rfl, rfl, rfl, rfl, trivial⟩ (SubM.refl _ _) ?_
     rintro ⟨i, at0⟩ ⟨hi, hat, hcv⟩
     simp only at hi hat hcv
     change XC _ _ _ [(22, .int .i64 (i : Int)), (21, .int .i64 (at0 : Int)), (0, .slice A L.length c), (5, .slice oA M.length oc), (14, .slice (some ⟨oB, 0, none⟩) ps.length pc)] (TxM B1 c1 B2 c2 N oB pc ps (clM ((ps.drop i).flatMap PH.L)) oA oc M)
     conv => whnf
     refine br_d (fun hlt => ?_) (fun hge => ?_)
     ·have hlt' : i < ps.length := by omega
      have hpi := List.getElem?_eq_getElem hlt'
      generalize ps[i] = p at hpi
      have hpm := List.mem_of_getElem? hpi
      have hdr := drop_cons hpi
      have hhdr : (ps.map PH.hdr)[i]? = some (.slice p.A p.L.length p.c) := by rw [List.getElem?_map, hpi]; rfl
      have hplp := plain_ph (hwp p.row (List.mem_cons_of_mem _ (List.mem_append_left _ (List.mem_map_of_mem hpm))))
      have hpk := hpok p hpm
      rw [hdr] at hcv ⊢
      rw [List.map_cons] at hcv
      have hget : ∀ {j : Nat} {y : LA}, p.L[j]? = some y → ∃ x, L[at0 + j]? = some x ∧ y.a = x.a ∧ x.a.kind ≠ 25 := by
       intro j y hy
       obtain ⟨h1, h2⟩ := cov_get hcv (j := j) (a := y.a) (by rw [PH.acts, List.getElem?_map, hy]; rfl)
       rw [List.getElem?_drop, List.getElem?_map] at h1
       cases hq : L[at0 + j]? with
       | none => rw [hq] at h1; simp at h1
       | some x =>
        rw [hq] at h1
        simp only [Option.map_some, Option.some.injEq] at h1
        exact ⟨x, rfl, h1.symm, by rw [h1]; exact h2⟩
      have hpL : p.L.length ≤ L.length := by
       by_cases h0 : p.L.length = 0
       ·omega
       ·obtain ⟨x, hx, _⟩ := hget (List.getElem?_eq_getElem (show p.L.length - 1 < p.L.length by omega))
        have := (List.getElem?_eq_some_iff.1 hx).1
        omega
      conv => whnf
      (repeat ((first | refine stp (by (repeat constructor); first | done | fail) ?_ | refine stn (by (repeat constructor); first | done | fail) ?_ | refine sto (by (repeat constructor); first | done | fail) (by first | omega | (simp only; omega)) ?_ | refine .mk fun Ap capp => ?_ | refine ⟨?_, trivial⟩ | intro _); conv => whnf))
      refine lp tab_ok (γ := Nat) (fun j => j ≤ p.L.length)
       (fun j => [(23, .int .i64 j), (21, .int .i64 (at0 + j : Nat)), (22, .int .i64 i), (0, .slice A L.length c), (5, .slice oA M.length oc), (14, .slice (some ⟨oB, 0, none⟩) ps.length pc)])
       (fun j => TxM B1 c1 B2 c2 N oB pc ps (clM (p.L.drop j ++ (ps.drop (i + 1)).flatMap PH.L)) oA oc M) (fun j => p.L.length - j) 0 (by omega) ⟨rfl, rfl, rfl, rfl, rfl, rfl, trivial⟩ (SubM.refl _ _) ?_
      intro j hj
      change XC _ _ _ [(23, .int .i64 (j : Int)), (21, .int .i64 (at0 + j : Nat)), (22, .int .i64 (i : Int)), (0, .slice A L.length c), (5, .slice oA M.length oc), (14, .slice (some ⟨oB, 0, none⟩) ps.length pc)] (TxM B1 c1 B2 c2 N oB pc ps (clM (p.L.drop j ++ (ps.drop (i + 1)).flatMap PH.L)) oA oc M)
      conv => whnf
      (repeat ((first | refine g_ixp (And.intro ⟨by omega, by omega, Pl.mk _ _⟩ ?_) | refine rn_load (ldR tab_ok (.there (.there .here)) rfl rfl hhdr) ?_ | refine stp (by (repeat constructor); first | done | fail) ?_ | refine stn (by (repeat constructor); first | done | fail) ?_ | refine sto (by (repeat constructor); first | done | fail) (by first | omega | (simp only; omega)) ?_ | refine .mk fun Ap capp => ?_ | refine ⟨?_, trivial⟩ | intro _); conv => whnf))
      refine br_d (fun hlj => ?_) (fun hgj => ?_)
      ·have hlj' : j < p.L.length := by omega
       have hy := List.getElem?_eq_getElem hlj'
       generalize p.L[j] = y at hy
       obtain ⟨x, hx, hya, hxk⟩ := hget hy
       have hxm := List.mem_of_getElem? hx
       have hym := List.mem_of_getElem? hy
       have hdj := drop_cons hy
       have hxl := (List.getElem?_eq_some_iff.1 hx).1
       have hpl := hL.plain (by omega)
       have hpp := hplp (by omega)
       rw [hdj, List.cons_append]
       generalize ht : p.L.drop (j + 1) ++ (ps.drop (i + 1)).flatMap PH.L = t
       refine dr_quiet tab_ok mixed (by kernel_rfl) rfl ?_; conv => whnf
       (repeat ((first | refine g_ixp (And.intro ⟨by omega, by omega, hpl⟩ ?_) | refine And.intro (fun _ => ⟨by omega, by omega, hpl⟩) ?_ | refine g_plg (And.intro (fun _ => hpl.pl _) ?_) | refine And.intro (fun _ => ⟨by omega, by omega, Pl.mk _ _⟩) ?_ | refine And.intro (fun _ => ⟨by omega, by omega, hpp⟩) ?_ | refine ⟨_, Ld.g (hL.ldF rfl rfl foot_no (j := 0) hx rfl rfl rfl), ?_⟩ | refine ⟨_, Ld.g (hL.ld rfl rfl foot_no hx), ?_⟩ | refine ⟨_, Ld.g (ldR tab_ok (.there (.there .here)) rfl rfl hhdr), ?_⟩ | refine ⟨_, Ld.g (ld_acts rfl rfl (fun w' hm => at_row (c := p.c) (hm.ok _ (TxM.ph hpm))) hy), ?_⟩ | refine g_cpg ⟨_, cpg same_enters (fun _ w' hm => same_la x y w' hya ((hL' w' hm.fr).act x hxm) (clR_in (hpk y hym) (fun r hr => TxM.q (List.mem_append_left _ hr)) hm.ok)), ?_⟩ | refine stp (by (repeat constructor); first | done | fail) ?_ | refine stn (by (repeat constructor); first | done | fail) ?_ | refine sto (by (repeat constructor); first | done | fail) (by first | omega | (simp only; omega)) ?_ | refine .mk fun Ap capp => ?_ | refine ⟨?_, trivial⟩ | intro _); conv => whnf))
       refine br_f (by rw [decide_eq_false (by omega), decide_eq_false hxk]; rfl) ?_
       conv => whnf
       (repeat ((first | refine g_ixp (And.intro ⟨by omega, by omega, Pl.mk _ _⟩ ?_) | refine g_ixp (And.intro ⟨by omega, by omega, hpp⟩ ?_) | refine rn_load (ldR tab_ok (.there (.there .here)) rfl rfl hhdr) ?_ | refine rn_load (ld_acts rfl rfl (fun w' hm => at_row (c := p.c) (hm.ok _ (TxM.ph hpm))) hy) ?_ | refine stp (by (repeat constructor); first | done | fail) ?_ | refine stn (by (repeat constructor); first | done | fail) ?_ | refine sto (by (repeat constructor); first | done | fail) (by first | omega | (simp only; omega)) ?_ | refine .mk fun Ap capp => ?_ | refine ⟨?_, trivial⟩ | intro _); conv => whnf))
       refine ⟨spoil_enters, cl_mem (m1 := clR y) TxM.sel (fun w' hm' => spoil_any y (hpk y hym) w' _ rfl hm'.part) ?_⟩
       rintro e m' ⟨rfl, rfl⟩
       conv => whnf
       (repeat ((first | refine stp (by (repeat constructor); first | done | fail) ?_ | refine stn (by (repeat constructor); first | done | fail) ?_ | refine sto (by (repeat constructor); first | done | fail) (by first | omega | (simp only; omega)) ?_ | refine .mk fun Ap capp => ?_ | refine ⟨?_, trivial⟩ | intro _); conv => whnf))
       subst ht
       exact ⟨j + 1, by omega, by omega, ⟨rfl, rfl, rfl, rfl, rfl, rfl, trivial⟩, SubM.refl _ _⟩
      ·have hjl : j = p.L.length := by omega
       subst hjl
       rw [List.drop_length, List.nil_append]
       conv => whnf
       (repeat ((first | refine stp (by (repeat constructor); first | done | fail) ?_ | refine stn (by (repeat constructor); first | done | fail) ?_ | refine sto (by (repeat constructor); first | done | fail) (by first | omega | (simp only; omega)) ?_ | refine .mk fun Ap capp => ?_ | refine ⟨?_, trivial⟩ | intro _); conv => whnf))
       refine br_d (fun hmore => ?_) (fun hlast => ?_)
       ·have hq := List.getElem?_eq_getElem (show i + 1 < ps.length by omega)
        generalize ps[i + 1] = q at hq
        rw [drop_cons hq, List.map_cons] at hcv
        obtain ⟨xa, hx, hxk, hcv2⟩ := cov_next hcv
        rw [List.drop_drop] at hcv2
        have epl : p.acts.length = p.L.length := by rw [PH.acts, List.length_map]
        rw [epl] at hx hcv2
        rw [List.getElem?_drop, List.getElem?_map] at hx
        cases hx2 : L[at0 + p.L.length]? with
        | none => rw [hx2] at hx; simp at hx
        | some x =>
         rw [hx2] at hx
         simp only [Option.map_some, Option.some.injEq] at hx
         subst hx
         have hxl := (List.getElem?_eq_some_iff.1 hx2).1
         have hpl := hL.plain (by omega)
         conv => whnf
         (repeat ((first | refine And.intro (fun _ => ⟨by omega, by omega, hpl⟩) ?_ | refine g_plg (And.intro (fun _ => hpl.pl _) ?_) | refine ⟨_, Ld.g (hL.ldF rfl rfl foot_no (j := 0) hx2 rfl rfl rfl), ?_⟩ | refine stp (by (repeat constructor); first | done | fail) ?_ | refine stn (by (repeat constructor); first | done | fail) ?_ | refine sto (by (repeat constructor); first | done | fail) (by first | omega | (simp only; omega)) ?_ | refine .mk fun Ap capp => ?_ | refine ⟨?_, trivial⟩ | intro _); conv => whnf))
         refine br_f (by rw [decide_eq_false (by omega), decide_eq_true hxk]; rfl) ?_
         conv => whnf
         (repeat ((first | refine stp (by (repeat constructor); first | done | fail) ?_ | refine stn (by (repeat constructor); first | done | fail) ?_ | refine sto (by (repeat constructor); first | done | fail) (by first | omega | (simp only; omega)) ?_ | refine .mk fun Ap capp => ?_ | refine ⟨?_, trivial⟩ | intro _); conv => whnf))
         refine ⟨(i + 1, at0 + p.L.length + 1), ⟨by simp only; omega, by simp only; omega, ?_⟩, by simp only; omega, ⟨rfl, rfl, rfl, rfl, rfl, trivial⟩, SubM.refl _ _⟩
         simp only
         rw [drop_cons hq, List.map_cons]
         exact hcv2
       ·have hil : i + 1 = ps.length := by omega
        have hd0 : ps.drop (i + 1) = [] := List.drop_eq_nil_of_le (by omega)
        rw [hd0] at hcv
        have hl := congrArg List.length hcv.1
        rw [List.length_drop, List.length_map, PH.acts, List.length_map] at hl
        conv => whnf
        (repeat ((first | refine stp (by (repeat constructor); first | done | fail) ?_ | refine stn (by (repeat constructor); first | done | fail) ?_ | refine sto (by (repeat constructor); first | done | fail) (by first | omega | (simp only; omega)) ?_ | refine .mk fun Ap capp => ?_ | refine ⟨?_, trivial⟩ | intro _); conv => whnf))
        refine ⟨(i + 1, at0 + p.L.length), ⟨by simp only; omega, by simp only; omega, ?_⟩, by simp only; omega, ⟨rfl, rfl, rfl, rfl, rfl, trivial⟩, SubM.refl _ _⟩
        simp only
        rw [hd0]
        exact List.drop_eq_nil_of_le (by rw [List.length_map]; omega)
     ·have hil : i = ps.length := by omega
      have hatl : at0 = L.length := by
       rw [hil, List.drop_length] at hcv
       have := congrArg List.length (show (L.map LA.a).drop at0 = [] from hcv)
       rw [List.length_drop, List.length_map, List.length_nil] at this
       omega
      subst hatl
      clear hcv hat
      conv => whnf
      (repeat ((first | refine stp (by (repeat constructor); first | done | fail) ?_ | refine stn (by (repeat constructor); first | done | fail) ?_ | refine sto (by (repeat constructor); first | done | fail) (by first | omega | (simp only; omega)) ?_ | refine .mk fun Ap capp => ?_ | refine ⟨?_, trivial⟩ | intro _); conv => whnf))
      refine lp tab_ok (γ := Nat) (fun k => k ≤ L.length)
       (fun k => [(24, .int .i64 k), (21, .int .i64 L.length), (0, .slice A L.length c), (5, .slice oA M.length oc), (14, .slice (some ⟨oB, 0, none⟩) ps.length pc)])
       (fun _ => MM oA oc M) (fun k => L.length - k) 0 (by omega) ⟨rfl, rfl, rfl, rfl, rfl, trivial⟩ TxM.sub ?_
      intro k hk
      change XC _ _ _ [(24, .int .i64 (k : Int)), (21, .int .i64 (L.length : Int)), (0, .slice A L.length c), (5, .slice oA M.length oc), (14, .slice (some ⟨oB, 0, none⟩) ps.length pc)] (MM oA oc M)
      conv => whnf
      refine br_d (fun hlt => ?_) (fun hge => ?_)
      ·have hlt' : k < L.length := by omega
       have hx := List.getElem?_eq_getElem hlt'
       have hpl := hL.plain (by omega)
       have hplm := hplM (by omega)
       have hy := List.getElem?_eq_getElem (show k < M.length by omega)
       have hya : (M[k]'(by omega)).a = (L[k]).a := by
        have := congrArg (·[k]?) hMA
        simp only [List.getElem?_map, hx, hy, Option.map_some, Option.some.injEq] at this
        exact this
       generalize L[k] = x at hx hya
       generalize M[k]'(by omega) = y at hy hya
       have hxm := List.mem_of_getElem? hx
       have hym := List.mem_of_getElem? hy
       refine dr_quiet tab_ok mixed (by kernel_rfl) rfl ?_; conv => whnf
       (repeat ((first | refine g_ixp (And.intro ⟨by omega, by omega, hplm⟩ ?_) | refine g_ixp (And.intro ⟨by omega, by omega, hpl⟩ ?_) | refine ⟨_, Ld.g (hL.ld rfl rfl foot_no hx), ?_⟩ | refine ⟨_, Ld.g (ld_acts rfl rfl (fun w' hm => (hAM (fun r h => h) hm).at_) hy), ?_⟩ | refine g_cpg ⟨_, cpg kept_enters (fun _ w' hm => kept_la x y w' hya ((hL' w' hm.fr).act x hxm) (hcop y hym) (Cop.bytes (fun r hr => List.mem_cons_of_mem _ (coM_mem hym r hr)) hm.ok) (Cop.picks (fun r hr => List.mem_cons_of_mem _ (coM_mem hym r hr)) hm.ok)), ?_⟩ | refine stp (by (repeat constructor); first | done | fail) ?_ | refine stn (by (repeat constructor); first | done | fail) ?_ | refine sto (by (repeat constructor); first | done | fail) (by first | omega | (simp only; omega)) ?_ | refine .mk fun Ap capp => ?_ | refine ⟨?_, trivial⟩ | intro _); conv => whnf))
       refine br_f rfl ?_
       conv => whnf
       (repeat ((first | refine stp (by (repeat constructor); first | done | fail) ?_ | refine stn (by (repeat constructor); first | done | fail) ?_ | refine sto (by (repeat constructor); first | done | fail) (by first | omega | (simp only; omega)) ?_ | refine .mk fun Ap capp => ?_ | refine ⟨?_, trivial⟩ | intro _); conv => whnf))
       exact ⟨k + 1, by omega, by omega, ⟨rfl, rfl, rfl, rfl, rfl, trivial⟩, SubM.refl _ _⟩
      ·conv => whnf
       (repeat ((first | refine g_cpg ⟨_, cpg works_enters (fun _ w' hm => hwk w' hm.fr), ?_⟩ | refine stp (by (repeat constructor); first | done | fail) ?_ | refine stn (by (repeat constructor); first | done | fail) ?_ | refine sto (by (repeat constructor); first | done | fail) (by first | omega | (simp only; omega)) ?_ | refine .mk fun Ap capp => ?_ | refine ⟨?_, trivial⟩ | intro _); conv => whnf))
       refine fin1 rfl rfl (fun w' hm => ⟨_, ⟨?_, rfl⟩, hm.sel .nil⟩)
       simp
       omega
end Go.Proofs.YtbfbjgakmnckbaaGreatDoor
namespace Go.Proofs.YtbfbjgakmnckbaaGreatDoor
open Go Go.RowKit Go.Deep Eng
variable {H : Type} {enc : TypeId × Value → H} {w : World}

theorem act_fields : Tryz.prog.underlying 29 = some (.struct (Tryz.prog.fieldsOf 29)) := by kernel_rfl
def actFs : List (Nat × Nat) := [(22, 0), (9, 1), (9, 2), (9, 3), (2, 4), (2, 5), (23, 6), (3, 7), (3, 8), (4, 9), (26, 10), (27, 12)]
theorem act_list : ((Tryz.prog.fieldsOf 29).toList.map fun f => (f.type, f.offset)) = actFs := by kernel_rfl
theorem act_cells : Tryz.prog.cellsOf 29 = 13 := by kernel_rfl
theorem act_cellsOf : (actFs.map fun p => Tryz.prog.cellsOf p.1) = [1, 1, 1, 1, 1, 1, 1, 1, 1, 1, 2, 1] := by kernel_rfl
theorem u_kind : Tryz.prog.underlying 22 = some (.int .i64) := by kernel_rfl
theorem u_fkind : Tryz.prog.underlying 24 = some (.int .i64) := by kernel_rfl
theorem u_str : Tryz.prog.underlying 9 = some .string := by kernel_rfl
theorem u_i64 : Tryz.prog.underlying 2 = some (.int .i64) := by kernel_rfl
theorem u_int : Tryz.prog.underlying 3 = some (.int .i64) := by kernel_rfl
theorem u_u8 : Tryz.prog.underlying 5 = some (.int .u8) := by kernel_rfl
theorem u_bool : Tryz.prog.underlying 4 = some .bool := by kernel_rfl
theorem u_bytes : Tryz.prog.underlying 23 = some (.slice 5) := by kernel_rfl
theorem u_ints : Tryz.prog.underlying 27 = some (.slice 3) := by kernel_rfl
theorem c_u8 : Tryz.prog.cellsOf 5 = 1 := by kernel_rfl
theorem c_int : Tryz.prog.cellsOf 3 = 1 := by kernel_rfl
theorem c_fk : Tryz.prog.cellsOf 24 = 1 := by kernel_rfl
theorem b_u8 : Tryz.prog.bytesOf 5 = 1 := by kernel_rfl
theorem b_int : Tryz.prog.bytesOf 3 = 8 := by kernel_rfl

theorem wf_in64 {n : Int} (h : (Lit.int .i64 n).wf = true) : -9223372036854775808 ≤ n ∧ n ≤ 9223372036854775807 := (Lit.wf_int_iff .i64 n).1 h
theorem wf_inb {n : Int} (h : (Lit.int .u8 n).wf = true) : 0 ≤ n ∧ n ≤ 255 := (Lit.wf_int_iff .u8 n).1 h
/-- A slice of numbers, opened. -/
theorem ints_open {k : IntKind} {t e : TypeId} {base fuel : Nat} {sp : Nat → Bool} {hd : Bool} {c : Value} {x : DataW H × List MemPlace} (ht : Tryz.prog.underlying t = some (.slice e)) (he : Tryz.prog.underlying e = some (.int k)) (hc : Tryz.prog.cellsOf e = 1)
  (h : DataW.trod enc Tryz.prog w base sp hd fuel t [c] = some x) (hb : 1 ≤ Tryz.prog.bytesOf e) (hz : ∀ n ∈ x.1.weights Tryz.prog t, n ≤ reachBytes) :
  ∃ A len cap, ∃ V : Nat → Int, c = .slice A len cap ∧ len ≤ 140737488355328 ∧ (∀ i, i < len → (Lit.int k (V i)).wf = true) ∧ (0 < len → ∃ b o, A = some ⟨b, o, none⟩ ∧ ∀ i, i < len → w.cell? ⟨b, o + i, none⟩ = some (.int k (V i))) := by
 rcases open_slice1 ht hc h with ⟨h1, _⟩ | ⟨a, len, cap, m, n, V, D, Pl, h1, _, hl, _, hm, hx, hv⟩
 ·exact ⟨none, 0, 0, fun _ => 0, by simpa using h1, by omega, fun i hi => by omega, fun h => by omega⟩
 have hlm : len ≤ m := by rw [hm]; split <;> omega
 have hv' : ∀ i, i < len → ∃ z : Int, V i = .int k z ∧ (Lit.int k z).wf = true := fun i hi => by
  obtain ⟨z, hz1, _, hz2⟩ := DataW.trod_int he (hv i (by omega)).2
  exact ⟨z, by simpa using hz1, hz2⟩
 refine ⟨some a, len, cap, fun i => match V i with | .int _ z => z | _ => 0, by simpa using h1, ?_, fun i hi => ?_, fun hp => ?_⟩
 ·have := hz ((len + (m - len)) * Tryz.prog.bytesOf e) (by rw [hx]; simp [DataW.weights, ht])
  have h2 : len * 1 ≤ (len + (m - len)) * Tryz.prog.bytesOf e := Nat.mul_le_mul (by omega) hb
  simp only [reachBytes] at this
  omega
 ·obtain ⟨z, h1, h2⟩ := hv' i hi
  simp only [h1]; exact h2
 ·have h0 := (hv 0 (by omega)).1
  obtain ⟨b, o, s⟩ := a
  cases s with
  | some q =>
   exfalso
   simp only [Addr.add, World.cell?] at h0
   revert h0
   simp
   split <;> simp
  | none =>
   refine ⟨b, o, rfl, fun i hi => ?_⟩
   obtain ⟨z, h1, _⟩ := hv' i hi
   have := (hv i (by omega)).1
   rw [Addr.add_lit, h1] at this
   simpa [h1] using this
theorem fld_of {n : Nat} {sp : Nat → Bool} {hd : Bool} {cs : List Value} {xs : List (DataW H × List MemPlace)} (hxl : xs.length = (Tryz.prog.fieldsOf 29).size)
  (hf : ∀ (i : Nat) (f : Field), (Tryz.prog.fieldsOf 29)[i]? = some f → DataW.trod enc Tryz.prog w 0 sp hd n f.type ((cs.drop f.offset).take (Tryz.prog.cellsOf f.type)) = xs[i]?)
  (hz : ∀ n ∈ (DataW.agg (xs.map (·.1))).weights Tryz.prog 29, n ≤ reachBytes) (i t o k : Nat) (hi : actFs[i]? = some (t, o)) (hk : (actFs.map fun p => Tryz.prog.cellsOf p.1)[i]? = some k) :
  ∃ x, DataW.trod enc Tryz.prog w 0 sp hd n t ((cs.drop o).take k) = some x ∧ ∀ n ∈ x.1.weights Tryz.prog t, n ≤ reachBytes := by
 have hl := act_list
 have hi' := hi
 rw [← hl, List.getElem?_map] at hi'
 cases hq : (Tryz.prog.fieldsOf 29).toList[i]? with
 | none => rw [hq] at hi'; simp at hi'
 | some f =>
  rw [hq] at hi'
  simp only [Option.map_some, Option.some.injEq, Prod.mk.injEq] at hi'
  obtain ⟨rfl, rfl⟩ := hi'
  rw [List.getElem?_map, hi] at hk
  simp only [Option.map_some, Option.some.injEq] at hk
  subst hk
  have hq' : (Tryz.prog.fieldsOf 29)[i]? = some f := by simpa using hq
  have hlt : i < xs.length := by rw [hxl]; exact (Array.getElem?_eq_some_iff.1 hq').1
  refine ⟨xs[i], (hf i f hq').trans (List.getElem?_eq_getElem hlt), fun n hn => hz n ?_⟩
  simp only [DataW.weights, act_fields]
  exact DataW.weights_mem_each (j := i) (t := f.type) (d := xs[i].1) (by rw [List.getElem?_map, hq]; rfl) (by rw [List.getElem?_map, List.getElem?_eq_getElem hlt]; rfl) n hn
theorem str_open {t fuel : Nat} {sp : Nat → Bool} {hd : Bool} {c : Value} {x : DataW H × List MemPlace} (ht : Tryz.prog.underlying t = some .string) (h : DataW.trod enc Tryz.prog w 0 sp hd fuel t [c] = some x) (hz : ∀ n ∈ x.1.weights Tryz.prog t, n ≤ reachBytes) :
  ∃ s : ByteArray, c = .string s ∧ s.size ≤ 140737488355328 := by
 obtain ⟨s, h1, h2, _⟩ := DataW.trod_string ht h
 refine ⟨s, by simpa using h1, ?_⟩
 have := hz s.data.toList.length (by rw [h2]; simp [DataW.weights])
 simp only [reachBytes, Array.length_toList] at this
 have e : s.size = s.data.size := rfl
 omega
theorem int_open {k : IntKind} {t fuel : Nat} {sp : Nat → Bool} {hd : Bool} {c : Value} {x : DataW H × List MemPlace} (ht : Tryz.prog.underlying t = some (.int k)) (h : DataW.trod enc Tryz.prog w 0 sp hd fuel t [c] = some x) :
  ∃ n : Int, c = .int k n ∧ (Lit.int k n).wf = true := by
 obtain ⟨n, h1, _, h2⟩ := DataW.trod_int ht h
 exact ⟨n, by simpa using h1, h2⟩
set_option maxRecDepth 20000 in
/-- AN ACT OPENED. -/
theorem act_open {fuel : Nat} {sp : Nat → Bool} {hd : Bool} {cs : List Value} {x : DataW H × List MemPlace} (h : DataW.trod enc Tryz.prog w 0 sp hd fuel 29 cs = some x) (hz : ∀ n ∈ x.1.weights Tryz.prog 29, n ≤ reachBytes) :
  ∃ a bA bc pA pc, cs = actL a bA bc pA pc ∧ ActIn w a bA pA := by
 obtain ⟨xs, n, rfl, rfl, hl, hxl, hf⟩ := DataW.trod_struct act_fields h
 rw [act_cells] at hl
 have fld := fld_of hxl hf hz
 have hk := act_cellsOf
 match cs, hl with
 | [c0, c1, c2, c3, c4, c5, c6, c7, c8, c9, c10, c11, c12], _ =>
  obtain ⟨x0, g0, _⟩ := fld 0 _ _ 1 rfl (by rw [hk]; rfl)
  obtain ⟨x1, g1, z1⟩ := fld 1 _ _ 1 rfl (by rw [hk]; rfl)
  obtain ⟨x2, g2, z2⟩ := fld 2 _ _ 1 rfl (by rw [hk]; rfl)
  obtain ⟨x3, g3, z3⟩ := fld 3 _ _ 1 rfl (by rw [hk]; rfl)
  obtain ⟨x4, g4, _⟩ := fld 4 _ _ 1 rfl (by rw [hk]; rfl)
  obtain ⟨x5, g5, _⟩ := fld 5 _ _ 1 rfl (by rw [hk]; rfl)
  obtain ⟨x6, g6, z6⟩ := fld 6 _ _ 1 rfl (by rw [hk]; rfl)
  obtain ⟨x7, g7, _⟩ := fld 7 _ _ 1 rfl (by rw [hk]; rfl)
  obtain ⟨x8, g8, _⟩ := fld 8 _ _ 1 rfl (by rw [hk]; rfl)
  obtain ⟨x9, g9, _⟩ := fld 9 _ _ 1 rfl (by rw [hk]; rfl)
  obtain ⟨x10, g10, _⟩ := fld 10 _ _ 2 rfl (by rw [hk]; rfl)
  obtain ⟨x11, g11, z11⟩ := fld 11 _ _ 1 rfl (by rw [hk]; rfl)
  obtain ⟨kind, rfl, r0⟩ := int_open u_kind g0
  obtain ⟨name, rfl, r1⟩ := str_open u_str g1 z1
  obtain ⟨other, rfl, r2⟩ := str_open u_str g2 z2
  obtain ⟨third, rfl, r3⟩ := str_open u_str g3 z3
  obtain ⟨at_, rfl, r4⟩ := int_open u_i64 g4
  obtain ⟨nn, rfl, r5⟩ := int_open u_i64 g5
  obtain ⟨bA, bl, bc, bV, rfl, hbl, hbw, hbc⟩ := ints_open u_bytes u_u8 c_u8 g6 (by rw [b_u8]; omega) z6
  obtain ⟨bits, rfl, r7⟩ := int_open u_int g7
  obtain ⟨order, rfl, r8⟩ := int_open u_int g8
  obtain ⟨on, h9, _⟩ := DataW.trod_bool u_bool g9
  obtain rfl : c9 = .bool on := by simpa using h9
  obtain ⟨pA, pl, pc, pV, rfl, hpl, hpw, hpc⟩ := ints_open u_ints u_int c_int g11 (by rw [b_int]; omega) z11
  obtain ⟨fk, keep, hfk, r10, r11⟩ : ∃ fk keep : Int, [c10, c11] = [.int .i64 fk, .int .i64 keep] ∧ (Lit.int .i64 fk).wf = true ∧ (Lit.int .i64 keep).wf = true := by
   obtain ⟨ys, n2, _, _, _, hyl, hyf⟩ := DataW.trod_struct fate_fields g10
   have hfl := fate_list
   have key : ∀ (i t o : Nat) (nm : String), [("Kind", 24, 0), ("Keep", 3, 1)][i]? = some (nm, t, o) → ∃ y, DataW.trod enc Tryz.prog w 0 sp hd n2 t ((([c10, c11] : List Value).drop o).take (Tryz.prog.cellsOf t)) = some y := by
    intro i t o nm hi
    rw [← hfl, List.getElem?_map] at hi
    cases hq : (Tryz.prog.fieldsOf 26).toList[i]? with
    | none => rw [hq] at hi; simp at hi
    | some f =>
     rw [hq] at hi
     simp only [Option.map_some, Option.some.injEq, Prod.mk.injEq] at hi
     obtain ⟨_, rfl, rfl⟩ := hi
     have hq' : (Tryz.prog.fieldsOf 26)[i]? = some f := by simpa using hq
     have hlt : i < ys.length := by rw [hyl]; exact (Array.getElem?_eq_some_iff.1 hq').1
     exact ⟨ys[i], (hyf i f hq').trans (List.getElem?_eq_getElem hlt)⟩
   obtain ⟨y0, q0⟩ := key 0 _ _ _ rfl
   obtain ⟨y1, q1⟩ := key 1 _ _ _ rfl
   rw [c_fk] at q0
   rw [c_int] at q1
   obtain ⟨fk, rfl, r⟩ := int_open u_fkind q0
   obtain ⟨keep, rfl, r'⟩ := int_open u_int q1
   exact ⟨fk, keep, rfl, r, r'⟩
  simp only [List.cons.injEq, and_true] at hfk
  obtain ⟨rfl, rfl⟩ := hfk
  refine ⟨⟨kind, name, other, third, at_, nn, (List.range bl).map fun i => UInt8.ofNat (bV i).toNat, bits, order, on, fk, keep, (List.range pl).map pV⟩, bA, bc, pA, pc, ?_, ⟨?_, ?_, ?_⟩⟩
  ·simp [actL]
  ·refine ⟨wf_in64 r0, wf_in64 r4, wf_in64 r5, wf_in64 r7, wf_in64 r8, wf_in64 r10, wf_in64 r11, ?_, r1, r2, r3, by simpa using hbl, by simpa using hpl⟩
   intro z hz
   simp only [List.mem_map, List.mem_range] at hz
   obtain ⟨i, hi, rfl⟩ := hz
   exact wf_in64 (hpw i hi)
  ·intro hp
   rw [numsOf_length] at hp
   simp only [List.length_map, List.length_range] at hp
   obtain ⟨b, o, rfl, hc⟩ := hbc hp
   refine ⟨b, o, rfl, fun i hi => ?_⟩
   rw [numsOf_length] at hi
   simp only [List.length_map, List.length_range] at hi
   rw [hc i hi]
   have hr := wf_inb (hbw i hi)
   have e : (numsOf ((List.range bl).map fun i => UInt8.ofNat (bV i).toNat)).getD i 0 = bV i := by
    simp only [numsOf, List.map_map, List.getD, List.getElem?_map, List.getElem?_range hi, Option.map_some, Option.getD_some, Function.comp]
    rw [UInt8.toNat_ofNat']
    omega
   rw [e]
  ·intro hp
   simp only [List.length_map, List.length_range] at hp
   obtain ⟨b, o, rfl, hc⟩ := hpc hp
   refine ⟨b, o, rfl, fun i hi => ?_⟩
   simp only [List.length_map, List.length_range] at hi
   rw [hc i hi]
   simp [List.getD, List.getElem?_map, List.getElem?_range hi]
theorem weights_all {P : Program} {e : TypeId} : ∀ {ds : List (DataW H)} {d : DataW H}, d ∈ ds → ∀ n ∈ d.weights P e, n ∈ DataW.weightsAll P e ds
 | d0 :: ds, d, hd, n, hn => by
  simp only [DataW.weightsAll, List.mem_append]
  rcases List.mem_cons.1 hd with rfl | hd
  ·exact .inl hn
  ·exact .inr (weights_all hd n hn)
theorem u_acts : Tryz.prog.underlying 46 = some (.slice 29) := by kernel_rfl
theorem b_act : Tryz.prog.bytesOf 29 = 160 := by kernel_rfl
/-- A SLICE OF ACTS OPENED. -/
theorem acts_open {fuel : Nat} {sp : Nat → Bool} {hd : Bool} {cs : List Value} {x : DataW H × List MemPlace} (h : DataW.trod enc Tryz.prog w 0 sp hd fuel 46 cs = some x) (hz : ∀ n ∈ x.1.weights Tryz.prog 46, n ≤ reachBytes) :
  ∃ A c L, cs = [.slice A L.length c] ∧ L.length ≤ 140737488355328 ∧ ActsIn w A L := by
 rcases open_slice u_acts h with ⟨h1, _⟩ | ⟨a, len, cap, m, n, D, Pl, h1, _, hl, _, hm, hx, hv⟩
 ·exact ⟨none, 0, [], by simpa using h1, by simp, fun h => by simp at h, fun x hx => by simp at hx⟩
 have hlm : len ≤ m := by rw [hm]; split <;> omega
 rw [act_cells] at hv
 have hw1 : (len + (m - len)) * 160 ≤ reachBytes := hz _ (by rw [hx, DataW.weights, u_acts]; simp [b_act])
 have hel : ∀ i, i < len → ∃ y : LA, (∀ j v, y.cells[j]? = some v → w.cell? ((a.add (i * 13)).add j) = some v) ∧ ActIn w y.a y.bA y.pA := by
  intro i hi
  obtain ⟨cs', h2, h3⟩ := hv i (by omega)
  obtain ⟨y, bA, bc, pA, pc, rfl, hy⟩ := act_open h3 (fun n hn => hz n (by
   rw [hx, DataW.weights, u_acts]
   refine List.mem_cons_of_mem _ (List.mem_append_left _ (weights_all (List.mem_map.2 ⟨i, List.mem_range.2 hi, rfl⟩) n hn))))
  obtain ⟨_, hlen, hc⟩ := World.cells?_some h2
  refine ⟨⟨y, bA, bc, pA, pc⟩, fun j v hj => ?_, hy⟩
  have hj' : j < 13 := (List.getElem?_eq_some_iff.1 hj).1
  rw [hc j hj']
  exact hj
 have : Inhabited LA := ⟨⟨nilAct 0, none, 0, none, 0⟩⟩
 obtain ⟨f, hf⟩ := choose_lt hel
 have hget : ∀ i, i < len → ((List.range len).map f)[i]? = some (f i) := fun i hi => by simp [hi]
 refine ⟨some a, cap, (List.range len).map f, by simpa using h1, ?_, fun hn => ?_, fun y hy => ?_⟩
 ·simp only [List.length_map, List.length_range, reachBytes] at hw1 ⊢
  omega
 ·have hlen0 : 0 < len := by simpa using hn
  have h0 := (hf 0 hlen0).1 0 _ rfl
  obtain ⟨b, o, s⟩ := a
  cases s with
  | some q =>
   exfalso
   simp only [Addr.add, World.cell?] at h0
   revert h0
   simp
   split <;> simp
  | none =>
   refine ⟨b, o, rfl, fun i y hy j v hv => ?_⟩
   have hi : i < len := by have := (List.getElem?_eq_some_iff.1 hy).1; simpa using this
   rw [hget i hi] at hy
   obtain rfl : f i = y := by simpa using hy
   have := (hf i hi).1 j v hv
   rw [Addr.add_lit, Addr.add_lit, Nat.add_assoc] at this
   exact this
 ·obtain ⟨i, hi, rfl⟩ := List.mem_map.1 hy
  exact (hf i (List.mem_range.1 hi)).2
end Go.Proofs.YtbfbjgakmnckbaaGreatDoor
namespace Go.Proofs.YtbfbjgakmnckbaaGreatDoor
open Go Go.ChangeShapes Go.WideShapes Go.ChangeAt Go.RowKit Eng

theorem own : ownKnob Tryz.prog.godebug = none := by kernel_rfl
theorem laidOutT : laidOutB Tryz.prog = true := by kernel_rfl
theorem g_pow : Tryz.prog.globalNamed "internal/strconv.uint64pow10" = some 1 := by kernel_rfl
theorem gt_pow : (Tryz.prog.globals[1]?).map (·.type) = some 179 := by kernel_rfl
theorem u_pow : Tryz.prog.underlying 179 = some (.array 20 158) := by kernel_rfl
theorem u_u64 : Tryz.prog.underlying 158 = some (.int .u64) := by kernel_rfl
theorem c_u64 : Tryz.prog.cellsOf 158 = 1 := by kernel_rfl
theorem c_pow : Tryz.prog.cellsOf 179 = 20 := by kernel_rfl
/-- What the row's list gives: the table of tens. -/
theorem pw_of {W : World} (h : laidMetH Tryz.prog Rows.scriptTextsRow.laid W) : PW W := by
 rw [MakeChecks.laidMetH_plain _ _ _ (by kernel_rfl)] at h
 exact Lib.tabIs_of_head g_pow gt_pow u_pow u_u64 c_u64 c_pow (zs := Lib.pow10Tab) (laidMet.tail (laidMet.tail h))
theorem lw_of {W : World} (h : W.ShapedOpen Tryz.prog) : LW W :=
 ⟨cell_of_shapedOpen_int (t := 3) (zero := #[.int .i64 0]) h (of_decide_eq_true (by kernel_rfl)) (by kernel_rfl) rfl (by kernel_rfl) (by kernel_rfl) (by kernel_rfl)⟩
theorem u_kindT : Tryz.prog.underlying 22 = some (.int .i64) := by kernel_rfl
theorem params_texts : Tryz.f7.params.toList = [46, 3] := by kernel_rfl
set_option maxRecDepth 100000 in
/-- WHAT THE WALK GIVES, FOR EVERY ARGUMENT. -/
theorem textsContract (H : Type) (enc : TypeId × Value → H) (W : World) (base : Nat) (args : Array Value) (ds gs : List (DataW H)) (before : List MemPlace)
  (hval : ∀ (j : Nat) t v, Tryz.f7.params[j]? = some t → args[j]? = some v → Value.okWide Tryz.prog W .any base t v)
  (hW : DataW.Whole enc Tryz.prog Tryz.f7.params.toList Rows.scriptTextsSpec.vars false W args.toList ds gs before)
  (hz : (DataW.weightsEach Tryz.prog (Tryz.f7.params.toList ++ (OpenSpec.ofChange Rows.scriptTextsSpec).bare.plain.varTypes Tryz.prog) (ds ++ gs)).all (· ≤ reachBytes) = true)
  (hL : laidMetH Tryz.prog Rows.scriptTextsRow.laid W) (hS : W.ShapedOpen Tryz.prog) :
  Calls Tryz.prog 7 args W fun e W' => ∃ v, e = .returned v ∧ Rows.scriptTextsSpec.post enc Tryz.prog Tryz.f7 false true false false W args v W' := by
 have hW' := hW
 obtain ⟨p, q, hA0, hV, rfl, hfz, hnd⟩ := hW
 have hA : DataW.TrodAll enc Tryz.prog W 0 (fun _ => true) true Tryz.f7.params.toList args.toList ds p := hA0
 rw [params_texts] at hA hz
 obtain ⟨v0, v1, d0, d1, p0, p1, hargs, rfl, rfl, h0, h1⟩ := trodAll_two hA
 subst hargs
 obtain ⟨a0, len0, cap0, rfl⟩ := okWide_slice u_acts (hval 0 46 v0 (by kernel_rfl) rfl)
 obtain ⟨k, rfl, _, hp1, hkw⟩ := open_int u_int (hval 1 3 v1 (by kernel_rfl) rfl) h1
 obtain ⟨rfl, rfl⟩ := trodVars_none hV
 clear hA0 hA
 simp only [List.append_nil] at hW'
 have hlt : ∀ x ∈ p0 ++ p1, x.block < W.heap.size := fun x hx => by simpa using hW'.lt x hx
 have h0k := h0
 have h1k := h1
 obtain ⟨n0, e0⟩ := h0
 have hz' : ∀ n ∈ d0.weights Tryz.prog 46, n ≤ reachBytes := fun n hn => by
  have := List.all_eq_true.1 hz n (DataW.weights_mem_each (j := 0) (t := 46) (d := d0) rfl rfl n hn)
  simpa using this
 obtain ⟨A, c, L, hcs, hn, hin⟩ := acts_open e0 hz'
 have hv0 : Value.slice a0 len0 cap0 = .slice A L.length c := by simpa [Value.cells] using hcs
 injection hv0 with ha hl hc
 subst ha hl hc
 refine Calls.mono (texts_any a0 cap0 L k W hin hn (lw_of hS) (fun n hn => ⟨hn, .inl (pw_of hL)⟩)) fun e W' ⟨m', ⟨he, _⟩, hm⟩ => ?_
 subst he
 have hb : Below W.heap.size W W' := (hm.fr.mono (T := fun _ => False) (fun k _ ⟨r, hr, _⟩ => by cases hr)).below
 exact ⟨_, rfl, _, _, _, [], p0 ++ p1, [], hW', trodAll_mk1 (shut_bool Tryz.underlying4 _), trodAll_mk2 (Below.trod laidOutT (by kernel_rfl) (of_decide_eq_true (by kernel_rfl)) h0k hb (fun x hx => hlt x (List.mem_append_left _ hx))) (Below.trod laidOutT (by kernel_rfl) (of_decide_eq_true (by kernel_rfl)) h1k hb (fun x hx => hlt x (List.mem_append_right _ hx))), rfl, hb.frame _, fun h => by cases h⟩
end Go.Proofs.YtbfbjgakmnckbaaGreatDoor
