/- slices.Sort and slices.Compact of strings in the engine's form. No statement of the seat is proved here. -/
import Derived.Test.YtbfbjgakmnckbaaGreatDoorSl12
namespace Go.Proofs.YtbfbjgakmnckbaaGreatDoor
open Go Go.RowKit Eng

/-- A row of strings whose cells are written anew. -/
theorem put_mem {w0 w w' : World} {S : Nat → Prop} {m : Mem} {b n cap : Nat} {xs : List Value} {d : List (List UInt8)} {k : Nat} {os : Array Obj} (hm : MemOk w0 S (.row (some ⟨b, 0, none⟩) cap n 9 1 xs :: m) w) (hd : d.length = n) (hn : 0 < n)
  (hw : w' = Sort.grow (Sort.putRow encStr (Sort.ahead w k) b 0 d.toArray) os) : MemOk w0 S (.row (some ⟨b, 0, none⟩) cap n 9 1 (strsOf d) :: m) w' := by
 have hr : w.ownsRow 0 9 1 (.slice (some ⟨b, 0, none⟩) n cap) n xs := hm.ok _ (List.mem_cons_self ..)
 rcases hr.2 with ⟨e, _⟩ | ⟨g, c', cur, e, _, hb, hc, hmax, hsz, hcur⟩
 ·cases e
 injection e with e1 _ e3
 injection e1 with e1
 injection e1 with e1
 subst e1 e3
 have hlt : b < w.heap.size := (Array.getElem?_eq_some_iff.1 hb).1
 have hblk : ∀ j, j < w.heap.size → j ≠ b → w'.heap[j]? = w.heap[j]? := by
  intro j hj hne
  rw [hw]
  show ((w.heap.modify b (Sort.onCells (Sort.putCells encStr 0 d.toArray))) ++ os)[j]? = _
  rw [Array.getElem?_append_left (by simpa using hj), Array.getElem?_modify, if_neg (fun h => hne h.symm)]
 have hnew : w'.heap[b]? = some (.cells (Sort.putCells encStr 0 d.toArray cur) 9 (0, 0)) := by
  rw [hw]
  show ((w.heap.modify b (Sort.onCells (Sort.putCells encStr 0 d.toArray))) ++ os)[b]? = _
  rw [Array.getElem?_append_left (by simpa using hlt), Array.getElem?_modify, if_pos rfl, hb]
  rfl
 have hfr : Fr (fun j => some j = some b) w w' := by
  refine ⟨by rw [hw]; rfl, by rw [hw]; rfl, by rw [hw]; rfl, ?_, fun j hj hs => hblk j hj (fun e => hs (by rw [e]))⟩
  rw [hw]
  show w.heap.size ≤ ((w.heap.modify b (Sort.onCells (Sort.putCells encStr 0 d.toArray))) ++ os).size
  simp
 have hapart := (List.pairwise_cons.1 hm.apart).1
 have hown := hm.own _ (List.mem_cons_self ..) b rfl
 have hmt : MemOk w0 S m w' := hm.tail.step hfr (fun b' hb' hT => by cases hT; exact hown.elim (fun h => absurd hb' (by omega)) id) (fun r hr b' hb' hT => by cases hT; exact hapart r hr b rfl hb')
 refine hmt.cons ⟨by rw [strsOf, List.length_map, hd, Nat.mul_one], .inr ⟨b, cap, _, rfl, Nat.zero_le _, hnew, hc, hmax, ?_, ?_⟩⟩ (fun b' e => by cases e; exact hown) (fun b' e s hs => by cases e; exact hapart s hs b rfl)
 ·rw [Sort.putCells, Array.size_mapIdx]; exact hsz
 ·apply List.ext_getElem?
  intro j
  by_cases hj : j < n
  ·rw [Nat.mul_one, List.getElem?_take_of_lt hj, Array.getElem?_toList, Sort.putCells, Array.getElem?_mapIdx]
   have hjc : j < cur.size := by rw [hsz]; omega
   rw [Array.getElem?_eq_getElem hjc, strsOf, List.getElem?_map, List.getElem?_eq_getElem (by omega)]
   simp only [Option.map_some, Nat.zero_le, true_and, Nat.zero_add, List.size_toArray, Nat.sub_zero]
   rw [if_pos (by omega), getElem!_pos _ j (by simp; omega)]
   simp [encStr, Str]
  ·rw [List.getElem?_eq_none (by simp [hsz]; omega), List.getElem?_eq_none (by rw [strsOf, List.length_map]; omega)]
theorem holds_row {w0 w : World} {S : Nat → Prop} {m : Mem} {b cap : Nat} {d : List (List UInt8)} (hm : MemOk w0 S (.row (some ⟨b, 0, none⟩) cap d.length 9 1 (strsOf d) :: m) w) : Sort.Holds encStr w b 0 d.toArray ∧ b < w.heap.size ∧ d.length ≤ cap := by
 have hr : w.ownsRow 0 9 1 (.slice (some ⟨b, 0, none⟩) d.length cap) d.length (strsOf d) := hm.ok _ (List.mem_cons_self ..)
 rcases hr.2 with ⟨e, _⟩ | ⟨g, c', cur, e, _, hb, hc, hmax, hsz, hcur⟩
 ·cases e
 injection e with e1 _ e3
 injection e1 with e1
 injection e1 with e1
 subst e1 e3
 refine ⟨fun j hj => ⟨?_, ?_⟩, (Array.getElem?_eq_some_iff.1 hb).1, hc⟩
 ·have hj' : j < d.length := by simpa using hj
  obtain ⟨b', e, hcell⟩ := row_cell (hm.ok _ (List.mem_cons_self ..)) (strs_get hj')
  injection e with e; injection e with e; subst e
  rw [Nat.zero_add, hcell, getElem!_pos _ j (by simpa using hj)]
  simp [encStr, Str, List.getD, List.getElem?_eq_getElem hj']
 ·simp [World.frozen?, hb]
/-- Names sorted. -/
def sortL (l : List (List UInt8)) : List (List UInt8) := l.mergeSort fun x y => decide (x ≤ y)
theorem sortL_length (l : List (List UInt8)) : (sortL l).length = l.length := List.length_mergeSort l
section
variable {cx : Cx} (hP : cx.P = Tryz.prog)
include hP
theorem cl_sort {m m' : Mem} {A : Option Addr} {cap : Nat} {ss : List (List UInt8)} {K : Value → Mem → Prop} {KP : List PanicEntry → Mem → Prop} (ho : Out m (.row A cap ss.length 9 1 (strsOf ss)) m') (hn : ss.length ≤ 1048576)
  (hk : K (.tuple #[]) (.row A cap (sortL ss).length 9 1 (strsOf (sortL ss)) :: m')) : Cl cx m 64 [.slice A ss.length cap] K KP := by
 intro w hm
 have hm1 := hm.perm ho.perm
 have hr : w.ownsRow 0 9 1 (.slice A ss.length cap) ss.length (strsOf ss) := hm1.ok _ (List.mem_cons_self ..)
 rw [hP]
 by_cases h0 : ss = []
 ·subst h0
  refine (Tryz.slices_Sort_string_none A cap w).mono ?_
  rintro e w' ⟨rfl, rfl⟩
  refine ⟨_, hm1, ?_⟩
  have e0 : sortL [] = [] := by simp [sortL]
  rw [e0] at hk
  exact hk
 ·have hpos : 0 < ss.length := List.length_pos_iff.2 h0
  obtain ⟨b, rfl, _⟩ := row_cell (hm1.ok _ (List.mem_cons_self ..)) (strs_get hpos)
  obtain ⟨hH, hblk, _⟩ := holds_row hm1
  refine (Tryz.slices_Sort_string b 0 cap ss w hH hblk (by omega)).mono ?_
  rintro e w' ⟨rfl, k, os, hw⟩
  refine ⟨_, ?_, hk⟩
  have := put_mem hm1 (d := sortL ss) (sortL_length ss) hpos hw
  rw [sortL_length]
  exact this
theorem cl_compact {m m' : Mem} {A : Option Addr} {cap : Nat} {ss : List (List UInt8)} {K : Value → Mem → Prop} {KP : List PanicEntry → Mem → Prop} (ho : Out m (.row A cap ss.length 9 1 (strsOf ss)) m') (hn : ss.length ≤ 1048576)
  (hk : K (.slice A (Lib.compact ss).length cap) (.row A cap (Lib.compact ss).length 9 1 (strsOf (Lib.compact ss)) :: m')) : Cl cx m 65 [.slice A ss.length cap] K KP := by
 intro w hm
 have hm1 := hm.perm ho.perm
 rw [hP]
 by_cases h0 : ss = []
 ·subst h0
  refine (Tryz.slices_Compact_string_empty A cap w).mono ?_
  rintro e w' ⟨rfl, rfl⟩
  refine ⟨_, hm1, ?_⟩
  have e0 : Lib.compact ([] : List (List UInt8)) = [] := rfl
  rw [e0] at hk
  exact hk
 ·have hpos : 0 < ss.length := List.length_pos_iff.2 h0
  obtain ⟨b, rfl, _⟩ := row_cell (hm1.ok _ (List.mem_cons_self ..)) (strs_get hpos)
  obtain ⟨hH, hblk, hcap⟩ := holds_row hm1
  have hle := Lib.compact_length_le ss
  refine (Tryz.slices_Compact_string b 0 cap ss w hH (by omega) hcap).mono ?_
  rintro e w' ⟨rfl, k, hw⟩
  refine ⟨_, ?_, hk⟩
  have := put_mem hm1 (d := Lib.compact ss ++ List.replicate (ss.length - (Lib.compact ss).length) []) (os := #[]) (w' := w') (k := k) (by simp; omega) hpos (by rw [hw]; simp)
  refine (this.tail).cons ?_ (fun b' e => this.own _ (List.mem_cons_self ..) b' e) (fun b' e s hs => (List.pairwise_cons.1 this.apart).1 s hs b' e)
  have hr : w'.ownsRow 0 9 1 (.slice (some ⟨b, 0, none⟩) ss.length cap) ss.length _ := this.ok _ (List.mem_cons_self ..)
  rcases hr.2 with ⟨e, _⟩ | ⟨g, c', cur, e, _, hb, hc, hmax, hsz, hcur⟩
  ·cases e
  injection e with e1 _ e3
  injection e1 with e1
  injection e1 with e1
  subst e1 e3
  refine ⟨by rw [strsOf, List.length_map, Nat.mul_one], .inr ⟨b, cap, cur, rfl, Nat.zero_le _, hb, by omega, hmax, hsz, ?_⟩⟩
  have h2 := congrArg (List.take (Lib.compact ss).length) hcur
  rw [List.take_take, Nat.mul_one, Nat.min_eq_left hle] at h2
  rw [Nat.mul_one, h2, strsOf, List.map_append]
  exact List.take_left' (by simp)
end
theorem sort_enters : Eng.Enters Tryz.prog 64 := enters_mk fun _ _ => by kernel_rfl
theorem compact_enters : Eng.Enters Tryz.prog 65 := enters_mk fun _ _ => by kernel_rfl
end Go.Proofs.YtbfbjgakmnckbaaGreatDoor
namespace Go.Proofs.YtbfbjgakmnckbaaGreatDoor
open Go Go.RowKit Eng
theorem z_strB : ∀ w, (zeroValue 9).run Tryz.prog w = .ok (.string ⟨#[]⟩) w := fun w => by kernel_rfl
theorem u_strsB : Tryz.prog.underlying 68 = some (.slice 9) := by kernel_rfl
theorem setCells_facts (b t : Nat) (fr : Nat × Nat) : ∀ (vs : List Value) (o : Nat) (w : World) (cur : Array Value), w.heap[b]? = some (.cells cur t fr) →
  (w.setCells b o vs).os = w.os ∧ (w.setCells b o vs).tape = w.tape ∧ (w.setCells b o vs).output = w.output ∧ (w.setCells b o vs).heap.size = w.heap.size ∧ (∀ k, k ≠ b → (w.setCells b o vs).heap[k]? = w.heap[k]?) ∧
  ∃ cur', (w.setCells b o vs).heap[b]? = some (.cells cur' t fr) ∧ cur'.size = cur.size ∧ ∀ j, j < o → cur'[j]? = cur[j]?
 | [], _, _, cur, h => ⟨rfl, rfl, rfl, rfl, fun _ _ => rfl, cur, h, rfl, fun _ _ => rfl⟩
 | v :: r, o, w, cur, h => by
  have e := Sort.setCell_eq w b o v
  have h1 : (w.setCell ⟨b, o, none⟩ v).heap[b]? = some (.cells (cur.setIfInBounds o v) t fr) := by
   rw [e]
   show (w.heap.modify b _)[b]? = _
   rw [Array.getElem?_modify, if_pos rfl, h]; rfl
  obtain ⟨q1, q2, q3, q4, q5, cur', q6, q7, q8⟩ := setCells_facts b t fr r (o + 1) _ _ h1
  have hos : (w.setCell ⟨b, o, none⟩ v).os = w.os ∧ (w.setCell ⟨b, o, none⟩ v).tape = w.tape ∧ (w.setCell ⟨b, o, none⟩ v).output = w.output ∧ (w.setCell ⟨b, o, none⟩ v).heap.size = w.heap.size := by
   rw [e]; exact ⟨rfl, rfl, rfl, by show (w.heap.modify b _).size = _; simp⟩
  refine ⟨q1.trans hos.1, q2.trans hos.2.1, q3.trans hos.2.2.1, q4.trans hos.2.2.2, fun k hk => (q5 k hk).trans ?_, cur', q6, by rw [q7]; simp, fun j hj => (q8 j (by omega)).trans ?_⟩
  ·rw [e]
   show (w.heap.modify b _)[k]? = _
   rw [Array.getElem?_modify, if_neg (fun h => hk h.symm)]
  ·rw [Array.getElem?_setIfInBounds_ne (by omega)]
/-- The end of a row of strings is cleared, and no longer looked at. -/
theorem rn_clear {cx : Cx} (hP : cx.P = Tryz.prog) {m m' : Mem} {b cap n ty c : Nat} {F R : List (List UInt8)} {K : Value → Mem → Prop} (hu : Out m (.row (some ⟨b, 0, none⟩) cap n 9 1 (strsOf (F ++ R))) m') (hn : F.length + R.length = n) (hR : 0 < R.length)
  (hk : K (.tuple #[]) (.row (some ⟨b, 0, none⟩) cap F.length 9 1 (strsOf F) :: m')) : Rn cx m (Builtin.clear_ #[68] ty #[.slice (some ⟨b, F.length, none⟩) R.length c]) K := by
 intro w hm
 have hm1 := hm.perm hu.perm
 have hr : w.ownsRow 0 9 1 (.slice (some ⟨b, 0, none⟩) n cap) n (strsOf (F ++ R)) := hm1.ok _ (List.mem_cons_self ..)
 have hcell : ∀ j, j < R.length → (w.cell? ⟨b, F.length + j, none⟩).isSome = true := by
  intro j hj
  obtain ⟨b', e, hc⟩ := row_cell (hm1.ok _ (List.mem_cons_self ..)) (strs_get (l := F ++ R) (i := F.length + j) (by simp; omega))
  injection e with e; injection e with e; subst e
  rw [hc]; rfl
 rcases hr.2 with ⟨e, _⟩ | ⟨g, c', cur, e, _, hb, hc, hmax, hsz, hcur⟩
 ·cases e
 injection e with e1 _ e3
 injection e1 with e1
 injection e1 with e1
 subst e1 e3
 have hrun := Lib.run_clear_slice w 68 9 ty (.string ⟨#[]⟩) u_strsB z_strB rfl rfl b F.length R.length c hR hcell (fun j _ => by simp [World.frozen?, hb])
 obtain ⟨q1, q2, q3, q4, q5, cur', q6, q7, q8⟩ := setCells_facts b 9 (0, 0) (List.replicate R.length (.string ⟨#[]⟩)) F.length w cur hb
 generalize w.setCells b F.length (List.replicate R.length (.string ⟨#[]⟩)) = w' at hrun q1 q2 q3 q4 q5 q6
 have hfr : Fr (fun j => some j = some b) w w' := ⟨q1, q2, q3, by omega, fun j _ hs => q5 j (fun e => hs (by rw [e]))⟩
 have hapart := (List.pairwise_cons.1 hm1.apart).1
 have hown := hm1.own _ (List.mem_cons_self ..) b rfl
 have hmt : MemOk cx.w0 cx.S m' w' := hm1.tail.step hfr (fun b' hb' hT => by cases hT; exact hown.elim (fun h => absurd hb' (by omega)) id) (fun r hr b' hb' hT => by cases hT; exact hapart r hr b rfl hb')
 refine ⟨_, w', _, by rw [hP]; exact hrun, hmt.cons (r := .row (some ⟨b, 0, none⟩) cap F.length 9 1 (strsOf F)) ⟨by rw [strsOf, List.length_map, Nat.mul_one], .inr ⟨b, cap, cur', rfl, Nat.zero_le _, q6, by omega, hmax, q7.trans hsz, ?_⟩⟩ (fun b' e => by cases e; exact hown) (fun b' e s hs => by cases e; exact hapart s hs b rfl), hk⟩
 apply List.ext_getElem?
 intro j
 by_cases hj : j < F.length
 ·have h1 : (cur.toList.take (n * 1))[j]? = (strsOf (F ++ R))[j]? := by rw [hcur]
  rw [Nat.mul_one, List.getElem?_take_of_lt (by omega), Array.getElem?_toList] at h1
  rw [Nat.mul_one, List.getElem?_take_of_lt hj, Array.getElem?_toList, q8 j hj, h1, strsOf, strsOf, List.map_append, List.getElem?_append_left (by simpa using hj)]
 ·rw [List.getElem?_eq_none (by simp; omega), List.getElem?_eq_none (by rw [strsOf, List.length_map]; omega)]
attribute [local irreducible] Br Rn RnU Cl RdG CpG Ld Rd Lp Dr Oth Cut fin Fits Eng.Enters Md NA
theorem names1_enters : Eng.Enters Tryz.prog 67 := enters_mk fun _ _ => by kernel_rfl
theorem idxS_enters : Eng.Enters Tryz.prog 101 := enters_mk fun _ _ => by kernel_rfl
theorem del_enters : Eng.Enters Tryz.prog 66 := enters_mk fun _ _ => by kernel_rfl
set_option maxRecDepth 100000 in
theorem names1_any (s : List UInt8) (w : World) :
  Calls Tryz.prog 67 #[.string (Str s)] w fun e w' => e = .returned (.bool (decide (s = []))) ∧ Fr (fun _ => False) w w' := by
 refine enter (cx := CX 5 [] w) [(0, .string (Str s))] tab_ok Tryz.func67 rfl rfl rfl rfl (MemOk.nil w _) ?_
 conv => whnf
 (repeat ((first | refine stp (by (repeat constructor); first | done | fail) ?_ | refine stn (by (repeat constructor); first | done | fail) ?_ | refine sto (by (repeat constructor); first | done | fail) (by first | omega | (simp only; omega)) ?_ | refine .mk fun Ap capp => ?_ | refine ⟨?_, trivial⟩ | intro _); conv => whnf))
 refine fin1 rfl rfl (fun w' hm => ⟨?_, hm.fr⟩)
 have : decide (Str s = ⟨#[]⟩) = decide (s = []) := decide_eq_decide.2 (Str.inj (l := s) (k := []))
 rw [← this]
/-- A name that is not empty. -/
def neB (s : List UInt8) : Bool := !decide (s = [])
set_option maxRecDepth 100000 in
theorem idxS_any (A : Option Addr) (cap : Nat) (l : List (List UInt8)) (w : World) (hn : l.length ≤ 1048576) (hm : MemOk w (Foot (StM A cap l)) (StM A cap l) w) :
  Ctr Tryz.prog 101 [.slice A l.length cap, .func (.func 67) #[] #[]] (StM A cap l) (fun e m' => e = .returned (.int .i64 (if (l.takeWhile neB).length < l.length then ((l.takeWhile neB).length : Nat) else -1)) ∧ m' = StM A cap l) w := by
 have hplA : 0 < l.length → Pl A := fun h => by
  obtain ⟨b, e, _⟩ := row_cell (hm.ok _ (List.mem_cons_self ..)) (strs_get h)
  exact ⟨b, 0, e⟩
 refine enter (cx := CXS 19 [] w (Foot (StM A cap l))) [(0, .slice A l.length cap), (1, .func (.func 67) #[] #[])] tab_ok Tryz.func101 rfl rfl rfl rfl hm ?_
 conv => whnf
 (repeat ((first | refine stp (by (repeat constructor); first | done | fail) ?_ | refine stn (by (repeat constructor); first | done | fail) ?_ | refine sto (by (repeat constructor); first | done | fail) (by first | omega | (simp only; omega)) ?_ | refine .mk fun Ap capp => ?_ | refine ⟨?_, trivial⟩ | intro _); conv => whnf))
 refine lp tab_ok (γ := Nat) (fun i => i ≤ l.length ∧ ∀ x ∈ l.take i, neB x = true) (fun i => [(8, .int .i64 i), (7, .int .i64 l.length), (0, .slice A l.length cap), (1, .func (.func 67) #[] #[])]) (fun _ => StM A cap l) (fun i => l.length - i) 0 ⟨by omega, fun x h => by simp at h⟩ ⟨rfl, rfl, rfl, rfl, trivial⟩ (SubM.refl _ _) ?_
 rintro i ⟨hi, hok⟩
 change XC _ _ _ [(8, .int .i64 (i : Int)), (7, .int .i64 l.length), (0, .slice A l.length cap), (1, .func (.func 67) #[] #[])] (StM A cap l)
 conv => whnf
 refine br_d (fun hlt => ?_) (fun hge => ?_)
 ·have hlt' : i < l.length := by omega
  have hx : l[i]? = some (l.getD i []) := by rw [List.getD, List.getElem?_eq_getElem hlt']; rfl
  conv => whnf
  (repeat ((first | refine stp (by (repeat constructor); first | done | fail) ?_ | refine stn (by (repeat constructor); first | done | fail) ?_ | refine sto (by (repeat constructor); first | done | fail) (by first | omega | (simp only; omega)) ?_ | refine .mk fun Ap capp => ?_ | refine ⟨?_, trivial⟩ | intro _); conv => whnf))
  refine And.intro ⟨by omega, by omega, hplA (by omega)⟩ ?_
  conv => whnf
  refine rn_load (v := .string (Str (l.getD i []))) (ldR tab_ok .here rfl rfl (strs_get (i := i) hlt')) ?_
  conv => whnf
  (repeat ((first | refine stp (by (repeat constructor); first | done | fail) ?_ | refine stn (by (repeat constructor); first | done | fail) ?_ | refine sto (by (repeat constructor); first | done | fail) (by first | omega | (simp only; omega)) ?_ | refine .mk fun Ap capp => ?_ | refine ⟨?_, trivial⟩ | intro _); conv => whnf))
  refine ⟨names1_enters, cl_same _ (fun w' hm' => names1_any (l.getD i []) w') ?_⟩
  by_cases h0 : l.getD i [] = []
  ·rw [decide_eq_true h0]
   conv => whnf
   (repeat ((first | refine stp (by (repeat constructor); first | done | fail) ?_ | refine stn (by (repeat constructor); first | done | fail) ?_ | refine sto (by (repeat constructor); first | done | fail) (by first | omega | (simp only; omega)) ?_ | refine .mk fun Ap capp => ?_ | refine ⟨?_, trivial⟩ | intro _); conv => whnf))
   refine br_t rfl ?_
   conv => whnf
   (repeat ((first | refine stp (by (repeat constructor); first | done | fail) ?_ | refine stn (by (repeat constructor); first | done | fail) ?_ | refine sto (by (repeat constructor); first | done | fail) (by first | omega | (simp only; omega)) ?_ | refine .mk fun Ap capp => ?_ | refine ⟨?_, trivial⟩ | intro _); conv => whnf))
   have hk : (l.takeWhile neB).length = i := tw_at neB l i _ hx hok (by rw [neB, decide_eq_true h0]; rfl)
   refine fin1 rfl rfl (fun w' hm => ⟨_, ⟨?_, rfl⟩, hm⟩)
   rw [hk, if_pos hlt']
  ·rw [decide_eq_false h0]
   conv => whnf
   (repeat ((first | refine stp (by (repeat constructor); first | done | fail) ?_ | refine stn (by (repeat constructor); first | done | fail) ?_ | refine sto (by (repeat constructor); first | done | fail) (by first | omega | (simp only; omega)) ?_ | refine .mk fun Ap capp => ?_ | refine ⟨?_, trivial⟩ | intro _); conv => whnf))
   refine br_f rfl ?_
   conv => whnf
   (repeat ((first | refine stp (by (repeat constructor); first | done | fail) ?_ | refine stn (by (repeat constructor); first | done | fail) ?_ | refine sto (by (repeat constructor); first | done | fail) (by first | omega | (simp only; omega)) ?_ | refine .mk fun Ap capp => ?_ | refine ⟨?_, trivial⟩ | intro _); conv => whnf))
   refine ⟨i + 1, ⟨by omega, fun y hy => ?_⟩, by omega, ⟨rfl, rfl, rfl, rfl, trivial⟩, SubM.refl _ _⟩
   rw [List.take_add_one, hx] at hy
   rcases List.mem_append.1 hy with hy | hy
   ·exact hok y hy
   ·simp only [Option.toList_some, List.mem_singleton] at hy
    subst hy
    rw [neB, decide_eq_false h0]; rfl
 ·conv => whnf
  (repeat ((first | refine stp (by (repeat constructor); first | done | fail) ?_ | refine stn (by (repeat constructor); first | done | fail) ?_ | refine sto (by (repeat constructor); first | done | fail) (by first | omega | (simp only; omega)) ?_ | refine .mk fun Ap capp => ?_ | refine ⟨?_, trivial⟩ | intro _); conv => whnf))
  refine fin1 rfl rfl (fun w' hm => ⟨_, ⟨?_, rfl⟩, hm⟩)
  rw [List.take_of_length_le (by omega)] at hok
  rw [tw_all neB l hok, if_neg (by omega)]
theorem take_filter_succ {l : List (List UInt8)} {j : Nat} {x : List UInt8} (h : l[j]? = some x) : (l.take (j + 1)).filter neB = (l.take j).filter neB ++ (if neB x then [x] else []) := by
 rw [List.take_add_one, h]
 simp only [Option.toList_some, List.filter_append]
 congr 1
 cases hx : neB x <;> simp [hx]
theorem tw_take {α : Type} (p : α → Bool) : ∀ (l : List α), l.takeWhile p = l.take (l.takeWhile p).length
 | [] => rfl
 | y :: l => by
  rw [List.takeWhile_cons]
  split
  ·rw [List.length_cons, List.take_succ_cons, ← tw_take p l]
  ·rfl
theorem tw_fail {α : Type} (p : α → Bool) : ∀ (l : List α), (l.takeWhile p).length < l.length → ∃ x, l[(l.takeWhile p).length]? = some x ∧ p x = false
 | [], h => by simp at h
 | y :: l, h => by
  rw [List.takeWhile_cons] at h ⊢
  cases hy : p y with
  | true =>
   simp only [hy, if_true, List.length_cons] at h ⊢
   obtain ⟨x, h1, h2⟩ := tw_fail p l (by omega)
   exact ⟨x, by simpa using h1, h2⟩
  | false => exact ⟨y, by simp, hy⟩
theorem split_at {l : List (List UInt8)} {j : Nat} {x : List UInt8} (h : l[j]? = some x) : l.drop j = x :: l.drop (j + 1) := by
 obtain ⟨h1, h2⟩ := List.getElem?_eq_some_iff.1 h
 rw [List.drop_eq_getElem_cons h1, h2]
set_option maxRecDepth 100000 in
set_option maxHeartbeats 1000000 in
theorem del_any (A : Option Addr) (cap : Nat) (l : List (List UInt8)) (w : World) (hn : l.length ≤ 1048576) (hm : MemOk w (Foot (StM A cap l)) (StM A cap l) w) :
  Ctr Tryz.prog 66 [.slice A l.length cap, .func (.func 67) #[] #[]] (StM A cap l) (fun e m' => ∃ A' cap', e = .returned (.slice A' (l.filter neB).length cap') ∧ m' = StM A' cap' (l.filter neB)) w := by
 refine enter (cx := CXS 42 [] w (Foot (StM A cap l))) [(0, .slice A l.length cap), (1, .func (.func 67) #[] #[])] tab_ok Tryz.func66 rfl rfl rfl rfl hm ?_
 conv => whnf
 refine ⟨idxS_enters, cl_mem (m1 := StM A cap l) (by (repeat constructor); first | done | fail) (fun w' hm' => idxS_any A cap l w' hn hm'.part) ?_⟩
 rintro e m' ⟨rfl, rfl⟩
 by_cases hbad : (l.takeWhile neB).length < l.length
 ·rw [if_pos hbad]
  have hpos : 0 < l.length := by omega
  obtain ⟨b, rfl, _⟩ := row_cell (hm.ok _ (List.mem_cons_self ..)) (strs_get hpos)
  obtain ⟨_, _, hcap⟩ := holds_row hm
  obtain ⟨x0, hx0, hx0n⟩ := tw_fail neB l hbad
  have htk := tw_take neB l
  have htm := tw_mem neB l
  generalize hk : (l.takeWhile neB).length = k at hbad hx0 htk
  have hfk : (l.take (k + 1)).filter neB = l.take k := by
   rw [take_filter_succ hx0, hx0n, if_neg (by simp), List.append_nil, List.filter_eq_self]
   intro y hy
   rw [← htk] at hy
   exact htm y hy
  conv => whnf
  refine br_f (decide_eq_false (by omega)) ?_
  conv => whnf
  (repeat ((first | refine stp (by (repeat constructor); first | done | fail) ?_ | refine stn (by (repeat constructor); first | done | fail) ?_ | refine sto (by (repeat constructor); first | done | fail) (by first | omega | (simp only; omega)) ?_ | refine .mk fun Ap capp => ?_ | refine ⟨?_, trivial⟩ | intro _); conv => whnf))
  refine lp tab_ok (γ := Nat × List (List UInt8)) (fun g => g.1 ≤ l.length ∧ ((l.take g.1).filter neB).length + g.2.length = g.1 ∧ 0 < g.2.length) (fun g => [(6, .int .i64 g.1), (5, .int .i64 ((l.take g.1).filter neB).length), (0, .slice (some ⟨b, 0, none⟩) l.length cap), (1, .func (.func 67) #[] #[])])
   (fun g => [.row (some ⟨b, 0, none⟩) cap l.length 9 1 (strsOf ((l.take g.1).filter neB ++ (g.2 ++ l.drop g.1)))]) (fun g => l.length - g.1) (k + 1, [x0]) ?_ ?_ ?_ ?_
  ·exact ⟨by simp only; omega, by simp only [hfk, List.length_take, List.length_singleton]; omega, by simp⟩
  ·refine ⟨rfl, ?_, rfl, rfl, trivial⟩
   simp only [hfk, List.length_take, Nat.min_eq_left (Nat.le_of_lt hbad)]
   rfl
  ·simp only [hfk]
   rw [show l.take k ++ ([x0] ++ l.drop (k + 1)) = l from by rw [List.singleton_append, ← split_at hx0, List.take_append_drop]]
   exact SubM.sel (by (repeat constructor); first | done | fail)
  ·rintro ⟨j, G⟩ ⟨hj, hlen, hG⟩
   simp only at hj hlen hG
   change XC _ _ _ [(6, .int .i64 (j : Int)), (5, .int .i64 ((l.take j).filter neB).length), (0, .slice (some ⟨b, 0, none⟩) l.length cap), (1, .func (.func 67) #[] #[])] [.row (some ⟨b, 0, none⟩) cap l.length 9 1 (strsOf ((l.take j).filter neB ++ (G ++ l.drop j)))]
   generalize hF : (l.take j).filter neB = F at hlen ⊢
   conv => whnf
   refine br_d (fun hlt => ?_) (fun hge => ?_)
   ·have hlt' : j < l.length := by omega
    have hx : l[j]? = some (l.getD j []) := by rw [List.getD, List.getElem?_eq_getElem hlt']; rfl
    have hfl := List.length_filter_le neB (l.take j)
    have hgj : (strsOf (F ++ (G ++ l.drop j)))[j]? = some (.string (Str (l.getD j []))) := by
     rw [strsOf, List.getElem?_map, ← List.append_assoc, List.getElem?_append_right (by simp; omega)]
     simp only [List.length_append, hlen, Nat.sub_self, List.getElem?_drop, Nat.add_zero, hx, Option.map_some]
    conv => whnf
    (repeat ((first | refine stp (by (repeat constructor); first | done | fail) ?_ | refine stn (by (repeat constructor); first | done | fail) ?_ | refine sto (by (repeat constructor); first | done | fail) (by first | omega | (simp only; omega)) ?_ | refine .mk fun Ap capp => ?_ | refine ⟨?_, trivial⟩ | intro _); conv => whnf))
    refine And.intro ⟨by omega, by omega, Pl.mk _ _⟩ ?_
    conv => whnf
    refine rn_load (v := .string (Str (l.getD j []))) (ldR tab_ok .here rfl rfl hgj) ?_
    conv => whnf
    (repeat ((first | refine stp (by (repeat constructor); first | done | fail) ?_ | refine stn (by (repeat constructor); first | done | fail) ?_ | refine sto (by (repeat constructor); first | done | fail) (by first | omega | (simp only; omega)) ?_ | refine .mk fun Ap capp => ?_ | refine ⟨?_, trivial⟩ | intro _); conv => whnf))
    refine ⟨names1_enters, cl_same _ (fun w' hm' => names1_any (l.getD j []) w') ?_⟩
    by_cases h0 : l.getD j [] = []
    ·rw [decide_eq_true h0]
     conv => whnf
     (repeat ((first | refine stp (by (repeat constructor); first | done | fail) ?_ | refine stn (by (repeat constructor); first | done | fail) ?_ | refine sto (by (repeat constructor); first | done | fail) (by first | omega | (simp only; omega)) ?_ | refine .mk fun Ap capp => ?_ | refine ⟨?_, trivial⟩ | intro _); conv => whnf))
     refine br_f rfl ?_
     conv => whnf
     (repeat ((first | refine stp (by (repeat constructor); first | done | fail) ?_ | refine stn (by (repeat constructor); first | done | fail) ?_ | refine sto (by (repeat constructor); first | done | fail) (by first | omega | (simp only; omega)) ?_ | refine .mk fun Ap capp => ?_ | refine ⟨?_, trivial⟩ | intro _); conv => whnf))
     refine ⟨(j + 1, G ++ [l.getD j []]), ⟨by simp only; omega, ?_, by simp⟩, by simp only; omega, ⟨rfl, ?_, rfl, rfl, trivial⟩, ?_⟩
     ·simp only [take_filter_succ hx, hF]
      rw [h0, show neB [] = false from rfl, if_neg (by simp)]
      simp only [List.append_nil, List.length_append, List.length_singleton]; omega
     ·simp only [take_filter_succ hx, hF]
      rw [h0, show neB [] = false from rfl, if_neg (by simp), List.append_nil]
      rfl
     ·simp only [take_filter_succ hx, hF]
      rw [show neB (l.getD j []) = false from by rw [h0]; rfl, if_neg (by simp), List.append_nil, split_at hx]
      simp only [List.append_assoc, List.singleton_append]
      exact SubM.refl _ _
    ·rw [decide_eq_false h0]
     conv => whnf
     (repeat ((first | refine stp (by (repeat constructor); first | done | fail) ?_ | refine stn (by (repeat constructor); first | done | fail) ?_ | refine sto (by (repeat constructor); first | done | fail) (by first | omega | (simp only; omega)) ?_ | refine .mk fun Ap capp => ?_ | refine ⟨?_, trivial⟩ | intro _); conv => whnf))
     refine br_t rfl ?_
     conv => whnf
     (repeat ((first | refine stp (by (repeat constructor); first | done | fail) ?_ | refine stn (by (repeat constructor); first | done | fail) ?_ | refine sto (by (repeat constructor); first | done | fail) (by first | omega | (simp only; omega)) ?_ | refine .mk fun Ap capp => ?_ | refine ⟨?_, trivial⟩ | intro _); conv => whnf))
     refine And.intro ⟨by omega, by omega, Pl.mk _ _⟩ ?_
     conv => whnf
     have hne : neB (l.getD j []) = true := by rw [neB, decide_eq_false h0]; rfl
     obtain ⟨g0, G', rfl⟩ : ∃ g0 G', G = g0 :: G' := by
      cases G with
      | nil => cases hG
      | cons g0 G' => exact ⟨g0, G', rfl⟩
     refine rn_storeR (off := F.length) (xs' := strsOf ((F ++ [l.getD j []]) ++ ((G' ++ [l.getD j []]) ++ l.drop (j + 1)))) tab_ok rfl .here rfl rfl (by show F.length + 1 ≤ l.length * 1; omega) (Nat.one_pos) ?_ ?_
     ·show List.set (strsOf (F ++ (g0 :: G' ++ l.drop j))) F.length _ = _
      rw [split_at hx]
      simp [strsOf, List.set_append]
     ·conv => whnf
      (repeat ((first | refine stp (by (repeat constructor); first | done | fail) ?_ | refine stn (by (repeat constructor); first | done | fail) ?_ | refine sto (by (repeat constructor); first | done | fail) (by first | omega | (simp only; omega)) ?_ | refine .mk fun Ap capp => ?_ | refine ⟨?_, trivial⟩ | intro _); conv => whnf))
      refine ⟨(j + 1, G' ++ [l.getD j []]), ⟨by simp only; omega, ?_, by simp⟩, by simp only; omega, ⟨rfl, ?_, rfl, rfl, trivial⟩, ?_⟩
      ·simp only [take_filter_succ hx, hF, hne, if_true, List.length_append, List.length_singleton]
       simp only [List.length_cons] at hlen
       omega
      ·simp only [take_filter_succ hx, hF, hne, if_true, List.length_append, List.length_singleton]
       rfl
      ·simp only [take_filter_succ hx, hF, hne, if_true]
       exact SubM.refl _ _
   ·have hjl : j = l.length := by omega
    conv => whnf
    (repeat ((first | refine stp (by (repeat constructor); first | done | fail) ?_ | refine stn (by (repeat constructor); first | done | fail) ?_ | refine sto (by (repeat constructor); first | done | fail) (by first | omega | (simp only; omega)) ?_ | refine .mk fun Ap capp => ?_ | refine ⟨?_, trivial⟩ | intro _); conv => whnf))
    refine And.intro ⟨by omega, by omega, by omega, .inr (Pl.mk _ _)⟩ ?_
    conv => whnf
    (repeat ((first | refine stp (by (repeat constructor); first | done | fail) ?_ | refine stn (by (repeat constructor); first | done | fail) ?_ | refine sto (by (repeat constructor); first | done | fail) (by first | omega | (simp only; omega)) ?_ | refine .mk fun Ap capp => ?_ | refine ⟨?_, trivial⟩ | intro _); conv => whnf))
    have eC : cutA (some ⟨b, 0, none⟩) cap ((F.length : Int).toNat) ty9.cells = some ⟨b, F.length, none⟩ := by
     show cutA (some ⟨b, 0, none⟩) cap F.length 1 = _
     unfold cutA
     rw [if_neg (by omega), mulC_eq, Nat.mul_one]
     show some (⟨b, 0 + F.length, none⟩ : Addr) = _
     rw [Nat.zero_add]
    have eL : (l.length : Int).toNat - (F.length : Int).toNat = G.length := by omega
    have eD : l.drop j = [] := List.drop_eq_nil_of_le (by omega)
    rw [eC, eL, eD, List.append_nil]
    refine rn_clear rfl .here (by omega) hG ?_
    conv => whnf
    (repeat ((first | refine stp (by (repeat constructor); first | done | fail) ?_ | refine stn (by (repeat constructor); first | done | fail) ?_ | refine sto (by (repeat constructor); first | done | fail) (by first | omega | (simp only; omega)) ?_ | refine .mk fun Ap capp => ?_ | refine ⟨?_, trivial⟩ | intro _); conv => whnf))
    refine And.intro ⟨by omega, by omega, by omega, .inr (Pl.mk _ _)⟩ ?_
    conv => whnf
    (repeat ((first | refine stp (by (repeat constructor); first | done | fail) ?_ | refine stn (by (repeat constructor); first | done | fail) ?_ | refine sto (by (repeat constructor); first | done | fail) (by first | omega | (simp only; omega)) ?_ | refine .mk fun Ap capp => ?_ | refine ⟨?_, trivial⟩ | intro _); conv => whnf))
    have hres : l.filter neB = F := by rw [← hF, List.take_of_length_le (by omega)]
    have hcut : cutA (some ⟨b, 0, none⟩) cap (Int.toNat 0) ty9.cells = some ⟨b, 0, none⟩ := by unfold cutA; split <;> rfl
    refine fin1 rfl rfl (fun w' hm => ⟨_, ⟨some ⟨b, 0, none⟩, cap, ?_, ?_⟩, hm⟩)
    ·rw [hres, hcut]; rfl
    ·rw [hres]
 ·rw [if_neg hbad]
  conv => whnf
  (repeat ((first | refine stp (by (repeat constructor); first | done | fail) ?_ | refine stn (by (repeat constructor); first | done | fail) ?_ | refine sto (by (repeat constructor); first | done | fail) (by first | omega | (simp only; omega)) ?_ | refine .mk fun Ap capp => ?_ | refine ⟨?_, trivial⟩ | intro _); conv => whnf))
  refine br_t rfl ?_
  conv => whnf
  (repeat ((first | refine stp (by (repeat constructor); first | done | fail) ?_ | refine stn (by (repeat constructor); first | done | fail) ?_ | refine sto (by (repeat constructor); first | done | fail) (by first | omega | (simp only; omega)) ?_ | refine .mk fun Ap capp => ?_ | refine ⟨?_, trivial⟩ | intro _); conv => whnf))
  have hall : l.filter neB = l := by
   rw [List.filter_eq_self]
   intro x hx
   have h1 := (List.takeWhile_sublist neB (l := l))
   have h2 := h1.eq_of_length (by have := h1.length_le; omega)
   exact tw_mem neB l x (by rw [h2]; exact hx)
  refine fin1 rfl rfl (fun w' hm => ⟨_, ⟨A, cap, ?_, ?_⟩, hm⟩)
  ·rw [hall]
  ·rw [hall]; rfl
end Go.Proofs.YtbfbjgakmnckbaaGreatDoor
namespace Go.Proofs.YtbfbjgakmnckbaaGreatDoor
open Go Go.RowKit Eng
attribute [local irreducible] Br Rn RnU Cl RdG CpG Ld Rd Lp Dr Oth Cut fin Fits Eng.Enters Md NA
theorem snames_enters : Eng.Enters Tryz.prog 31 := enters_mk fun _ _ => by kernel_rfl
/-- The names that the acts name, one behind another. -/
def rawNames (l : List PAct) : List (List UInt8) := l.flatMap fun a => bs a.name :: (if twoK a.kind then [bs a.other] else [])
def namesS (l : List PAct) : List (List UInt8) := (Lib.compact (sortL (rawNames l))).filter neB
theorem rawNames_take {l : List PAct} {i : Nat} {a : PAct} (h : l[i]? = some a) : rawNames (l.take (i + 1)) = rawNames (l.take i) ++ (bs a.name :: (if twoK a.kind then [bs a.other] else [])) := by
 rw [List.take_add_one, h]; simp [rawNames]
theorem stm_eq {A : Option Addr} {cap n : Nat} {l : List (List UInt8)} {xs : List Value} (h : l.length = n) (hx : strsOf l = xs) : StM A cap l = [.row A cap n 9 1 xs] := by rw [StM, h, hx]
theorem strsOf_app (a b : List (List UInt8)) : strsOf (a ++ b) = strsOf a ++ strsOf b := by simp [strsOf]
set_option maxRecDepth 100000 in
set_option maxHeartbeats 1000000 in
theorem snames_any (A : Option Addr) (c : Nat) (L : List LA) (w : World) (hL : ActsIn w A L) (hn : L.length ≤ 65536) :
  Ctr Tryz.prog 31 [.slice A L.length c] [] (fun e m' => ∃ A' c', e = .returned (.slice A' (namesS (L.map LA.a)).length c') ∧ m' = StM A' c' (namesS (L.map LA.a))) w := by
 refine enter (cx := CXS 36 [] w (Foot [])) [(0, .slice A L.length c)] tab_ok Tryz.func31 rfl rfl rfl rfl (MemOk.nil w _) ?_
 conv => whnf
 (repeat ((first | refine stp (by (repeat constructor); first | done | fail) ?_ | refine stn (by (repeat constructor); first | done | fail) ?_ | refine sto (by (repeat constructor); first | done | fail) (by first | omega | (simp only; omega)) ?_ | refine .mk fun Ap capp => ?_ | refine ⟨?_, trivial⟩ | intro _); conv => whnf))
 refine lp tab_ok (γ := Nat × Option Addr × Nat) (fun g => g.1 ≤ L.length ∧ (rawNames ((L.map LA.a).take g.1)).length ≤ 2 * g.1) (fun g => [(8, .int .i64 g.1), (6, .slice A L.length c), (7, .int .i64 L.length), (3, .slice g.2.1 (rawNames ((L.map LA.a).take g.1)).length g.2.2)]) (fun g => StM g.2.1 g.2.2 (rawNames ((L.map LA.a).take g.1))) (fun g => L.length - g.1) (0, none, 0) ⟨by omega, by simp [rawNames]⟩ ⟨rfl, rfl, rfl, rfl, trivial⟩ (SubM.row0 (SubM.refl _ _) 9 1) ?_
 rintro ⟨i, oA, oc⟩ ⟨hi, hlen⟩
 simp only at hi hlen
 change XC _ _ _ [(8, .int .i64 (i : Int)), (6, .slice A L.length c), (7, .int .i64 L.length), (3, .slice oA (rawNames ((L.map LA.a).take i)).length oc)] (StM oA oc (rawNames ((L.map LA.a).take i)))
 conv => whnf
 refine br_d (fun hlt => ?_) (fun hge => ?_)
 ·have hlt' : i < L.length := by omega
  have hx := List.getElem?_eq_getElem hlt'
  have hpl := hL.plain (by omega)
  generalize L[i] = x at hx
  have hxa : (L.map LA.a)[i]? = some x.a := by rw [List.getElem?_map, hx]; rfl
  have hstep := rawNames_take hxa
  generalize rawNames ((L.map LA.a).take i) = l at hlen hstep ⊢
  conv => whnf
  refine And.intro ⟨by omega, by omega, hpl⟩ ?_
  conv => whnf
  refine rn_load (hL.ld rfl rfl foot_no hx) ?_
  conv => whnf
  intro aB
  conv => whnf
  (repeat ((first | refine stp (by (repeat constructor); first | done | fail) ?_ | refine stn (by (repeat constructor); first | done | fail) ?_ | refine sto (by (repeat constructor); first | done | fail) (by first | omega | (simp only; omega)) ?_ | refine .mk fun Ap capp => ?_ | refine ⟨?_, trivial⟩ | intro _); conv => whnf))
  refine br_d (fun h1 => ?_) (fun h1 => ?_)
  ·conv => whnf
   (repeat ((first | refine stp (by (repeat constructor); first | done | fail) ?_ | refine stn (by (repeat constructor); first | done | fail) ?_ | refine sto (by (repeat constructor); first | done | fail) (by first | omega | (simp only; omega)) ?_ | refine .mk fun Ap capp => ?_ | refine ⟨?_, trivial⟩ | intro _); conv => whnf))
   refine br_t (decide_eq_true h1) ?_
   conv => whnf
   (repeat ((first | refine stp (by (repeat constructor); first | done | fail) ?_ | refine stn (by (repeat constructor); first | done | fail) ?_ | refine sto (by (repeat constructor); first | done | fail) (by first | omega | (simp only; omega)) ?_ | refine .mk fun Ap capp => ?_ | refine ⟨?_, trivial⟩ | intro _); conv => whnf))
   have hst : rawNames ((L.map LA.a).take (i + 1)) = l ++ [bs x.a.name, bs x.a.other] := by rw [hstep, if_pos (by simp [twoK, h1])]
   have e2 : strsOf (l ++ [bs x.a.name, bs x.a.other]) = strsOf l ++ [.string x.a.name] ++ [.string x.a.other] := by rw [strsOf_app]; simp [strsOf, Str_bs]
   refine ⟨(i + 1, Ap, capp), ⟨by simp only; omega, by simp only [hst, List.length_append, List.length_cons, List.length_nil]; omega⟩, by simp only; omega, ⟨rfl, rfl, rfl, ?_, trivial⟩, ?_⟩
   ·simp only [hst, List.length_append, List.length_cons, List.length_nil]; rfl
   ·show SubM _ _ (StM Ap capp (rawNames ((L.map LA.a).take (i + 1))))
    rw [stm_eq (by rw [hst, List.length_append]) (hst ▸ e2)]
    exact SubM.sel (by (repeat constructor); first | done | fail)
  ·conv => whnf
   (repeat ((first | refine stp (by (repeat constructor); first | done | fail) ?_ | refine stn (by (repeat constructor); first | done | fail) ?_ | refine sto (by (repeat constructor); first | done | fail) (by first | omega | (simp only; omega)) ?_ | refine .mk fun Ap capp => ?_ | refine ⟨?_, trivial⟩ | intro _); conv => whnf))
   refine br_d (fun h19 => ?_) (fun h19 => ?_)
   ·conv => whnf
    (repeat ((first | refine stp (by (repeat constructor); first | done | fail) ?_ | refine stn (by (repeat constructor); first | done | fail) ?_ | refine sto (by (repeat constructor); first | done | fail) (by first | omega | (simp only; omega)) ?_ | refine .mk fun Ap capp => ?_ | refine ⟨?_, trivial⟩ | intro _); conv => whnf))
    refine br_t (decide_eq_true h19) ?_
    conv => whnf
    (repeat ((first | refine stp (by (repeat constructor); first | done | fail) ?_ | refine stn (by (repeat constructor); first | done | fail) ?_ | refine sto (by (repeat constructor); first | done | fail) (by first | omega | (simp only; omega)) ?_ | refine .mk fun Ap capp => ?_ | refine ⟨?_, trivial⟩ | intro _); conv => whnf))
    have hst : rawNames ((L.map LA.a).take (i + 1)) = l ++ [bs x.a.name, bs x.a.other] := by rw [hstep, if_pos (by simp [twoK, h19])]
    have e2 : strsOf (l ++ [bs x.a.name, bs x.a.other]) = strsOf l ++ [.string x.a.name] ++ [.string x.a.other] := by rw [strsOf_app]; simp [strsOf, Str_bs]
    refine ⟨(i + 1, Ap, capp), ⟨by simp only; omega, by simp only [hst, List.length_append, List.length_cons, List.length_nil]; omega⟩, by simp only; omega, ⟨rfl, rfl, rfl, ?_, trivial⟩, ?_⟩
    ·simp only [hst, List.length_append, List.length_cons, List.length_nil]; rfl
    ·show SubM _ _ (StM Ap capp (rawNames ((L.map LA.a).take (i + 1))))
     rw [stm_eq (by rw [hst, List.length_append]) (hst ▸ e2)]
     exact SubM.sel (by (repeat constructor); first | done | fail)
   ·conv => whnf
    (repeat ((first | refine stp (by (repeat constructor); first | done | fail) ?_ | refine stn (by (repeat constructor); first | done | fail) ?_ | refine sto (by (repeat constructor); first | done | fail) (by first | omega | (simp only; omega)) ?_ | refine .mk fun Ap capp => ?_ | refine ⟨?_, trivial⟩ | intro _); conv => whnf))
    refine br_d (fun h20 => ?_) (fun h20 => ?_)
    ·conv => whnf
     (repeat ((first | refine stp (by (repeat constructor); first | done | fail) ?_ | refine stn (by (repeat constructor); first | done | fail) ?_ | refine sto (by (repeat constructor); first | done | fail) (by first | omega | (simp only; omega)) ?_ | refine .mk fun Ap capp => ?_ | refine ⟨?_, trivial⟩ | intro _); conv => whnf))
     refine br_t (decide_eq_true h20) ?_
     conv => whnf
     (repeat ((first | refine stp (by (repeat constructor); first | done | fail) ?_ | refine stn (by (repeat constructor); first | done | fail) ?_ | refine sto (by (repeat constructor); first | done | fail) (by first | omega | (simp only; omega)) ?_ | refine .mk fun Ap capp => ?_ | refine ⟨?_, trivial⟩ | intro _); conv => whnf))
     have hst : rawNames ((L.map LA.a).take (i + 1)) = l ++ [bs x.a.name, bs x.a.other] := by rw [hstep, if_pos (by simp [twoK, h20])]
     have e2 : strsOf (l ++ [bs x.a.name, bs x.a.other]) = strsOf l ++ [.string x.a.name] ++ [.string x.a.other] := by rw [strsOf_app]; simp [strsOf, Str_bs]
     refine ⟨(i + 1, Ap, capp), ⟨by simp only; omega, by simp only [hst, List.length_append, List.length_cons, List.length_nil]; omega⟩, by simp only; omega, ⟨rfl, rfl, rfl, ?_, trivial⟩, ?_⟩
     ·simp only [hst, List.length_append, List.length_cons, List.length_nil]; rfl
     ·show SubM _ _ (StM Ap capp (rawNames ((L.map LA.a).take (i + 1))))
      rw [stm_eq (by rw [hst, List.length_append]) (hst ▸ e2)]
      exact SubM.sel (by (repeat constructor); first | done | fail)
    ·conv => whnf
     (repeat ((first | refine stp (by (repeat constructor); first | done | fail) ?_ | refine stn (by (repeat constructor); first | done | fail) ?_ | refine sto (by (repeat constructor); first | done | fail) (by first | omega | (simp only; omega)) ?_ | refine .mk fun Ap capp => ?_ | refine ⟨?_, trivial⟩ | intro _); conv => whnf))
     refine br_d (fun h21 => ?_) (fun h21 => ?_)
     ·conv => whnf
      (repeat ((first | refine stp (by (repeat constructor); first | done | fail) ?_ | refine stn (by (repeat constructor); first | done | fail) ?_ | refine sto (by (repeat constructor); first | done | fail) (by first | omega | (simp only; omega)) ?_ | refine .mk fun Ap capp => ?_ | refine ⟨?_, trivial⟩ | intro _); conv => whnf))
      have hst : rawNames ((L.map LA.a).take (i + 1)) = l ++ [bs x.a.name, bs x.a.other] := by rw [hstep, if_pos (by simp [twoK, h21])]
      have e2 : strsOf (l ++ [bs x.a.name, bs x.a.other]) = strsOf l ++ [.string x.a.name] ++ [.string x.a.other] := by rw [strsOf_app]; simp [strsOf, Str_bs]
      refine ⟨(i + 1, Ap, capp), ⟨by simp only; omega, by simp only [hst, List.length_append, List.length_cons, List.length_nil]; omega⟩, by simp only; omega, ⟨rfl, rfl, rfl, ?_, trivial⟩, ?_⟩
      ·simp only [hst, List.length_append, List.length_cons, List.length_nil]; rfl
      ·show SubM _ _ (StM Ap capp (rawNames ((L.map LA.a).take (i + 1))))
       rw [stm_eq (by rw [hst, List.length_append]) (hst ▸ e2)]
       exact SubM.sel (by (repeat constructor); first | done | fail)
     ·conv => whnf
      (repeat ((first | refine stp (by (repeat constructor); first | done | fail) ?_ | refine stn (by (repeat constructor); first | done | fail) ?_ | refine sto (by (repeat constructor); first | done | fail) (by first | omega | (simp only; omega)) ?_ | refine .mk fun Ap capp => ?_ | refine ⟨?_, trivial⟩ | intro _); conv => whnf))
      have hst : rawNames ((L.map LA.a).take (i + 1)) = l ++ [bs x.a.name] := by rw [hstep, if_neg (by simp [twoK, h1, h19, h20, h21])]
      have e2 : strsOf (l ++ [bs x.a.name]) = strsOf l ++ [.string x.a.name] := by rw [strsOf_app]; simp [strsOf, Str_bs]
      refine ⟨(i + 1, Ap, capp), ⟨by simp only; omega, by simp only [hst, List.length_append, List.length_cons, List.length_nil]; omega⟩, by simp only; omega, ⟨rfl, rfl, rfl, ?_, trivial⟩, ?_⟩
      ·simp only [hst, List.length_append, List.length_cons, List.length_nil]; rfl
      ·show SubM _ _ (StM Ap capp (rawNames ((L.map LA.a).take (i + 1))))
       rw [stm_eq (by rw [hst, List.length_append]) (hst ▸ e2)]
       exact SubM.sel (by (repeat constructor); first | done | fail)
 ·have hil : i = L.length := by omega
  rw [List.take_of_length_le (by simp; omega)] at hlen ⊢
  conv => whnf
  (repeat ((first | refine stp (by (repeat constructor); first | done | fail) ?_ | refine stn (by (repeat constructor); first | done | fail) ?_ | refine sto (by (repeat constructor); first | done | fail) (by first | omega | (simp only; omega)) ?_ | refine .mk fun Ap capp => ?_ | refine ⟨?_, trivial⟩ | intro _); conv => whnf))
  refine ⟨sort_enters, cl_sort rfl (by (repeat constructor); first | done | fail) (by omega) ?_⟩
  conv => whnf
  (repeat ((first | refine stp (by (repeat constructor); first | done | fail) ?_ | refine stn (by (repeat constructor); first | done | fail) ?_ | refine sto (by (repeat constructor); first | done | fail) (by first | omega | (simp only; omega)) ?_ | refine .mk fun Ap capp => ?_ | refine ⟨?_, trivial⟩ | intro _); conv => whnf))
  have hs := sortL_length (rawNames (L.map LA.a))
  refine ⟨compact_enters, ?_⟩
  rw [← hs]
  refine cl_compact rfl (by (repeat constructor); first | done | fail) (by omega) ?_
  conv => whnf
  (repeat ((first | refine stp (by (repeat constructor); first | done | fail) ?_ | refine stn (by (repeat constructor); first | done | fail) ?_ | refine sto (by (repeat constructor); first | done | fail) (by first | omega | (simp only; omega)) ?_ | refine .mk fun Ap capp => ?_ | refine ⟨?_, trivial⟩ | intro _); conv => whnf))
  have hc := Lib.compact_length_le (sortL (rawNames (L.map LA.a)))
  refine ⟨del_enters, cl_mem (m1 := StM oA oc (Lib.compact (sortL (rawNames (L.map LA.a))))) (by (repeat constructor); first | done | fail) (fun w' hm' => del_any oA oc (Lib.compact (sortL (rawNames (L.map LA.a)))) w' (by omega) hm'.part) ?_⟩
  rintro e m' ⟨A', c', rfl, rfl⟩
  conv => whnf
  (repeat ((first | refine stp (by (repeat constructor); first | done | fail) ?_ | refine stn (by (repeat constructor); first | done | fail) ?_ | refine sto (by (repeat constructor); first | done | fail) (by first | omega | (simp only; omega)) ?_ | refine .mk fun Ap capp => ?_ | refine ⟨?_, trivial⟩ | intro _); conv => whnf))
  exact fin1 rfl rfl (fun w' hm => ⟨_, ⟨A', c', rfl, rfl⟩, hm.sel (by (repeat constructor); first | done | fail)⟩)
end Go.Proofs.YtbfbjgakmnckbaaGreatDoor
namespace Go.Proofs.YtbfbjgakmnckbaaGreatDoor
open Go Go.RowKit Eng
theorem u8_lt_irr (a : UInt8) : ¬ a < a := UInt8.lt_irrefl a
theorem u8_tri {a b : UInt8} (h1 : ¬ a < b) (h2 : ¬ b < a) : a = b := UInt8.toNat_inj.1 (by rw [UInt8.lt_iff_toNat_lt] at h1 h2; omega)
theorem bl_irr : ∀ x : List UInt8, Op.bytesLess x x = false
 | [] => rfl
 | a :: x => by
  show (decide (a < a) || (a == a && Op.bytesLess x x)) = false
  rw [bl_irr x, decide_eq_false (u8_lt_irr a), Bool.and_false]; rfl
theorem bl_cons (a b : UInt8) (x y : List UInt8) : Op.bytesLess (a :: x) (b :: y) = true ↔ a < b ∨ (a = b ∧ Op.bytesLess x y = true) := by
 show (decide (a < b) || (a == b && Op.bytesLess x y)) = true ↔ _
 simp
theorem bl_trans : ∀ {x y z : List UInt8}, Op.bytesLess x y = true → Op.bytesLess y z = true → Op.bytesLess x z = true
 | _, _, [], _, h => by cases ‹List UInt8› <;> simp [Op.bytesLess] at h
 | [], _, _ :: _, _, _ => rfl
 | _ :: _, [], _ :: _, h, _ => by simp [Op.bytesLess] at h
 | a :: x, b :: y, c :: z, h1, h2 => by
  rw [bl_cons] at h1 h2 ⊢
  rcases h1 with h1 | ⟨rfl, h1⟩
  ·rcases h2 with h2 | ⟨rfl, h2⟩
   ·exact .inl (by rw [UInt8.lt_iff_toNat_lt] at *; omega)
   ·exact .inl h1
  ·rcases h2 with h2 | ⟨rfl, h2⟩
   ·exact .inl h2
   ·exact .inr ⟨rfl, bl_trans h1 h2⟩
theorem bl_tri : ∀ {x y : List UInt8}, Op.bytesLess x y = false → Op.bytesLess y x = false → x = y
 | [], [], _, _ => rfl
 | [], _ :: _, h, _ => by simp [Op.bytesLess] at h
 | _ :: _, [], _, h => by simp [Op.bytesLess] at h
 | a :: x, b :: y, h1, h2 => by
  have e1 := mt (bl_cons a b x y).2 (by rw [h1]; simp)
  have e2 := mt (bl_cons b a y x).2 (by rw [h2]; simp)
  have e : a = b := u8_tri (fun h => e1 (.inl h)) (fun h => e2 (.inl h))
  subst e
  rw [bl_tri (x := x) (y := y) (by cases h : Op.bytesLess x y; rfl; exact absurd (.inr ⟨rfl, h⟩) e1) (by cases h : Op.bytesLess y x; rfl; exact absurd (.inr ⟨rfl, h⟩) e2)]
theorem bl_lt : ∀ x y : List UInt8, x < y ↔ Op.bytesLess x y = true
 | x, [] => by cases x <;> simp [Op.bytesLess]
 | [], _ :: _ => by simp [Op.bytesLess]
 | a :: x, b :: y => by rw [List.cons_lt_cons_iff, bl_cons, bl_lt x y]
theorem le_bl (x y : List UInt8) : decide (x ≤ y) = !Op.bytesLess y x := by
 have h : x ≤ y ↔ ¬ (y < x) := Iff.rfl
 cases hb : Op.bytesLess y x with
 | true => exact decide_eq_false (fun hle => h.1 hle ((bl_lt y x).2 hb))
 | false => exact decide_eq_true (h.2 (fun hlt => by rw [(bl_lt y x).1 hlt] at hb; cases hb))
/-- Rising, each once. -/
def Ris (l : List (List UInt8)) : Prop := l.Pairwise fun x y => Op.bytesLess x y = true
theorem ris_eq : ∀ {l k : List (List UInt8)}, Ris l → Ris k → (∀ x, x ∈ l ↔ x ∈ k) → l = k
 | [], [], _, _, _ => rfl
 | [], y :: k, _, _, h => absurd ((h y).2 (List.mem_cons_self ..)) (by simp)
 | x :: l, [], _, _, h => absurd ((h x).1 (List.mem_cons_self ..)) (by simp)
 | x :: l, y :: k, h1, h2, h => by
  obtain ⟨a1, a2⟩ := List.pairwise_cons.1 h1
  obtain ⟨b1, b2⟩ := List.pairwise_cons.1 h2
  have e : x = y := by
   rcases List.mem_cons.1 ((h x).1 (List.mem_cons_self ..)) with e | e
   ·exact e
   ·rcases List.mem_cons.1 ((h y).2 (List.mem_cons_self ..)) with e' | e'
    ·exact e'.symm
    ·have := bl_trans (a1 y e') (b1 x e)
     rw [bl_irr] at this; cases this
  subst e
  rw [ris_eq a2 b2 (fun z => ?_)]
  have hz := h z
  simp only [List.mem_cons] at hz
  constructor
  ·intro hm
   rcases hz.1 (.inr hm) with e | e
   ·subst e
    have := a1 z hm
    rw [bl_irr] at this; cases this
   ·exact e
  ·intro hm
   rcases hz.2 (.inr hm) with e | e
   ·subst e
    have := b1 z hm
    rw [bl_irr] at this; cases this
   ·exact e
theorem mem_insL {l : List (List UInt8)} {s : List UInt8} (hr : Ris l) : Ris (insL l s) ∧ ∀ x, x ∈ insL l s ↔ (x ∈ l ∨ (x = s ∧ s ≠ [])) := by
 unfold insL
 split
 ·rename_i h; exact ⟨hr, fun x => by simp [h]⟩
 ·rename_i h0
  split
  ·rename_i h1
   refine ⟨hr, fun x => ⟨.inl, fun h => h.elim id fun e => ?_⟩⟩
   rw [e.1]; exact List.mem_of_getElem? h1
  ·rename_i h1
   have htk : l.take (insK l s) = l.takeWhile (fun x => Op.bytesLess x s) := (tw_take _ l).symm
   have hlow : ∀ x ∈ l.take (insK l s), Op.bytesLess x s = true := fun x hx => tw_mem (fun x => Op.bytesLess x s) l x (by rw [← htk]; exact hx)
   have hhigh : ∀ x ∈ l.drop (insK l s), Op.bytesLess s x = true := by
    intro x hx
    by_cases hlt : insK l s < l.length
    ·obtain ⟨y, hy, hyn⟩ := tw_fail (fun x => Op.bytesLess x s) l hlt
     have hyn : Op.bytesLess y s = false := hyn
     have hy' : l[insK l s]? = some y := hy
     have hsy : Op.bytesLess s y = true := by
      cases h : Op.bytesLess s y with
      | true => rfl
      | false => exact absurd (by rw [hy', bl_tri hyn h]) h1
     rw [split_at hy'] at hx
     rcases List.mem_cons.1 hx with e | e
     ·rw [e]; exact hsy
     ·have hp : Ris (l.drop (insK l s)) := List.Pairwise.sublist (List.drop_sublist ..) hr
      rw [split_at hy'] at hp
      exact bl_trans hsy ((List.pairwise_cons.1 hp).1 x e)
    ·rw [List.drop_eq_nil_of_le (by omega)] at hx; cases hx
   refine ⟨List.pairwise_append.2 ⟨List.Pairwise.sublist (List.take_sublist ..) hr, List.pairwise_cons.2 ⟨hhigh, List.Pairwise.sublist (List.drop_sublist ..) hr⟩, fun a ha b hb => ?_⟩, fun x => ?_⟩
   ·rcases List.mem_cons.1 hb with e | e
    ·rw [e]; exact hlow a ha
    ·exact bl_trans (hlow a ha) (hhigh b e)
   ·have hmem : x ∈ l ↔ x ∈ l.take (insK l s) ∨ x ∈ l.drop (insK l s) := by rw [← List.mem_append, List.take_append_drop]
    rw [hmem, List.mem_append, List.mem_cons]
    constructor
    ·rintro (h | h | h)
     ·exact .inl (.inl h)
     ·exact .inr ⟨h, h0⟩
     ·exact .inl (.inr h)
    ·rintro ((h | h) | ⟨h, _⟩)
     ·exact .inl h
     ·exact .inr (.inr h)
     ·exact .inr (.inl h)
theorem namesR_ris : ∀ (l : List PAct) (acc : List (List UInt8)), Ris acc → Ris (l.foldl namesStep acc) ∧ ∀ x, x ∈ l.foldl namesStep acc ↔ (x ∈ acc ∨ (x ∈ rawNames l ∧ x ≠ []))
 | [], acc, h => ⟨h, fun x => by simp [rawNames]⟩
 | a :: l, acc, h => by
  have hs : Ris (namesStep acc a) ∧ ∀ x, x ∈ namesStep acc a ↔ (x ∈ acc ∨ (x ∈ rawNames [a] ∧ x ≠ [])) := by
   unfold namesStep rawNames
   obtain ⟨r1, m1⟩ := mem_insL (s := bs a.name) h
   split
   ·rename_i hk
    obtain ⟨r2, m2⟩ := mem_insL (s := bs a.other) r1
    refine ⟨r2, fun x => ?_⟩
    rw [m2, m1]
    simp [hk]
    grind
   ·rename_i hk
    refine ⟨r1, fun x => ?_⟩
    rw [m1]
    simp [hk]
    grind
  obtain ⟨i1, i2⟩ := namesR_ris l _ hs.1
  refine ⟨i1, fun x => ?_⟩
  rw [List.foldl_cons, i2, hs.2]
  have : rawNames (a :: l) = rawNames [a] ++ rawNames l := by simp [rawNames]
  rw [this, List.mem_append]
  grind
theorem compact_ris (zs : List (List UInt8)) (hs : zs.Pairwise fun x y => decide (x ≤ y) = true) : Ris (Lib.compact zs) ∧ ∀ x, x ∈ Lib.compact zs ↔ x ∈ zs := by
 have key : ∀ m, m ≤ zs.length → (Ris (Lib.compactUpTo zs.toArray m) ∧ (∀ x, x ∈ Lib.compactUpTo zs.toArray m ↔ x ∈ zs.take m)) := by
  intro m
  induction m with
  | zero => intro _; exact ⟨List.Pairwise.nil, fun x => by simp [Lib.compactUpTo]⟩
  | succ m ih =>
   intro hm
   obtain ⟨h1, h2⟩ := ih (by omega)
   have hx : zs[m]? = some zs[m] := List.getElem?_eq_getElem (by omega)
   have hget : zs.toArray[m]! = zs[m] := by rw [getElem!_pos _ m (by simp; omega)]; simp
   have hle : ∀ x ∈ zs.take m, Op.bytesLess zs[m] x = false := by
    intro x hxm
    obtain ⟨j, hj, rfl⟩ := List.mem_iff_getElem.1 hxm
    have hjm : j < m := by rw [List.length_take] at hj; omega
    have := List.pairwise_iff_getElem.1 hs j m (by omega) (by omega) hjm
    rw [le_bl] at this
    rw [List.getElem_take]
    simpa using this
   rw [Lib.compactUpTo_succ, List.take_add_one, hx, Option.toList_some, hget]
   by_cases hk : Lib.keeps zs.toArray m = true
   ·rw [if_pos hk]
    refine ⟨List.pairwise_append.2 ⟨h1, List.pairwise_singleton _ _, fun a ha b hb => ?_⟩, fun x => by rw [List.mem_append, List.mem_append, h2]⟩
    rw [List.mem_singleton.1 hb]
    have ha' := (h2 a).1 ha
    cases hlt : Op.bytesLess a zs[m] with
    | true => rfl
    | false =>
     exfalso
     have e := bl_tri hlt (hle a ha')
     obtain ⟨j, hj, hja⟩ := List.mem_iff_getElem.1 ha'
     have hjm : j < m := by rw [List.length_take] at hj; omega
     rw [List.getElem_take] at hja
     have hp : zs[m - 1]'(by omega) = zs[m] := by
      refine bl_tri ?_ (hle _ (List.mem_iff_getElem.2 ⟨m - 1, by rw [List.length_take]; omega, by rw [List.getElem_take]⟩))
      by_cases hjp : j = m - 1
      ·subst hjp; rw [hja, e]; exact bl_irr _
      ·have hq := List.pairwise_iff_getElem.1 hs j (m - 1) (by omega) (by omega) (by omega)
       rw [le_bl, hja, e] at hq
       simpa using hq
     have hk2 : Lib.keeps zs.toArray m = false := by
      unfold Lib.keeps
      have e1 : zs.toArray[m]! = zs[m] := hget
      have e2 : zs.toArray[m - 1]! = zs[m - 1]'(by omega) := by rw [getElem!_pos _ (m - 1) (by simp; omega)]; simp
      rw [e1, e2, hp]
      simp
      omega
     rw [hk2] at hk; cases hk
   ·rw [if_neg hk, List.append_nil]
    refine ⟨h1, fun x => ?_⟩
    rw [h2, List.mem_append, List.mem_singleton]
    refine ⟨.inl, fun h => h.elim id fun e => ?_⟩
    subst e
    have hk2 : Lib.keeps zs.toArray m = false := by simpa using hk
    unfold Lib.keeps at hk2
    have hm0 : m ≠ 0 := by intro e; subst e; simp at hk2
    have e2 : zs.toArray[m - 1]! = zs[m - 1]'(by omega) := by rw [getElem!_pos _ (m - 1) (by simp; omega)]; simp
    rw [hget, e2] at hk2
    have : zs[m] = zs[m - 1]'(by omega) := by simpa [hm0] using hk2
    rw [this]
    exact List.mem_iff_getElem.2 ⟨m - 1, by rw [List.length_take]; omega, by rw [List.getElem_take]⟩
 obtain ⟨h1, h2⟩ := key zs.length (Nat.le_refl _)
 exact ⟨h1, fun x => by rw [Lib.compact, h2, List.take_length]⟩
theorem sortL_pw (l : List (List UInt8)) : (sortL l).Pairwise fun x y => decide (x ≤ y) = true := by
 refine List.pairwise_mergeSort (fun a b c h1 h2 => ?_) (fun a b => ?_) l
 ·rw [le_bl] at h1 h2 ⊢
  cases h : Op.bytesLess c a with
  | false => rfl
  | true =>
   exfalso
   have h1' : Op.bytesLess b a = false := by simpa using h1
   have h2' : Op.bytesLess c b = false := by simpa using h2
   cases hab : Op.bytesLess a b with
   | true => rw [bl_trans h hab] at h2'; cases h2'
   | false => rw [bl_tri hab h1'] at h; rw [h2'] at h; cases h
 ·rw [le_bl, le_bl]
  cases h : Op.bytesLess b a with
  | false => rfl
  | true =>
   cases h2 : Op.bytesLess a b with
   | false => rfl
   | true => have := bl_trans h h2; rw [bl_irr] at this; cases this
/-- The script's names are the document's. -/
theorem names_same (l : List PAct) : namesS l = namesR l := by
 obtain ⟨c1, c2⟩ := compact_ris (sortL (rawNames l)) (sortL_pw _)
 obtain ⟨r1, r2⟩ := namesR_ris l [] List.Pairwise.nil
 refine ris_eq (List.Pairwise.sublist (List.filter_sublist ..) c1) r1 (fun x => ?_)
 have hp : x ∈ sortL (rawNames l) ↔ x ∈ rawNames l := (List.mergeSort_perm (rawNames l) _).mem_iff
 show x ∈ (Lib.compact (sortL (rawNames l))).filter neB ↔ x ∈ l.foldl namesStep []
 rw [List.mem_filter, c2, hp, r2 x]
 simp [neB]
end Go.Proofs.YtbfbjgakmnckbaaGreatDoor
namespace Go.Proofs.YtbfbjgakmnckbaaGreatDoor
open Go Go.RowKit Eng
theorem flT_count : ∀ k, Lib.countByte (flT k) 10 = k
 | 0 => rfl
 | k + 1 => by
  have ih := flT_count k
  unfold Lib.countByte at ih ⊢
  rw [flT, List.count_append, ih]
  show 1 + k = k + 1
  omega
theorem flT_app : ∀ j k, flT j ++ flT k = flT (j + k)
 | 0, k => by rw [Nat.zero_add]; rfl
 | j + 1, k => by rw [show j + 1 + k = (j + k) + 1 by omega, flT, flT, List.append_assoc, flT_app j k]
theorem flT_suffix (k : Nat) : Lib.hasSuffix (flT (k + 1)) [10] = true := by
 rw [← flT_app k 1]
 simp only [Lib.hasSuffix, flT, List.append_nil, List.isSuffixOf_iff_suffix]
 exact ⟨flT k ++ [102, 108, 117, 115, 104, 32, 97], by simp⟩
attribute [local irreducible] Br Rn RnU Cl RdG CpG Ld Rd Lp Dr Oth Cut fin Fits Eng.Enters Md NA
theorem parse_enters' : Eng.Enters Tryz.prog 21 := enters_mk fun _ _ => by kernel_rfl
theorem count53_enters : Eng.Enters Tryz.prog 53 := enters_mk fun _ _ => by kernel_rfl
theorem suffix_enters : Eng.Enters Tryz.prog 54 := enters_mk fun _ _ => by kernel_rfl
theorem count_flT (k : Nat) (w : World) : Calls Tryz.prog 53 #[.string (Str (flT k)), .string ⟨#[10]⟩] w fun e w' => e = .returned (.int .i64 (k : Nat)) ∧ Fr (fun _ => False) w w' := by
 refine (Tryz.strings_Count_one (Str (flT k)) 10 w).mono ?_
 rintro e w' ⟨rfl, rfl⟩
 rw [bs_Str', flT_count]
 exact ⟨rfl, Fr.refl _ _⟩
theorem suffix_flT (k : Nat) (hk : k ≤ 1000000) (w : World) : Calls Tryz.prog 54 #[.string (Str (flT (k + 1))), .string ⟨#[10]⟩] w fun e w' => e = .returned (.bool true) ∧ Fr (fun _ => False) w w' := by
 have h1 := Str.size (flT (k + 1))
 have h2 := flT_len (k + 1)
 refine (Tryz.strings_HasSuffix (Str (flT (k + 1))) (Str [10]) w (by omega)).mono ?_
 rintro e w' ⟨rfl, rfl⟩
 rw [bs_Str', bs_Str', flT_suffix]
 exact ⟨rfl, Fr.refl _ _⟩
attribute [local irreducible] flT
set_option maxRecDepth 100000 in
set_option maxHeartbeats 2000000 in
/-- Too many lines. -/
theorem parseOver_any (k : Nat) (hk : 65536 ≤ k) (hk2 : k < 131072) (w : World) :
  Calls Tryz.prog 21 #[.string (Str (flT (k + 1)))] w fun e w' => e = .returned (.tuple #[.slice none 0 0, .int .i64 0, .int .i64 3]) ∧ Fr (fun _ => False) w w' := by
 have hsz := Str.size (flT (k + 1))
 have hl := flT_len (k + 1)
 have hne : ¬ Str (flT (k + 1)) = ⟨#[]⟩ := fun h => by
  rw [h] at hsz
  have : (⟨#[]⟩ : ByteArray).size = 0 := rfl
  omega
 refine enter (cx := ⟨Tryz.prog, 44, w, fun _ => False, tab, [], [54], [], []⟩) [(0, .string (Str (flT (k + 1))))] tab_ok Tryz.func21 rfl rfl rfl rfl (MemOk.nil w _) ?_
 conv => whnf
 (repeat ((first | refine stp (by (repeat constructor); first | done | fail) ?_ | refine stn (by (repeat constructor); first | done | fail) ?_ | refine sto (by (repeat constructor); first | done | fail) (by first | omega | (simp only; omega)) ?_ | refine .mk fun Ap capp => ?_ | refine ⟨?_, trivial⟩ | intro _); conv => whnf))
 refine ⟨count53_enters, cl_same _ (fun w' _ => count_flT (k + 1) w') ?_⟩
 conv => whnf
 (repeat ((first | refine stp (by (repeat constructor); first | done | fail) ?_ | refine stn (by (repeat constructor); first | done | fail) ?_ | refine sto (by (repeat constructor); first | done | fail) (by first | omega | (simp only; omega)) ?_ | refine .mk fun Ap capp => ?_ | refine ⟨?_, trivial⟩ | intro _); conv => whnf))
 refine ⟨_, cpg suffix_enters (fun _ w' _ => suffix_flT k (by omega) w'), ?_⟩
 conv => whnf
 (repeat ((first | refine stp (by (repeat constructor); first | done | fail) ?_ | refine stn (by (repeat constructor); first | done | fail) ?_ | refine sto (by (repeat constructor); first | done | fail) (by first | omega | (simp only; omega)) ?_ | refine .mk fun Ap capp => ?_ | refine ⟨?_, trivial⟩ | intro _); conv => whnf))
 refine br_f (by simp) ?_
 conv => whnf
 (repeat ((first | refine stp (by (repeat constructor); first | done | fail) ?_ | refine stn (by (repeat constructor); first | done | fail) ?_ | refine sto (by (repeat constructor); first | done | fail) (by first | omega | (simp only; omega)) ?_ | refine .mk fun Ap capp => ?_ | refine ⟨?_, trivial⟩ | intro _); conv => whnf))
 refine br_t (by rw [decide_eq_true (p := (65536 : Int) < _) (by omega), Bool.or_true]) ?_
 conv => whnf
 (repeat ((first | refine stp (by (repeat constructor); first | done | fail) ?_ | refine stn (by (repeat constructor); first | done | fail) ?_ | refine sto (by (repeat constructor); first | done | fail) (by first | omega | (simp only; omega)) ?_ | refine .mk fun Ap capp => ?_ | refine ⟨?_, trivial⟩ | intro _); conv => whnf))
 exact fin3 rfl rfl rfl rfl (fun w' hm => ⟨rfl, hm.fr⟩)
end Go.Proofs.YtbfbjgakmnckbaaGreatDoor
namespace Go.Proofs.YtbfbjgakmnckbaaGreatDoor
open Go Go.RowKit Eng
attribute [local irreducible] Br Rn RnU Cl RdG CpG Ld Rd Lp Dr Oth Cut fin Fits Eng.Enters Md NA
attribute [local irreducible] flT
/-- What lies between two rounds: the loop's record, the block of its deferred calls, the list and what has been told. -/
abbrev PJ (l D lB : Nat) (rec : Loop) (i : Nat) (g : Option Addr × Nat × List Value) : Mem :=
 [.blk l (.loop rec), .blk D (.deferred (some [])), .blk lB (.cells #[.slice g.1 i g.2.1] 46), .row g.1 g.2.1 i 29 13 g.2.2]
set_option maxRecDepth 100000 in
set_option maxHeartbeats 4000000 in
theorem parse65_any (N : Nat) (hN : N = 65536) (w : World) (hw : LW w) :
  Ctr Tryz.prog 21 [.string (Str (flT N))] [] (fun e m' => (∃ A c, e = .returned (.tuple #[.slice A N c, .int .i64 N, .int .i64 0])) ∧ m' = []) w := by
 obtain ⟨k, hk⟩ : ∃ k, N = k + 1 := ⟨N - 1, by omega⟩
 have hsz := Str.size (flT N)
 have hl := flT_len N
 have hne : ¬ Str (flT N) = ⟨#[]⟩ := fun h => by
  rw [h] at hsz
  have : (⟨#[]⟩ : ByteArray).size = 0 := rfl
  omega
 have hF : ∀ w', Fr (Foot []) w w' → Fr (fun _ => False) w w' := fun w' hf => hf.mono (fun k _ ⟨r, hr, _⟩ => by cases hr)
 refine enterM [(0, .string (Str (flT N)))] Tryz.func21 rfl rfl rfl (fun a he => ?_)
 have hm : MemOk w (Foot []) [] w := MemOk.nil w _
 refine stepC (cx := ⟨Tryz.prog, 44, w, Foot [], tab, [], [54], [], []⟩) tab_ok he hm ?_
 conv => whnf
 intro a w1 he hm
 refine stepC (cx := ⟨Tryz.prog, 44, w, Foot [], tab, [], [54], [], []⟩) tab_ok he hm ?_
 conv => whnf
 (repeat ((first | refine stp (by (repeat constructor); first | done | fail) ?_ | refine stn (by (repeat constructor); first | done | fail) ?_ | refine sto (by (repeat constructor); first | done | fail) (by first | omega | (simp only; omega)) ?_ | refine .mk fun Ap capp => ?_ | refine ⟨?_, trivial⟩ | intro _); conv => whnf))
 refine ⟨count53_enters, cl_same _ (fun w' _ => count_flT N w') ?_⟩
 conv => whnf
 intro a w1 he hm
 refine stepC (cx := ⟨Tryz.prog, 44, w, Foot [], tab, [], [54], [], []⟩) tab_ok he hm ?_
 conv => whnf
 (repeat ((first | refine stp (by (repeat constructor); first | done | fail) ?_ | refine stn (by (repeat constructor); first | done | fail) ?_ | refine sto (by (repeat constructor); first | done | fail) (by first | omega | (simp only; omega)) ?_ | refine .mk fun Ap capp => ?_ | refine ⟨?_, trivial⟩ | intro _); conv => whnf))
 refine ⟨_, cpg suffix_enters (fun _ w' _ => by rw [hk]; exact suffix_flT k (by omega) w'), ?_⟩
 conv => whnf
 (repeat ((first | refine stp (by (repeat constructor); first | done | fail) ?_ | refine stn (by (repeat constructor); first | done | fail) ?_ | refine sto (by (repeat constructor); first | done | fail) (by first | omega | (simp only; omega)) ?_ | refine .mk fun Ap capp => ?_ | refine ⟨?_, trivial⟩ | intro _); conv => whnf))
 refine br_f (by simp) ?_
 conv => whnf
 intro a w1 he hm
 refine stepC (cx := ⟨Tryz.prog, 44, w, Foot [], tab, [], [54], [], []⟩) tab_ok he hm ?_
 conv => whnf
 (repeat ((first | refine stp (by (repeat constructor); first | done | fail) ?_ | refine stn (by (repeat constructor); first | done | fail) ?_ | refine sto (by (repeat constructor); first | done | fail) (by first | omega | (simp only; omega)) ?_ | refine .mk fun Ap capp => ?_ | refine ⟨?_, trivial⟩ | intro _); conv => whnf))
 refine br_f (by rw [decide_eq_false (by omega), decide_eq_false (by omega)]; rfl) ?_
 conv => whnf
 intro a w1 he hm
 refine stepC (cx := ⟨Tryz.prog, 44, w, Foot [], tab, [], [54], [], []⟩) tab_ok he hm ?_
 conv => whnf
 intro lB
 conv => whnf
 intro a w1 he hm
 refine wp_seq ?_
 refine stepC (cx := ⟨Tryz.prog, 44, w, Foot [], tab, [], [], [], []⟩) tab_ok he hm ?_
 conv => whnf
 (repeat ((first | refine stp (by (repeat constructor); first | done | fail) ?_ | refine stn (by (repeat constructor); first | done | fail) ?_ | refine sto (by (repeat constructor); first | done | fail) (by first | omega | (simp only; omega)) ?_ | refine .mk fun Ap capp => ?_ | refine ⟨?_, trivial⟩ | intro _); conv => whnf))
 refine ⟨all_enters, cl_mem (m1 := []) .nil (fun w' _ => All_any (flT N) w') ?_⟩
 rintro e m' ⟨sB, rfl, rfl⟩
 conv => whnf
 intro a w1 he hm
 refine wp_block ?_
 have he6 : a.eval (.tmp 28) = .func (.func 55) #[] #[.pointer (some ⟨sB, 0, none⟩)] := he.ev rfl
 have hes := he.sub (e' := [(6, .pointer (some ⟨lB, 0, none⟩)), (5, .int .i64 N)]) ⟨rfl, rfl, trivial⟩
 refine range_wp he6 all1_enters (fun fn rec hrec => ?_)
 have hm0 : MemOk w (Foot []) [.blk sB (.cells #[.string (Str (flT N))] 9), .blk lB (.cells #[.slice none 0 0] 46)] w1 := hm.sel (by (repeat constructor); first | done | fail)
 have hm2 := (hm0.alloc (.deferred (some []))).alloc (.loop rec)
 rw [World.size_alloc] at hm2
 generalize hW1 : (w1.alloc (.deferred (some []))).alloc (.loop rec) = W1 at hm2 ⊢
 generalize hD : w1.heap.size = D at hm2 ⊢
 have hm3 : MemOk w (Foot []) (.blk sB (.cells #[.string (Str (flT N))] 9) :: PJ (D + 1) D lB rec 0 (none, 0, [])) W1 := (hm2.nilRow 29 13).sel (.cons (.there (.there (.there .here))) (.cons (.there .here) (.cons (.there .here) (.cons (.there .here) (.cons .here .nil)))))
 refine Calls.mono (all1_any N hN (fun i g => PJ (D + 1) D lB rec i g) (none, 0, []) (D + 1) sB W1 (hw.fr (hF _ hm3.fr)) hm3.now (fun w' hf => hw.fr (hm3.far_fr hf)) ?_) ?_
 ·intro i g bA pA bc pc w' hi hm'
  generalize Foot (.blk sB (.cells #[.string (Str (flT N))] 9) :: PJ (D + 1) D lB rec 0 (none, 0, [])) = SS at hm' ⊢
  have hl2 : w'.heap[D + 1]? = some (.loop rec) := hm'.ok _ (List.mem_cons_self ..)
  have hpr : rec.params = #[29, 30] := by rw [hrec]
  refine ⟨rec.fn, _, rec.assign, rec.body, run_yield hl2 (by rw [hpr]; rfl), roundIn_of_wpIn trivial ?_⟩
  have her0 := ((hes.put (d := some 29) rfl (.int .i64 (i : Nat))).put (d := some 30) rfl (.agg (actL actA bA bc pA pc).toArray)).sub (e' := [(30, .agg (actL actA bA bc pA pc).toArray), (6, .pointer (some ⟨lB, 0, none⟩))]) ⟨rfl, rfl, trivial⟩
  have htm : ((rec.params.zip #[.int .i64 (i : Nat), .agg (actL actA bA bc pA pc).toArray]).foldl (fun t p => t.setIfInBounds p.1 p.2) rec.tmps) = (a.tmps.setIfInBounds 29 (.int .i64 (i : Nat))).setIfInBounds 30 (.agg (actL actA bA bc pA pc).toArray) := by
   rw [hrec]; simp
  have her : EnvOk 44 [] [(30, .agg (actL actA bA bc pA pc).toArray), (6, .pointer (some ⟨lB, 0, none⟩))] { tmps := ((rec.params.zip #[.int .i64 (i : Nat), .agg (actL actA bA bc pA pc).toArray]).foldl (fun t p => t.setIfInBounds p.1 p.2) rec.tmps), defers := [] } := ⟨rfl, by rw [htm]; exact her0.2.1, by rw [htm]; exact her0.2.2⟩
  have ha : rec.assign = _ := congrArg Loop.assign hrec
  have hb : rec.body = _ := congrArg Loop.body hrec
  dsimp only at ha hb
  have hbz : ∀ st, ({ { rec with state := st } with state := (if (none : Option Code).isNone then .ready else .done), pending := none } : Loop) = rec := fun st => by rw [hrec]; rfl
  have hrs : rec.state = .ready := by rw [hrec]
  clear hrec htm her0
  generalize ({ tmps := ((rec.params.zip #[.int .i64 (i : Nat), .agg (actL actA bA bc pA pc).toArray]).foldl (fun t p => t.setIfInBounds p.1 p.2) rec.tmps), defers := [] } : Go.Act) = ar at her
  rw [ha]
  refine wpIn_mono (reg_wr (cx := ⟨Tryz.prog, 44, W1, SS, tab, [], [], [], []⟩) (r := some (D + 1)) tab_ok (k := fun ex e m => match ex with
   | .normal => ∃ b, Env.sub [(8, .pointer (some ⟨b, 0, none⟩)), (6, .pointer (some ⟨lB, 0, none⟩))] e ∧ SubM ⟨Tryz.prog, 44, W1, SS, tab, [], [], [], []⟩ m (.blk b (.cells (actL actA bA bc pA pc).toArray 29) :: PJ (D + 1) D lB rec i g)
   | _ => False) (fun e m h => h) rfl her hm' ?_) ?_
  ·conv => whnf
   intro b
   conv => whnf
   (repeat ((first | refine stp (by (repeat constructor); first | done | fail) ?_ | refine stn (by (repeat constructor); first | done | fail) ?_ | refine sto (by (repeat constructor); first | done | fail) (by first | omega | (simp only; omega)) ?_ | refine .mk fun Ap capp => ?_ | refine ⟨?_, trivial⟩ | intro _); conv => whnf))
   exact ⟨b, ⟨rfl, rfl, trivial⟩, SubM.refl _ _⟩
  ·rintro ex a2 w2 ⟨e2, m2, he2, hm2, hk⟩
   cases ex with
   | normal =>
    obtain ⟨b, hs, hsub⟩ := hk
    have hm2 := hsub w2 hm2
    have he2 := he2.sub hs
    have hl3 : w2.heap[D + 1]? = some (.loop rec) := hm2.ok _ (List.mem_cons_of_mem _ (List.mem_cons_self ..))
    refine ⟨_, run_beginRound hl3 hrs, ?_⟩
    have hm3 := upd_put (o' := .loop { rec with state := .busy }) hm2 (.there .here)
    generalize w2.putObj (D + 1) (.loop { rec with state := .busy }) = w3 at hm3 ⊢
    rw [hb]
    refine wpIn_block ?_
    refine wpIn_mono (reg_wr (cx := ⟨Tryz.prog, 44, W1, SS, tab, [], [], [], []⟩) (r := some (D + 1)) tab_ok (k := fun ex e m => match ex with
     | .normal => ∃ A c xs, SubM ⟨Tryz.prog, 44, W1, SS, tab, [], [], [], []⟩ m (PJ (D + 1) D lB { rec with state := .busy } (i + 1) (A, c, xs))
     | _ => False) (fun e m h => h) rfl he2 hm3 ?_) ?_
    ·conv => whnf
     (repeat ((first | refine stp (by (repeat constructor); first | done | fail) ?_ | refine stn (by (repeat constructor); first | done | fail) ?_ | refine sto (by (repeat constructor); first | done | fail) (by first | omega | (simp only; omega)) ?_ | refine .mk fun Ap capp => ?_ | refine ⟨?_, trivial⟩ | intro _); conv => whnf))
     exact ⟨Ap, capp, _, SubM.sel (by (repeat constructor); first | done | fail)⟩
    ·rintro ex a4 w4 ⟨e4, m4, he4, hm4, hk⟩
     cases ex with
     | normal =>
      obtain ⟨A', c', xs', hsub⟩ := hk
      have hm5 := hsub w4 hm4
      have hm6 := upd_put (o' := .loop rec) hm5 .here
      have hen := run_endRound (P := Tryz.prog) none (hm5.ok _ (List.mem_cons_self ..) : w4.heap[D + 1]? = some (.loop { rec with state := .busy }))
      rw [hbz] at hen
      exact ⟨_, _, hen, rfl, (A', c', xs'), hm6⟩
     | _ => exact hk.elim
   | _ => exact hk.elim
 ·rintro e W2 ⟨⟨v, rfl⟩, g, hmN⟩
  have hmE := hm3.join hmN
  refine ⟨v, rfl, hmE.ok _ (List.mem_cons_self ..), ?_⟩
  have hmX := upd_put (o' := .loop { rec with state := .exhausted }) hmE .here
  generalize W2.putObj (D + 1) (.loop { rec with state := .exhausted }) = W3 at hmX ⊢
  have he2 : EnvOk 44 [{ target := .collected D, args := #[] }] [(6, .pointer (some ⟨lB, 0, none⟩)), (5, .int .i64 N)] { a with defers := { target := .collected D, args := #[] } :: a.defers } := ⟨by rw [hes.1], hes.2.1, hes.2.2⟩
  generalize ({ a with defers := { target := .collected D, args := #[] } :: a.defers } : Go.Act) = a2 at he2 ⊢
  refine stepC (cx := ⟨Tryz.prog, 44, w, Foot [], tab, [], [], [], [{ target := .collected D, args := #[] }]⟩) tab_ok he2 hmX ?_
  conv => whnf
  (repeat ((first | refine stp (by (repeat constructor); first | done | fail) ?_ | refine stn (by (repeat constructor); first | done | fail) ?_ | refine sto (by (repeat constructor); first | done | fail) (by first | omega | (simp only; omega)) ?_ | refine .mk fun Ap capp => ?_ | refine ⟨?_, trivial⟩ | intro _); conv => whnf))
  refine br_f (decide_eq_false (by omega)) ?_
  conv => whnf
  intro a w4 he hm
  refine stepC (cx := ⟨Tryz.prog, 44, w, Foot [], tab, [], [], [], [{ target := .collected D, args := #[] }]⟩) tab_ok he hm ?_
  conv => whnf
  refine dr_quiet tab_ok mixed (by kernel_rfl) rfl ?_; conv => whnf
  (repeat ((first | refine stp (by (repeat constructor); first | done | fail) ?_ | refine stn (by (repeat constructor); first | done | fail) ?_ | refine sto (by (repeat constructor); first | done | fail) (by first | omega | (simp only; omega)) ?_); conv => whnf))
  intro a w5 he hm
  refine wp_ret ?_
  have hDk : w5.heap[D]? = some (.deferred (some [])) := hm.ok (.blk D (.deferred (some []))) (by simp)
  have hmZ := upd_put (o' := .deferred none) hm (.there .here)
  refine marks_end (D := D) he.1 hDk (results_run (cx := ⟨Tryz.prog, 44, w5.putObj D (.deferred none), Foot [], tab, [], [], [], [{ target := .collected D, args := #[] }]⟩) (vs := [.slice g.1 N g.2.1, .int .i64 N, .int .i64 0]) he (MemOk.nil _ _) ?_) ⟨[], ⟨⟨g.1, g.2.1, rfl⟩, rfl⟩, hmZ.sublist (List.nil_sublist _)⟩
  exact ⟨_, _, rfl, rfl, _, _, rfl, rfl, _, _, rfl, rfl, rfl⟩
end Go.Proofs.YtbfbjgakmnckbaaGreatDoor
namespace Go.Proofs.YtbfbjgakmnckbaaGreatDoor
open Go Go.RowKit Eng
theorem itoa_len20 {n : Int} (h : -9223372036854775808 ≤ n ∧ n ≤ 9223372036854775807) : (Lib.itoa n).length ≤ 65 := by
 have := Lib.itoa_length_le n h.1 h.2
 omega
theorem hexF_len2 {bs : List UInt8} (h : bs.length ≤ 20000) : (hexF bs).length ≤ 40001 := by
 unfold hexF
 split
 ·simp
 ·rw [hexs_length]; omega
theorem flagW_len2 (c : Int) (on : Bool) : (flagW c on).length ≤ 40001 := by
 unfold flagW
 repeat' split
 all_goals simp
theorem letS_small {a : PAct} (ha : a.Ok) (h : mayB a = true) (hb : a.bytes.length ≤ 20000) {c : UInt8} (hc : c ∈ lettersL a.kind) : (letS c a).length ≤ 40001 := by
 have ho := okL1_mem (may_ok h) c hc
 unfold okL1 at ho
 unfold letS
 by_cases h1 : c = 97
 ·rw [if_pos h1] at ho ⊢
  have := nameB_size ho
  rw [bs_size]; omega
 rw [if_neg h1] at ho ⊢
 by_cases h2 : c = 111
 ·rw [if_pos (.inl h2)] at ho
  rw [if_pos h2]
  subst h2
  simp only [Bool.or_eq_true, Bool.and_eq_true] at ho
  have := nameB_size (ho.resolve_right (fun hh => absurd hh.1 (by decide)))
  rw [bs_size]; omega
 rw [if_neg h2]
 by_cases h3 : c = 79
 ·rw [if_pos (.inr h3)] at ho
  rw [if_pos h3]
  split
  ·simp
  ·rename_i hne
   simp only [Bool.or_eq_true, Bool.and_eq_true, decide_eq_true_eq] at ho
   have := nameB_size (ho.resolve_right (fun hh => hne hh.2))
   rw [bs_size]; omega
 rw [if_neg (fun hh => hh.elim h2 h3)] at ho
 rw [if_neg h3]
 by_cases h4 : c = 116
 ·rw [if_pos h4] at ho ⊢
  have := nameB_size ho
  rw [bs_size]; omega
 rw [if_neg h4]
 split
 ·have := itoa_len20 ha.at_; omega
 split
 ·have := itoa_len20 ha.n; omega
 split
 ·have := itoa_len20 ha.bits; omega
 split
 ·have := itoa_len20 ha.order; omega
 split
 ·exact hexF_len2 hb
 ·exact flagW_len2 _ _
theorem flat_len {α : Type} (g : α → List UInt8) (B : Nat) : ∀ l : List α, (∀ x ∈ l, (g x).length ≤ B) → (l.flatMap g).length ≤ l.length * B
 | [], _ => by simp
 | x :: r, h => by
  have h1 := h x (List.mem_cons_self ..)
  have h2 := flat_len g B r (fun y hy => h y (List.mem_cons_of_mem _ hy))
  rw [List.flatMap_cons, List.length_append, List.length_cons, Nat.succ_mul]; omega
theorem line_small {a : PAct} (ha : a.Ok) (h : mayB a = true) (hb : a.bytes.length ≤ 20000) (hp : a.picks.length ≤ 500) : (lineL a).length ≤ 1048576 := by
 rw [lineL_eq]
 simp only [List.length_append]
 have h0 : (wordL a.kind).length ≤ 16 := Nat.le_trans (cutF_len _).1 (formL_len _)
 have hl : (lettersL a.kind).length ≤ 16 := Nat.le_trans (cutF_len _).2 (formL_len _)
 have h1 := flat_len (fun c => 32 :: letS c a) 40002 (lettersL a.kind) (fun c hc => by have := letS_small ha h hb hc; simp only [List.length_cons]; omega)
 have h2 := flat_len (fun p => 32 :: Lib.itoa p) 66 a.picks (fun p hpm => by have := itoa_len20 (ha.picksR p hpm); simp only [List.length_cons]; omega)
 have h3 : ((fateW a).flatMap (fun s => 32 :: s)).length ≤ 100 := by
  have hk := itoa_len20 ha.keep
  unfold fateW
  split
  ·split
   ·simp [wGood]
   ·split <;> simp [wFail, wFull] <;> omega
  ·simp
 omega
end Go.Proofs.YtbfbjgakmnckbaaGreatDoor
