/- slices.DeleteFunc of strings; the script's Names. No statement of the seat is proved here. -/
import Derived.Test.YtbfbjgakmnckbaaGreatDoorTx1M11
namespace Go.Proofs.YtbfbjgakmnckbaaGreatDoor
open Go Go.RowKit Eng
theorem z_strB : ∀ w, (zeroValue 9).run Tryz.prog w = .ok (.string ⟨#[]⟩) w := fun w => by kernel_rfl
theorem u_strsB : Tryz.prog.underlying 68 = some (.slice 9) := by kernel_rfl
theorem setCells_facts (b t : Nat) (fr : Nat × Nat) : ∀ (vs : List Value) (o : Nat) (w : World) (cur : Array Value), w.heap[b]? = some (.cells cur t fr) →
  (w.setCells b o vs).os = w.os ∧ (w.setCells b o vs).tape = w.tape ∧ (w.setCells b o vs).output = w.output ∧ (w.setCells b o vs).heap.size = w.heap.size ∧ (∀ k, k ≠ b → (w.setCells b o vs).heap[k]? = w.heap[k]?) ∧
  ∃ cur', (w.setCells b o vs).heap[b]? = some (.cells cur' t fr) ∧ cur'.size = cur.size ∧ ∀ j, j < o → cur'[j]? = cur[j]?
 | [], _, _, cur, h => ⟨rfl, rfl, rfl, rfl, fun _ _ => rfl, cur, h, rfl, fun _ _ => rfl⟩
 | v :: r, o, w, cur, h => by
  have e := Sort.setCell_eq w b o v
  have h1 : (w.setCell ⟨b, o, none⟩ v).heap[b]? = some (.cells (cur.setIfInBounds o v) t fr) := by
   rw [e]
   show (w.heap.modify b _)[b]? = _
   rw [Array.getElem?_modify, if_pos rfl, h]; rfl
  obtain ⟨q1, q2, q3, q4, q5, cur', q6, q7, q8⟩ := setCells_facts b t fr r (o + 1) _ _ h1
  have hos : (w.setCell ⟨b, o, none⟩ v).os = w.os ∧ (w.setCell ⟨b, o, none⟩ v).tape = w.tape ∧ (w.setCell ⟨b, o, none⟩ v).output = w.output ∧ (w.setCell ⟨b, o, none⟩ v).heap.size = w.heap.size := by
   rw [e]; exact ⟨rfl, rfl, rfl, by show (w.heap.modify b _).size = _; simp⟩
  refine ⟨q1.trans hos.1, q2.trans hos.2.1, q3.trans hos.2.2.1, q4.trans hos.2.2.2, fun k hk => (q5 k hk).trans ?_, cur', q6, by rw [q7]; simp, fun j hj => (q8 j (by omega)).trans ?_⟩
  ·rw [e]
   show (w.heap.modify b _)[k]? = _
   rw [Array.getElem?_modify, if_neg (fun h => hk h.symm)]
  ·rw [Array.getElem?_setIfInBounds_ne (by omega)]
/-- The end of a row of strings is cleared, and no longer looked at. -/
theorem rn_clear {cx : Cx} (hP : cx.P = Tryz.prog) {m m' : Mem} {b cap n ty c : Nat} {F R : List (List UInt8)} {K : Value → Mem → Prop} (hu : Out m (.row (some ⟨b, 0, none⟩) cap n 9 1 (strsOf (F ++ R))) m') (hn : F.length + R.length = n) (hR : 0 < R.length)
  (hk : K (.tuple #[]) (.row (some ⟨b, 0, none⟩) cap F.length 9 1 (strsOf F) :: m')) : Rn cx m (Builtin.clear_ #[68] ty #[.slice (some ⟨b, F.length, none⟩) R.length c]) K := by
 intro w hm
 have hm1 := hm.perm hu.perm
 have hr : w.ownsRow 0 9 1 (.slice (some ⟨b, 0, none⟩) n cap) n (strsOf (F ++ R)) := hm1.ok _ (List.mem_cons_self ..)
 have hcell : ∀ j, j < R.length → (w.cell? ⟨b, F.length + j, none⟩).isSome = true := by
  intro j hj
  obtain ⟨b', e, hc⟩ := row_cell (hm1.ok _ (List.mem_cons_self ..)) (strs_get (l := F ++ R) (i := F.length + j) (by simp; omega))
  injection e with e; injection e with e; subst e
  rw [hc]; rfl
 rcases hr.2 with ⟨e, _⟩ | ⟨g, c', cur, e, _, hb, hc, hmax, hsz, hcur⟩
 ·cases e
 injection e with e1 _ e3
 injection e1 with e1
 injection e1 with e1
 subst e1 e3
 have hrun := Lib.run_clear_slice w 68 9 ty (.string ⟨#[]⟩) u_strsB z_strB rfl rfl b F.length R.length c hR hcell (fun j _ => by simp [World.frozen?, hb])
 obtain ⟨q1, q2, q3, q4, q5, cur', q6, q7, q8⟩ := setCells_facts b 9 (0, 0) (List.replicate R.length (.string ⟨#[]⟩)) F.length w cur hb
 generalize w.setCells b F.length (List.replicate R.length (.string ⟨#[]⟩)) = w' at hrun q1 q2 q3 q4 q5 q6
 have hfr : Fr (fun j => some j = some b) w w' := ⟨q1, q2, q3, by omega, fun j _ hs => q5 j (fun e => hs (by rw [e]))⟩
 have hapart := (List.pairwise_cons.1 hm1.apart).1
 have hown := hm1.own _ (List.mem_cons_self ..) b rfl
 have hmt : MemOk cx.w0 cx.S m' w' := hm1.tail.step hfr (fun b' hb' hT => by cases hT; exact hown.elim (fun h => absurd hb' (by omega)) id) (fun r hr b' hb' hT => by cases hT; exact hapart r hr b rfl hb')
 refine ⟨_, w', _, by rw [hP]; exact hrun, hmt.cons (r := .row (some ⟨b, 0, none⟩) cap F.length 9 1 (strsOf F)) ⟨by rw [strsOf, List.length_map, Nat.mul_one], .inr ⟨b, cap, cur', rfl, Nat.zero_le _, q6, by omega, hmax, q7.trans hsz, ?_⟩⟩ (fun b' e => by cases e; exact hown) (fun b' e s hs => by cases e; exact hapart s hs b rfl), hk⟩
 apply List.ext_getElem?
 intro j
 by_cases hj : j < F.length
 ·have h1 : (cur.toList.take (n * 1))[j]? = (strsOf (F ++ R))[j]? := by rw [hcur]
  rw [Nat.mul_one, List.getElem?_take_of_lt (by omega), Array.getElem?_toList] at h1
  rw [Nat.mul_one, List.getElem?_take_of_lt hj, Array.getElem?_toList, q8 j hj, h1, strsOf, strsOf, List.map_append, List.getElem?_append_left (by simpa using hj)]
 ·rw [List.getElem?_eq_none (by simp; omega), List.getElem?_eq_none (by rw [strsOf, List.length_map]; omega)]
attribute [local irreducible] Br Rn RnU Cl RdG CpG Ld Rd Lp Dr Oth Cut fin Fits Eng.Enters Md NA
theorem names1_enters : Eng.Enters Tryz.prog 67 := enters_mk fun _ _ => by kernel_rfl
theorem idxS_enters : Eng.Enters Tryz.prog 101 := enters_mk fun _ _ => by kernel_rfl
theorem del_enters : Eng.Enters Tryz.prog 66 := enters_mk fun _ _ => by kernel_rfl
set_option maxRecDepth 100000 in
theorem names1_any (s : List UInt8) (w : World) :
  Calls Tryz.prog 67 #[.string (Str s)] w fun e w' => e = .returned (.bool (decide (s = []))) ∧ Fr (fun _ => False) w w' := by
 refine enter (cx := CX 5 [] w) [(0, .string (Str s))] tab_ok Tryz.func67 rfl rfl rfl rfl (MemOk.nil w _) ?_
 conv => whnf
 (repeat ((first | refine stp (by (repeat constructor); first | done | fail) ?_ | refine stn (by (repeat constructor); first | done | fail) ?_ | refine sto (by (repeat constructor); first | done | fail) (by first | omega | (simp only; omega)) ?_ | refine .mk fun Ap capp => ?_ | refine ⟨?_, trivial⟩ | intro _); conv => whnf))
 refine fin1 rfl rfl (fun w' hm => ⟨?_, hm.fr⟩)
 have : decide (Str s = ⟨#[]⟩) = decide (s = []) := decide_eq_decide.2 (Str.inj (l := s) (k := []))
 rw [← this]
/-- A name that is not empty. -/
def neB (s : List UInt8) : Bool := !decide (s = [])
set_option maxRecDepth 100000 in
theorem idxS_any (A : Option Addr) (cap : Nat) (l : List (List UInt8)) (w : World) (hn : l.length ≤ 1048576) (hm : MemOk w (Foot (StM A cap l)) (StM A cap l) w) :
  Ctr Tryz.prog 101 [.slice A l.length cap, .func (.func 67) #[] #[]] (StM A cap l) (fun e m' => e = .returned (.int .i64 (if (l.takeWhile neB).length < l.length then ((l.takeWhile neB).length : Nat) else -1)) ∧ m' = StM A cap l) w := by
 have hplA : 0 < l.length → Pl A := fun h => by
  obtain ⟨b, e, _⟩ := row_cell (hm.ok _ (List.mem_cons_self ..)) (strs_get h)
  exact ⟨b, 0, e⟩
 refine enter (cx := CXS 19 [] w (Foot (StM A cap l))) [(0, .slice A l.length cap), (1, .func (.func 67) #[] #[])] tab_ok Tryz.func101 rfl rfl rfl rfl hm ?_
 conv => whnf
 (repeat ((first | refine stp (by (repeat constructor); first | done | fail) ?_ | refine stn (by (repeat constructor); first | done | fail) ?_ | refine sto (by (repeat constructor); first | done | fail) (by first | omega | (simp only; omega)) ?_ | refine .mk fun Ap capp => ?_ | refine ⟨?_, trivial⟩ | intro _); conv => whnf))
 refine lp tab_ok (γ := Nat) (fun i => i ≤ l.length ∧ ∀ x ∈ l.take i, neB x = true) (fun i => [(8, .int .i64 i), (7, .int .i64 l.length), (0, .slice A l.length cap), (1, .func (.func 67) #[] #[])]) (fun _ => StM A cap l) (fun i => l.length - i) 0 ⟨by omega, fun x h => by simp at h⟩ ⟨rfl, rfl, rfl, rfl, trivial⟩ (SubM.refl _ _) ?_
 rintro i ⟨hi, hok⟩
 change XC _ _ _ [(8, .int .i64 (i : Int)), (7, .int .i64 l.length), (0, .slice A l.length cap), (1, .func (.func 67) #[] #[])] (StM A cap l)
 conv => whnf
 refine br_d (fun hlt => ?_) (fun hge => ?_)
 ·have hlt' : i < l.length := by omega
  have hx : l[i]? = some (l.getD i []) := by rw [List.getD, List.getElem?_eq_getElem hlt']; rfl
  conv => whnf
  (repeat ((first | refine stp (by (repeat constructor); first | done | fail) ?_ | refine stn (by (repeat constructor); first | done | fail) ?_ | refine sto (by (repeat constructor); first | done | fail) (by first | omega | (simp only; omega)) ?_ | refine .mk fun Ap capp => ?_ | refine ⟨?_, trivial⟩ | intro _); conv => whnf))
  refine And.intro ⟨by omega, by omega, hplA (by omega)⟩ ?_
  conv => whnf
  refine rn_load (v := .string (Str (l.getD i []))) (ldR tab_ok .here rfl rfl (strs_get (i := i) hlt')) ?_
  conv => whnf
  (repeat ((first | refine stp (by (repeat constructor); first | done | fail) ?_ | refine stn (by (repeat constructor); first | done | fail) ?_ | refine sto (by (repeat constructor); first | done | fail) (by first | omega | (simp only; omega)) ?_ | refine .mk fun Ap capp => ?_ | refine ⟨?_, trivial⟩ | intro _); conv => whnf))
  refine ⟨names1_enters, cl_same _ (fun w' hm' => names1_any (l.getD i []) w') ?_⟩
  by_cases h0 : l.getD i [] = []
  ·rw [decide_eq_true h0]
   conv => whnf
   (repeat ((first | refine stp (by (repeat constructor); first | done | fail) ?_ | refine stn (by (repeat constructor); first | done | fail) ?_ | refine sto (by (repeat constructor); first | done | fail) (by first | omega | (simp only; omega)) ?_ | refine .mk fun Ap capp => ?_ | refine ⟨?_, trivial⟩ | intro _); conv => whnf))
   refine br_t rfl ?_
   conv => whnf
   (repeat ((first | refine stp (by (repeat constructor); first | done | fail) ?_ | refine stn (by (repeat constructor); first | done | fail) ?_ | refine sto (by (repeat constructor); first | done | fail) (by first | omega | (simp only; omega)) ?_ | refine .mk fun Ap capp => ?_ | refine ⟨?_, trivial⟩ | intro _); conv => whnf))
   have hk : (l.takeWhile neB).length = i := tw_at neB l i _ hx hok (by rw [neB, decide_eq_true h0]; rfl)
   refine fin1 rfl rfl (fun w' hm => ⟨_, ⟨?_, rfl⟩, hm⟩)
   rw [hk, if_pos hlt']
  ·rw [decide_eq_false h0]
   conv => whnf
   (repeat ((first | refine stp (by (repeat constructor); first | done | fail) ?_ | refine stn (by (repeat constructor); first | done | fail) ?_ | refine sto (by (repeat constructor); first | done | fail) (by first | omega | (simp only; omega)) ?_ | refine .mk fun Ap capp => ?_ | refine ⟨?_, trivial⟩ | intro _); conv => whnf))
   refine br_f rfl ?_
   conv => whnf
   (repeat ((first | refine stp (by (repeat constructor); first | done | fail) ?_ | refine stn (by (repeat constructor); first | done | fail) ?_ | refine sto (by (repeat constructor); first | done | fail) (by first | omega | (simp only; omega)) ?_ | refine .mk fun Ap capp => ?_ | refine ⟨?_, trivial⟩ | intro _); conv => whnf))
   refine ⟨i + 1, ⟨by omega, fun y hy => ?_⟩, by omega, ⟨rfl, rfl, rfl, rfl, trivial⟩, SubM.refl _ _⟩
   rw [List.take_add_one, hx] at hy
   rcases List.mem_append.1 hy with hy | hy
   ·exact hok y hy
   ·simp only [Option.toList_some, List.mem_singleton] at hy
    subst hy
    rw [neB, decide_eq_false h0]; rfl
 ·conv => whnf
  (repeat ((first | refine stp (by (repeat constructor); first | done | fail) ?_ | refine stn (by (repeat constructor); first | done | fail) ?_ | refine sto (by (repeat constructor); first | done | fail) (by first | omega | (simp only; omega)) ?_ | refine .mk fun Ap capp => ?_ | refine ⟨?_, trivial⟩ | intro _); conv => whnf))
  refine fin1 rfl rfl (fun w' hm => ⟨_, ⟨?_, rfl⟩, hm⟩)
  rw [List.take_of_length_le (by omega)] at hok
  rw [tw_all neB l hok, if_neg (by omega)]
theorem take_filter_succ {l : List (List UInt8)} {j : Nat} {x : List UInt8} (h : l[j]? = some x) : (l.take (j + 1)).filter neB = (l.take j).filter neB ++ (if neB x then [x] else []) := by
 rw [List.take_add_one, h]
 simp only [Option.toList_some, List.filter_append]
 congr 1
 cases hx : neB x <;> simp [hx]
theorem tw_take {α : Type} (p : α → Bool) : ∀ (l : List α), l.takeWhile p = l.take (l.takeWhile p).length
 | [] => rfl
 | y :: l => by
  rw [List.takeWhile_cons]
  split
  ·rw [List.length_cons, List.take_succ_cons, ← tw_take p l]
  ·rfl
theorem tw_fail {α : Type} (p : α → Bool) : ∀ (l : List α), (l.takeWhile p).length < l.length → ∃ x, l[(l.takeWhile p).length]? = some x ∧ p x = false
 | [], h => by simp at h
 | y :: l, h => by
  rw [List.takeWhile_cons] at h ⊢
  cases hy : p y with
  | true =>
   simp only [hy, if_true, List.length_cons] at h ⊢
   obtain ⟨x, h1, h2⟩ := tw_fail p l (by omega)
   exact ⟨x, by simpa using h1, h2⟩
  | false => exact ⟨y, by simp, hy⟩
theorem split_at {l : List (List UInt8)} {j : Nat} {x : List UInt8} (h : l[j]? = some x) : l.drop j = x :: l.drop (j + 1) := by
 obtain ⟨h1, h2⟩ := List.getElem?_eq_some_iff.1 h
 rw [List.drop_eq_getElem_cons h1, h2]
set_option maxRecDepth 100000 in
set_option maxHeartbeats 1000000 in
theorem del_any (A : Option Addr) (cap : Nat) (l : List (List UInt8)) (w : World) (hn : l.length ≤ 1048576) (hm : MemOk w (Foot (StM A cap l)) (StM A cap l) w) :
  Ctr Tryz.prog 66 [.slice A l.length cap, .func (.func 67) #[] #[]] (StM A cap l) (fun e m' => ∃ A' cap', e = .returned (.slice A' (l.filter neB).length cap') ∧ m' = StM A' cap' (l.filter neB)) w := by
 refine enter (cx := CXS 42 [] w (Foot (StM A cap l))) [(0, .slice A l.length cap), (1, .func (.func 67) #[] #[])] tab_ok Tryz.func66 rfl rfl rfl rfl hm ?_
 conv => whnf
 refine ⟨idxS_enters, cl_mem (m1 := StM A cap l) (by (repeat constructor); first | done | fail) (fun w' hm' => idxS_any A cap l w' hn hm'.part) ?_⟩
 rintro e m' ⟨rfl, rfl⟩
 by_cases hbad : (l.takeWhile neB).length < l.length
 ·rw [if_pos hbad]
  have hpos : 0 < l.length := by omega
  obtain ⟨b, rfl, _⟩ := row_cell (hm.ok _ (List.mem_cons_self ..)) (strs_get hpos)
  obtain ⟨_, _, hcap⟩ := holds_row hm
  obtain ⟨x0, hx0, hx0n⟩ := tw_fail neB l hbad
  have htk := tw_take neB l
  have htm := tw_mem neB l
  generalize hk : (l.takeWhile neB).length = k at hbad hx0 htk
  have hfk : (l.take (k + 1)).filter neB = l.take k := by
   rw [take_filter_succ hx0, hx0n, if_neg (by simp), List.append_nil, List.filter_eq_self]
   intro y hy
   rw [← htk] at hy
   exact htm y hy
  conv => whnf
  refine br_f (decide_eq_false (by omega)) ?_
  conv => whnf
  (repeat ((first | refine stp (by (repeat constructor); first | done | fail) ?_ | refine stn (by (repeat constructor); first | done | fail) ?_ | refine sto (by (repeat constructor); first | done | fail) (by first | omega | (simp only; omega)) ?_ | refine .mk fun Ap capp => ?_ | refine ⟨?_, trivial⟩ | intro _); conv => whnf))
  refine lp tab_ok (γ := Nat × List (List UInt8)) (fun g => g.1 ≤ l.length ∧ ((l.take g.1).filter neB).length + g.2.length = g.1 ∧ 0 < g.2.length) (fun g => [(6, .int .i64 g.1), (5, .int .i64 ((l.take g.1).filter neB).length), (0, .slice (some ⟨b, 0, none⟩) l.length cap), (1, .func (.func 67) #[] #[])])
   (fun g => [.row (some ⟨b, 0, none⟩) cap l.length 9 1 (strsOf ((l.take g.1).filter neB ++ (g.2 ++ l.drop g.1)))]) (fun g => l.length - g.1) (k + 1, [x0]) ?_ ?_ ?_ ?_
  ·exact ⟨by simp only; omega, by simp only [hfk, List.length_take, List.length_singleton]; omega, by simp⟩
  ·refine ⟨rfl, ?_, rfl, rfl, trivial⟩
   simp only [hfk, List.length_take, Nat.min_eq_left (Nat.le_of_lt hbad)]
   rfl
  ·simp only [hfk]
   rw [show l.take k ++ ([x0] ++ l.drop (k + 1)) = l from by rw [List.singleton_append, ← split_at hx0, List.take_append_drop]]
   exact SubM.sel (by (repeat constructor); first | done | fail)
  ·rintro ⟨j, G⟩ ⟨hj, hlen, hG⟩
   simp only at hj hlen hG
   change XC _ _ _ [(6, .int .i64 (j : Int)), (5, .int .i64 ((l.take j).filter neB).length), (0, .slice (some ⟨b, 0, none⟩) l.length cap), (1, .func (.func 67) #[] #[])] [.row (some ⟨b, 0, none⟩) cap l.length 9 1 (strsOf ((l.take j).filter neB ++ (G ++ l.drop j)))]
   generalize hF : (l.take j).filter neB = F at hlen ⊢
   conv => whnf
   refine br_d (fun hlt => ?_) (fun hge => ?_)
   ·have hlt' : j < l.length := by omega
    have hx : l[j]? = some (l.getD j []) := by rw [List.getD, List.getElem?_eq_getElem hlt']; rfl
    have hfl := List.length_filter_le neB (l.take j)
    have hgj : (strsOf (F ++ (G ++ l.drop j)))[j]? = some (.string (Str (l.getD j []))) := by
     rw [strsOf, List.getElem?_map, ← List.append_assoc, List.getElem?_append_right (by simp; omega)]
     simp only [List.length_append, hlen, Nat.sub_self, List.getElem?_drop, Nat.add_zero, hx, Option.map_some]
    conv => whnf
    (repeat ((first | refine stp (by (repeat constructor); first | done | fail) ?_ | refine stn (by (repeat constructor); first | done | fail) ?_ | refine sto (by (repeat constructor); first | done | fail) (by first | omega | (simp only; omega)) ?_ | refine .mk fun Ap capp => ?_ | refine ⟨?_, trivial⟩ | intro _); conv => whnf))
    refine And.intro ⟨by omega, by omega, Pl.mk _ _⟩ ?_
    conv => whnf
    refine rn_load (v := .string (Str (l.getD j []))) (ldR tab_ok .here rfl rfl hgj) ?_
    conv => whnf
    (repeat ((first | refine stp (by (repeat constructor); first | done | fail) ?_ | refine stn (by (repeat constructor); first | done | fail) ?_ | refine sto (by (repeat constructor); first | done | fail) (by first | omega | (simp only; omega)) ?_ | refine .mk fun Ap capp => ?_ | refine ⟨?_, trivial⟩ | intro _); conv => whnf))
    refine ⟨names1_enters, cl_same _ (fun w' hm' => names1_any (l.getD j []) w') ?_⟩
    by_cases h0 : l.getD j [] = []
    ·rw [decide_eq_true h0]
     conv => whnf
     (repeat ((first | refine stp (by (repeat constructor); first | done | fail) ?_ | refine stn (by (repeat constructor); first | done | fail) ?_ | refine sto (by (repeat constructor); first | done | fail) (by first | omega | (simp only; omega)) ?_ | refine .mk fun Ap capp => ?_ | refine ⟨?_, trivial⟩ | intro _); conv => whnf))
     refine br_f rfl ?_
     conv => whnf
     (repeat ((first | refine stp (by (repeat constructor); first | done | fail) ?_ | refine stn (by (repeat constructor); first | done | fail) ?_ | refine sto (by (repeat constructor); first | done | fail) (by first | omega | (simp only; omega)) ?_ | refine .mk fun Ap capp => ?_ | refine ⟨?_, trivial⟩ | intro _); conv => whnf))
     refine ⟨(j + 1, G ++ [l.getD j []]), ⟨by simp only; omega, ?_, by simp⟩, by simp only; omega, ⟨rfl, ?_, rfl, rfl, trivial⟩, ?_⟩
     ·simp only [take_filter_succ hx, hF]
      rw [h0, show neB [] = false from rfl, if_neg (by simp)]
      simp only [List.append_nil, List.length_append, List.length_singleton]; omega
     ·simp only [take_filter_succ hx, hF]
      rw [h0, show neB [] = false from rfl, if_neg (by simp), List.append_nil]
      rfl
     ·simp only [take_filter_succ hx, hF]
      rw [show neB (l.getD j []) = false from by rw [h0]; rfl, if_neg (by simp), List.append_nil, split_at hx]
      simp only [List.append_assoc, List.singleton_append]
      exact SubM.refl _ _
    ·rw [decide_eq_false h0]
     conv => whnf
     (repeat ((first | refine stp (by (repeat constructor); first | done | fail) ?_ | refine stn (by (repeat constructor); first | done | fail) ?_ | refine sto (by (repeat constructor); first | done | fail) (by first | omega | (simp only; omega)) ?_ | refine .mk fun Ap capp => ?_ | refine ⟨?_, trivial⟩ | intro _); conv => whnf))
     refine br_t rfl ?_
     conv => whnf
     (repeat ((first | refine stp (by (repeat constructor); first | done | fail) ?_ | refine stn (by (repeat constructor); first | done | fail) ?_ | refine sto (by (repeat constructor); first | done | fail) (by first | omega | (simp only; omega)) ?_ | refine .mk fun Ap capp => ?_ | refine ⟨?_, trivial⟩ | intro _); conv => whnf))
     refine And.intro ⟨by omega, by omega, Pl.mk _ _⟩ ?_
     conv => whnf
     have hne : neB (l.getD j []) = true := by rw [neB, decide_eq_false h0]; rfl
     obtain ⟨g0, G', rfl⟩ : ∃ g0 G', G = g0 :: G' := by
      cases G with
      | nil => cases hG
      | cons g0 G' => exact ⟨g0, G', rfl⟩
     refine rn_storeR (off := F.length) (xs' := strsOf ((F ++ [l.getD j []]) ++ ((G' ++ [l.getD j []]) ++ l.drop (j + 1)))) tab_ok rfl .here rfl rfl (by show F.length + 1 ≤ l.length * 1; omega) (Nat.one_pos) ?_ ?_
     ·show List.set (strsOf (F ++ (g0 :: G' ++ l.drop j))) F.length _ = _
      rw [split_at hx]
      simp [strsOf, List.set_append]
     ·conv => whnf
      (repeat ((first | refine stp (by (repeat constructor); first | done | fail) ?_ | refine stn (by (repeat constructor); first | done | fail) ?_ | refine sto (by (repeat constructor); first | done | fail) (by first | omega | (simp only; omega)) ?_ | refine .mk fun Ap capp => ?_ | refine ⟨?_, trivial⟩ | intro _); conv => whnf))
      refine ⟨(j + 1, G' ++ [l.getD j []]), ⟨by simp only; omega, ?_, by simp⟩, by simp only; omega, ⟨rfl, ?_, rfl, rfl, trivial⟩, ?_⟩
      ·simp only [take_filter_succ hx, hF, hne, if_true, List.length_append, List.length_singleton]
       simp only [List.length_cons] at hlen
       omega
      ·simp only [take_filter_succ hx, hF, hne, if_true, List.length_append, List.length_singleton]
       rfl
      ·simp only [take_filter_succ hx, hF, hne, if_true]
       exact SubM.refl _ _
   ·have hjl : j = l.length := by omega
    conv => whnf
    (repeat ((first | refine stp (by (repeat constructor); first | done | fail) ?_ | refine stn (by (repeat constructor); first | done | fail) ?_ | refine sto (by (repeat constructor); first | done | fail) (by first | omega | (simp only; omega)) ?_ | refine .mk fun Ap capp => ?_ | refine ⟨?_, trivial⟩ | intro _); conv => whnf))
    refine And.intro ⟨by omega, by omega, by omega, .inr (Pl.mk _ _)⟩ ?_
    conv => whnf
    (repeat ((first | refine stp (by (repeat constructor); first | done | fail) ?_ | refine stn (by (repeat constructor); first | done | fail) ?_ | refine sto (by (repeat constructor); first | done | fail) (by first | omega | (simp only; omega)) ?_ | refine .mk fun Ap capp => ?_ | refine ⟨?_, trivial⟩ | intro _); conv => whnf))
    have eC : cutA (some ⟨b, 0, none⟩) cap ((F.length : Int).toNat) ty9.cells = some ⟨b, F.length, none⟩ := by
     show cutA (some ⟨b, 0, none⟩) cap F.length 1 = _
     unfold cutA
     rw [if_neg (by omega), mulC_eq, Nat.mul_one]
     show some (⟨b, 0 + F.length, none⟩ : Addr) = _
     rw [Nat.zero_add]
    have eL : (l.length : Int).toNat - (F.length : Int).toNat = G.length := by omega
    have eD : l.drop j = [] := List.drop_eq_nil_of_le (by omega)
    rw [eC, eL, eD, List.append_nil]
    refine rn_clear rfl .here (by omega) hG ?_
    conv => whnf
    (repeat ((first | refine stp (by (repeat constructor); first | done | fail) ?_ | refine stn (by (repeat constructor); first | done | fail) ?_ | refine sto (by (repeat constructor); first | done | fail) (by first | omega | (simp only; omega)) ?_ | refine .mk fun Ap capp => ?_ | refine ⟨?_, trivial⟩ | intro _); conv => whnf))
    refine And.intro ⟨by omega, by omega, by omega, .inr (Pl.mk _ _)⟩ ?_
    conv => whnf
    (repeat ((first | refine stp (by (repeat constructor); first | done | fail) ?_ | refine stn (by (repeat constructor); first | done | fail) ?_ | refine sto (by (repeat constructor); first | done | fail) (by first | omega | (simp only; omega)) ?_ | refine .mk fun Ap capp => ?_ | refine ⟨?_, trivial⟩ | intro _); conv => whnf))
    have hres : l.filter neB = F := by rw [← hF, List.take_of_length_le (by omega)]
    have hcut : cutA (some ⟨b, 0, none⟩) cap (Int.toNat 0) ty9.cells = some ⟨b, 0, none⟩ := by unfold cutA; split <;> rfl
    refine fin1 rfl rfl (fun w' hm => ⟨_, ⟨some ⟨b, 0, none⟩, cap, ?_, ?_⟩, hm⟩)
    ·rw [hres, hcut]; rfl
    ·rw [hres]
 ·rw [if_neg hbad]
  conv => whnf
  (repeat ((first | refine stp (by (repeat constructor); first | done | fail) ?_ | refine stn (by (repeat constructor); first | done | fail) ?_ | refine sto (by (repeat constructor); first | done | fail) (by first | omega | (simp only; omega)) ?_ | refine .mk fun Ap capp => ?_ | refine ⟨?_, trivial⟩ | intro _); conv => whnf))
  refine br_t rfl ?_
  conv => whnf
  (repeat ((first | refine stp (by (repeat constructor); first | done | fail) ?_ | refine stn (by (repeat constructor); first | done | fail) ?_ | refine sto (by (repeat constructor); first | done | fail) (by first | omega | (simp only; omega)) ?_ | refine .mk fun Ap capp => ?_ | refine ⟨?_, trivial⟩ | intro _); conv => whnf))
  have hall : l.filter neB = l := by
   rw [List.filter_eq_self]
   intro x hx
   have h1 := (List.takeWhile_sublist neB (l := l))
   have h2 := h1.eq_of_length (by have := h1.length_le; omega)
   exact tw_mem neB l x (by rw [h2]; exact hx)
  refine fin1 rfl rfl (fun w' hm => ⟨_, ⟨A, cap, ?_, ?_⟩, hm⟩)
  ·rw [hall]
  ·rw [hall]; rfl
end Go.Proofs.YtbfbjgakmnckbaaGreatDoor
namespace Go.Proofs.YtbfbjgakmnckbaaGreatDoor
open Go Go.RowKit Eng
attribute [local irreducible] Br Rn RnU Cl RdG CpG Ld Rd Lp Dr Oth Cut fin Fits Eng.Enters Md NA
theorem snames_enters : Eng.Enters Tryz.prog 31 := enters_mk fun _ _ => by kernel_rfl
/-- The names that the acts name, one behind another. -/
def rawNames (l : List PAct) : List (List UInt8) := l.flatMap fun a => bs a.name :: (if twoK a.kind then [bs a.other] else [])
def namesS (l : List PAct) : List (List UInt8) := (Lib.compact (sortL (rawNames l))).filter neB
theorem rawNames_take {l : List PAct} {i : Nat} {a : PAct} (h : l[i]? = some a) : rawNames (l.take (i + 1)) = rawNames (l.take i) ++ (bs a.name :: (if twoK a.kind then [bs a.other] else [])) := by
 rw [List.take_add_one, h]; simp [rawNames]
theorem stm_eq {A : Option Addr} {cap n : Nat} {l : List (List UInt8)} {xs : List Value} (h : l.length = n) (hx : strsOf l = xs) : StM A cap l = [.row A cap n 9 1 xs] := by rw [StM, h, hx]
theorem strsOf_app (a b : List (List UInt8)) : strsOf (a ++ b) = strsOf a ++ strsOf b := by simp [strsOf]
set_option maxRecDepth 100000 in
set_option maxHeartbeats 1000000 in
theorem snames_any (A : Option Addr) (c : Nat) (L : List LA) (w : World) (hL : ActsIn w A L) (hn : L.length ≤ 65536) :
  Ctr Tryz.prog 31 [.slice A L.length c] [] (fun e m' => ∃ A' c', e = .returned (.slice A' (namesS (L.map LA.a)).length c') ∧ m' = StM A' c' (namesS (L.map LA.a))) w := by
 refine enter (cx := CXS 36 [] w (Foot [])) [(0, .slice A L.length c)] tab_ok Tryz.func31 rfl rfl rfl rfl (MemOk.nil w _) ?_
 conv => whnf
 (repeat ((first | refine stp (by (repeat constructor); first | done | fail) ?_ | refine stn (by (repeat constructor); first | done | fail) ?_ | refine sto (by (repeat constructor); first | done | fail) (by first | omega | (simp only; omega)) ?_ | refine .mk fun Ap capp => ?_ | refine ⟨?_, trivial⟩ | intro _); conv => whnf))
 refine lp tab_ok (γ := Nat × Option Addr × Nat) (fun g => g.1 ≤ L.length ∧ (rawNames ((L.map LA.a).take g.1)).length ≤ 2 * g.1) (fun g => [(8, .int .i64 g.1), (6, .slice A L.length c), (7, .int .i64 L.length), (3, .slice g.2.1 (rawNames ((L.map LA.a).take g.1)).length g.2.2)]) (fun g => StM g.2.1 g.2.2 (rawNames ((L.map LA.a).take g.1))) (fun g => L.length - g.1) (0, none, 0) ⟨by omega, by simp [rawNames]⟩ ⟨rfl, rfl, rfl, rfl, trivial⟩ (SubM.row0 (SubM.refl _ _) 9 1) ?_
 rintro ⟨i, oA, oc⟩ ⟨hi, hlen⟩
 simp only at hi hlen
 change XC _ _ _ [(8, .int .i64 (i : Int)), (6, .slice A L.length c), (7, .int .i64 L.length), (3, .slice oA (rawNames ((L.map LA.a).take i)).length oc)] (StM oA oc (rawNames ((L.map LA.a).take i)))
 conv => whnf
 refine br_d (fun hlt => ?_) (fun hge => ?_)
 ·have hlt' : i < L.length := by omega
  have hx := List.getElem?_eq_getElem hlt'
  have hpl := hL.plain (by omega)
  generalize L[i] = x at hx
  have hxa : (L.map LA.a)[i]? = some x.a := by rw [List.getElem?_map, hx]; rfl
  have hstep := rawNames_take hxa
  generalize rawNames ((L.map LA.a).take i) = l at hlen hstep ⊢
  conv => whnf
  refine And.intro ⟨by omega, by omega, hpl⟩ ?_
  conv => whnf
  refine rn_load (hL.ld rfl rfl foot_no hx) ?_
  conv => whnf
  intro aB
  conv => whnf
  (repeat ((first | refine stp (by (repeat constructor); first | done | fail) ?_ | refine stn (by (repeat constructor); first | done | fail) ?_ | refine sto (by (repeat constructor); first | done | fail) (by first | omega | (simp only; omega)) ?_ | refine .mk fun Ap capp => ?_ | refine ⟨?_, trivial⟩ | intro _); conv => whnf))
  refine br_d (fun h1 => ?_) (fun h1 => ?_)
  ·conv => whnf
   (repeat ((first | refine stp (by (repeat constructor); first | done | fail) ?_ | refine stn (by (repeat constructor); first | done | fail) ?_ | refine sto (by (repeat constructor); first | done | fail) (by first | omega | (simp only; omega)) ?_ | refine .mk fun Ap capp => ?_ | refine ⟨?_, trivial⟩ | intro _); conv => whnf))
   refine br_t (decide_eq_true h1) ?_
   conv => whnf
   (repeat ((first | refine stp (by (repeat constructor); first | done | fail) ?_ | refine stn (by (repeat constructor); first | done | fail) ?_ | refine sto (by (repeat constructor); first | done | fail) (by first | omega | (simp only; omega)) ?_ | refine .mk fun Ap capp => ?_ | refine ⟨?_, trivial⟩ | intro _); conv => whnf))
   have hst : rawNames ((L.map LA.a).take (i + 1)) = l ++ [bs x.a.name, bs x.a.other] := by rw [hstep, if_pos (by simp [twoK, h1])]
   have e2 : strsOf (l ++ [bs x.a.name, bs x.a.other]) = strsOf l ++ [.string x.a.name] ++ [.string x.a.other] := by rw [strsOf_app]; simp [strsOf, Str_bs]
   refine ⟨(i + 1, Ap, capp), ⟨by simp only; omega, by simp only [hst, List.length_append, List.length_cons, List.length_nil]; omega⟩, by simp only; omega, ⟨rfl, rfl, rfl, ?_, trivial⟩, ?_⟩
   ·simp only [hst, List.length_append, List.length_cons, List.length_nil]; rfl
   ·show SubM _ _ (StM Ap capp (rawNames ((L.map LA.a).take (i + 1))))
    rw [stm_eq (by rw [hst, List.length_append]) (hst ▸ e2)]
    exact SubM.sel (by (repeat constructor); first | done | fail)
  ·conv => whnf
   (repeat ((first | refine stp (by (repeat constructor); first | done | fail) ?_ | refine stn (by (repeat constructor); first | done | fail) ?_ | refine sto (by (repeat constructor); first | done | fail) (by first | omega | (simp only; omega)) ?_ | refine .mk fun Ap capp => ?_ | refine ⟨?_, trivial⟩ | intro _); conv => whnf))
   refine br_d (fun h19 => ?_) (fun h19 => ?_)
   ·conv => whnf
    (repeat ((first | refine stp (by (repeat constructor); first | done | fail) ?_ | refine stn (by (repeat constructor); first | done | fail) ?_ | refine sto (by (repeat constructor); first | done | fail) (by first | omega | (simp only; omega)) ?_ | refine .mk fun Ap capp => ?_ | refine ⟨?_, trivial⟩ | intro _); conv => whnf))
    refine br_t (decide_eq_true h19) ?_
    conv => whnf
    (repeat ((first | refine stp (by (repeat constructor); first | done | fail) ?_ | refine stn (by (repeat constructor); first | done | fail) ?_ | refine sto (by (repeat constructor); first | done | fail) (by first | omega | (simp only; omega)) ?_ | refine .mk fun Ap capp => ?_ | refine ⟨?_, trivial⟩ | intro _); conv => whnf))
    have hst : rawNames ((L.map LA.a).take (i + 1)) = l ++ [bs x.a.name, bs x.a.other] := by rw [hstep, if_pos (by simp [twoK, h19])]
    have e2 : strsOf (l ++ [bs x.a.name, bs x.a.other]) = strsOf l ++ [.string x.a.name] ++ [.string x.a.other] := by rw [strsOf_app]; simp [strsOf, Str_bs]
    refine ⟨(i + 1, Ap, capp), ⟨by simp only; omega, by simp only [hst, List.length_append, List.length_cons, List.length_nil]; omega⟩, by simp only; omega, ⟨rfl, rfl, rfl, ?_, trivial⟩, ?_⟩
    ·simp only [hst, List.length_append, List.length_cons, List.length_nil]; rfl
    ·show SubM _ _ (StM Ap capp (rawNames ((L.map LA.a).take (i + 1))))
     rw [stm_eq (by rw [hst, List.length_append]) (hst ▸ e2)]
     exact SubM.sel (by (repeat constructor); first | done | fail)
   ·conv => whnf
    (repeat ((first | refine stp (by (repeat constructor); first | done | fail) ?_ | refine stn (by (repeat constructor); first | done | fail) ?_ | refine sto (by (repeat constructor); first | done | fail) (by first | omega | (simp only; omega)) ?_ | refine .mk fun Ap capp => ?_ | refine ⟨?_, trivial⟩ | intro _); conv => whnf))
    refine br_d (fun h20 => ?_) (fun h20 => ?_)
    ·conv => whnf
     (repeat ((first | refine stp (by (repeat constructor); first | done | fail) ?_ | refine stn (by (repeat constructor); first | done | fail) ?_ | refine sto (by (repeat constructor); first | done | fail) (by first | omega | (simp only; omega)) ?_ | refine .mk fun Ap capp => ?_ | refine ⟨?_, trivial⟩ | intro _); conv => whnf))
     refine br_t (decide_eq_true h20) ?_
     conv => whnf
     (repeat ((first | refine stp (by (repeat constructor); first | done | fail) ?_ | refine stn (by (repeat constructor); first | done | fail) ?_ | refine sto (by (repeat constructor); first | done | fail) (by first | omega | (simp only; omega)) ?_ | refine .mk fun Ap capp => ?_ | refine ⟨?_, trivial⟩ | intro _); conv => whnf))
     have hst : rawNames ((L.map LA.a).take (i + 1)) = l ++ [bs x.a.name, bs x.a.other] := by rw [hstep, if_pos (by simp [twoK, h20])]
     have e2 : strsOf (l ++ [bs x.a.name, bs x.a.other]) = strsOf l ++ [.string x.a.name] ++ [.string x.a.other] := by rw [strsOf_app]; simp [strsOf, Str_bs]
     refine ⟨(i + 1, Ap, capp), ⟨by simp only; omega, by simp only [hst, List.length_append, List.length_cons, List.length_nil]; omega⟩, by simp only; omega, ⟨rfl, rfl, rfl, ?_, trivial⟩, ?_⟩
     ·simp only [hst, List.length_append, List.length_cons, List.length_nil]; rfl
     ·show SubM _ _ (StM Ap capp (rawNames ((L.map LA.a).take (i + 1))))
      rw [stm_eq (by rw [hst, List.length_append]) (hst ▸ e2)]
      exact SubM.sel (by (repeat constructor); first | done | fail)
    ·conv => whnf
     (repeat ((first | refine stp (by (repeat constructor); first | done | fail) ?_ | refine stn (by (repeat constructor); first | done | fail) ?_ | refine sto (by (repeat constructor); first | done | fail) (by first | omega | (simp only; omega)) ?_ | refine .mk fun Ap capp => ?_ | refine ⟨?_, trivial⟩ | intro _); conv => whnf))
     refine br_d (fun h21 => ?_) (fun h21 => ?_)
     ·conv => whnf
      (repeat ((first | refine stp (by (repeat constructor); first | done | fail) ?_ | refine stn (by (repeat constructor); first | done | fail) ?_ | refine sto (by (repeat constructor); first | done | fail) (by first | omega | (simp only; omega)) ?_ | refine .mk fun Ap capp => ?_ | refine ⟨?_, trivial⟩ | intro _); conv => whnf))
      have hst : rawNames ((L.map LA.a).take (i + 1)) = l ++ [bs x.a.name, bs x.a.other] := by rw [hstep, if_pos (by simp [twoK, h21])]
      have e2 : strsOf (l ++ [bs x.a.name, bs x.a.other]) = strsOf l ++ [.string x.a.name] ++ [.string x.a.other] := by rw [strsOf_app]; simp [strsOf, Str_bs]
      refine ⟨(i + 1, Ap, capp), ⟨by simp only; omega, by simp only [hst, List.length_append, List.length_cons, List.length_nil]; omega⟩, by simp only; omega, ⟨rfl, rfl, rfl, ?_, trivial⟩, ?_⟩
      ·simp only [hst, List.length_append, List.length_cons, List.length_nil]; rfl
      ·show SubM _ _ (StM Ap capp (rawNames ((L.map LA.a).take (i + 1))))
       rw [stm_eq (by rw [hst, List.length_append]) (hst ▸ e2)]
       exact SubM.sel (by (repeat constructor); first | done | fail)
     ·conv => whnf
      (repeat ((first | refine stp (by (repeat constructor); first | done | fail) ?_ | refine stn (by (repeat constructor); first | done | fail) ?_ | refine sto (by (repeat constructor); first | done | fail) (by first | omega | (simp only; omega)) ?_ | refine .mk fun Ap capp => ?_ | refine ⟨?_, trivial⟩ | intro _); conv => whnf))
      have hst : rawNames ((L.map LA.a).take (i + 1)) = l ++ [bs x.a.name] := by rw [hstep, if_neg (by simp [twoK, h1, h19, h20, h21])]
      have e2 : strsOf (l ++ [bs x.a.name]) = strsOf l ++ [.string x.a.name] := by rw [strsOf_app]; simp [strsOf, Str_bs]
      refine ⟨(i + 1, Ap, capp), ⟨by simp only; omega, by simp only [hst, List.length_append, List.length_cons, List.length_nil]; omega⟩, by simp only; omega, ⟨rfl, rfl, rfl, ?_, trivial⟩, ?_⟩
      ·simp only [hst, List.length_append, List.length_cons, List.length_nil]; rfl
      ·show SubM _ _ (StM Ap capp (rawNames ((L.map LA.a).take (i + 1))))
       rw [stm_eq (by rw [hst, List.length_append]) (hst ▸ e2)]
       exact SubM.sel (by (repeat constructor); first | done | fail)
 ·have hil : i = L.length := by omega
  rw [List.take_of_length_le (by simp; omega)] at hlen ⊢
  conv => whnf
  (repeat ((first | refine stp (by (repeat constructor); first | done | fail) ?_ | refine stn (by (repeat constructor); first | done | fail) ?_ | refine sto (by (repeat constructor); first | done | fail) (by first | omega | (simp only; omega)) ?_ | refine .mk fun Ap capp => ?_ | refine ⟨?_, trivial⟩ | intro _); conv => whnf))
  refine ⟨sort_enters, cl_sort rfl (by (repeat constructor); first | done | fail) (by omega) ?_⟩
  conv => whnf
  (repeat ((first | refine stp (by (repeat constructor); first | done | fail) ?_ | refine stn (by (repeat constructor); first | done | fail) ?_ | refine sto (by (repeat constructor); first | done | fail) (by first | omega | (simp only; omega)) ?_ | refine .mk fun Ap capp => ?_ | refine ⟨?_, trivial⟩ | intro _); conv => whnf))
  have hs := sortL_length (rawNames (L.map LA.a))
  refine ⟨compact_enters, ?_⟩
  rw [← hs]
  refine cl_compact rfl (by (repeat constructor); first | done | fail) (by omega) ?_
  conv => whnf
  (repeat ((first | refine stp (by (repeat constructor); first | done | fail) ?_ | refine stn (by (repeat constructor); first | done | fail) ?_ | refine sto (by (repeat constructor); first | done | fail) (by first | omega | (simp only; omega)) ?_ | refine .mk fun Ap capp => ?_ | refine ⟨?_, trivial⟩ | intro _); conv => whnf))
  have hc := Lib.compact_length_le (sortL (rawNames (L.map LA.a)))
  refine ⟨del_enters, cl_mem (m1 := StM oA oc (Lib.compact (sortL (rawNames (L.map LA.a))))) (by (repeat constructor); first | done | fail) (fun w' hm' => del_any oA oc (Lib.compact (sortL (rawNames (L.map LA.a)))) w' (by omega) hm'.part) ?_⟩
  rintro e m' ⟨A', c', rfl, rfl⟩
  conv => whnf
  (repeat ((first | refine stp (by (repeat constructor); first | done | fail) ?_ | refine stn (by (repeat constructor); first | done | fail) ?_ | refine sto (by (repeat constructor); first | done | fail) (by first | omega | (simp only; omega)) ?_ | refine .mk fun Ap capp => ?_ | refine ⟨?_, trivial⟩ | intro _); conv => whnf))
  exact fin1 rfl rfl (fun w' hm => ⟨_, ⟨A', c', rfl, rfl⟩, hm.sel (by (repeat constructor); first | done | fail)⟩)
end Go.Proofs.YtbfbjgakmnckbaaGreatDoor
namespace Go.Proofs.YtbfbjgakmnckbaaGreatDoor
open Go Go.RowKit Eng
theorem u8_lt_irr (a : UInt8) : ¬ a < a := UInt8.lt_irrefl a
theorem u8_tri {a b : UInt8} (h1 : ¬ a < b) (h2 : ¬ b < a) : a = b := UInt8.toNat_inj.1 (by rw [UInt8.lt_iff_toNat_lt] at h1 h2; omega)
theorem bl_irr : ∀ x : List UInt8, Op.bytesLess x x = false
 | [] => rfl
 | a :: x => by
  show (decide (a < a) || (a == a && Op.bytesLess x x)) = false
  rw [bl_irr x, decide_eq_false (u8_lt_irr a), Bool.and_false]; rfl
theorem bl_cons (a b : UInt8) (x y : List UInt8) : Op.bytesLess (a :: x) (b :: y) = true ↔ a < b ∨ (a = b ∧ Op.bytesLess x y = true) := by
 show (decide (a < b) || (a == b && Op.bytesLess x y)) = true ↔ _
 simp
theorem bl_trans : ∀ {x y z : List UInt8}, Op.bytesLess x y = true → Op.bytesLess y z = true → Op.bytesLess x z = true
 | _, _, [], _, h => by cases ‹List UInt8› <;> simp [Op.bytesLess] at h
 | [], _, _ :: _, _, _ => rfl
 | _ :: _, [], _ :: _, h, _ => by simp [Op.bytesLess] at h
 | a :: x, b :: y, c :: z, h1, h2 => by
  rw [bl_cons] at h1 h2 ⊢
  rcases h1 with h1 | ⟨rfl, h1⟩
  ·rcases h2 with h2 | ⟨rfl, h2⟩
   ·exact .inl (by rw [UInt8.lt_iff_toNat_lt] at *; omega)
   ·exact .inl h1
  ·rcases h2 with h2 | ⟨rfl, h2⟩
   ·exact .inl h2
   ·exact .inr ⟨rfl, bl_trans h1 h2⟩
theorem bl_tri : ∀ {x y : List UInt8}, Op.bytesLess x y = false → Op.bytesLess y x = false → x = y
 | [], [], _, _ => rfl
 | [], _ :: _, h, _ => by simp [Op.bytesLess] at h
 | _ :: _, [], _, h => by simp [Op.bytesLess] at h
 | a :: x, b :: y, h1, h2 => by
  have e1 := mt (bl_cons a b x y).2 (by rw [h1]; simp)
  have e2 := mt (bl_cons b a y x).2 (by rw [h2]; simp)
  have e : a = b := u8_tri (fun h => e1 (.inl h)) (fun h => e2 (.inl h))
  subst e
  rw [bl_tri (x := x) (y := y) (by cases h : Op.bytesLess x y; rfl; exact absurd (.inr ⟨rfl, h⟩) e1) (by cases h : Op.bytesLess y x; rfl; exact absurd (.inr ⟨rfl, h⟩) e2)]
theorem bl_lt : ∀ x y : List UInt8, x < y ↔ Op.bytesLess x y = true
 | x, [] => by cases x <;> simp [Op.bytesLess]
 | [], _ :: _ => by simp [Op.bytesLess]
 | a :: x, b :: y => by rw [List.cons_lt_cons_iff, bl_cons, bl_lt x y]
theorem le_bl (x y : List UInt8) : decide (x ≤ y) = !Op.bytesLess y x := by
 have h : x ≤ y ↔ ¬ (y < x) := Iff.rfl
 cases hb : Op.bytesLess y x with
 | true => exact decide_eq_false (fun hle => h.1 hle ((bl_lt y x).2 hb))
 | false => exact decide_eq_true (h.2 (fun hlt => by rw [(bl_lt y x).1 hlt] at hb; cases hb))
/-- Rising, each once. -/
def Ris (l : List (List UInt8)) : Prop := l.Pairwise fun x y => Op.bytesLess x y = true
theorem ris_eq : ∀ {l k : List (List UInt8)}, Ris l → Ris k → (∀ x, x ∈ l ↔ x ∈ k) → l = k
 | [], [], _, _, _ => rfl
 | [], y :: k, _, _, h => absurd ((h y).2 (List.mem_cons_self ..)) (by simp)
 | x :: l, [], _, _, h => absurd ((h x).1 (List.mem_cons_self ..)) (by simp)
 | x :: l, y :: k, h1, h2, h => by
  obtain ⟨a1, a2⟩ := List.pairwise_cons.1 h1
  obtain ⟨b1, b2⟩ := List.pairwise_cons.1 h2
  have e : x = y := by
   rcases List.mem_cons.1 ((h x).1 (List.mem_cons_self ..)) with e | e
   ·exact e
   ·rcases List.mem_cons.1 ((h y).2 (List.mem_cons_self ..)) with e' | e'
    ·exact e'.symm
    ·have := bl_trans (a1 y e') (b1 x e)
     rw [bl_irr] at this; cases this
  subst e
  rw [ris_eq a2 b2 (fun z => ?_)]
  have hz := h z
  simp only [List.mem_cons] at hz
  constructor
  ·intro hm
   rcases hz.1 (.inr hm) with e | e
   ·subst e
    have := a1 z hm
    rw [bl_irr] at this; cases this
   ·exact e
  ·intro hm
   rcases hz.2 (.inr hm) with e | e
   ·subst e
    have := b1 z hm
    rw [bl_irr] at this; cases this
   ·exact e
theorem mem_insL {l : List (List UInt8)} {s : List UInt8} (hr : Ris l) : Ris (insL l s) ∧ ∀ x, x ∈ insL l s ↔ (x ∈ l ∨ (x = s ∧ s ≠ [])) := by
 unfold insL
 split
 ·rename_i h; exact ⟨hr, fun x => by simp [h]⟩
 ·rename_i h0
  split
  ·rename_i h1
   refine ⟨hr, fun x => ⟨.inl, fun h => h.elim id fun e => ?_⟩⟩
   rw [e.1]; exact List.mem_of_getElem? h1
  ·rename_i h1
   have htk : l.take (insK l s) = l.takeWhile (fun x => Op.bytesLess x s) := (tw_take _ l).symm
   have hlow : ∀ x ∈ l.take (insK l s), Op.bytesLess x s = true := fun x hx => tw_mem (fun x => Op.bytesLess x s) l x (by rw [← htk]; exact hx)
   have hhigh : ∀ x ∈ l.drop (insK l s), Op.bytesLess s x = true := by
    intro x hx
    by_cases hlt : insK l s < l.length
    ·obtain ⟨y, hy, hyn⟩ := tw_fail (fun x => Op.bytesLess x s) l hlt
     have hyn : Op.bytesLess y s = false := hyn
     have hy' : l[insK l s]? = some y := hy
     have hsy : Op.bytesLess s y = true := by
      cases h : Op.bytesLess s y with
      | true => rfl
      | false => exact absurd (by rw [hy', bl_tri hyn h]) h1
     rw [split_at hy'] at hx
     rcases List.mem_cons.1 hx with e | e
     ·rw [e]; exact hsy
     ·have hp : Ris (l.drop (insK l s)) := List.Pairwise.sublist (List.drop_sublist ..) hr
      rw [split_at hy'] at hp
      exact bl_trans hsy ((List.pairwise_cons.1 hp).1 x e)
    ·rw [List.drop_eq_nil_of_le (by omega)] at hx; cases hx
   refine ⟨List.pairwise_append.2 ⟨List.Pairwise.sublist (List.take_sublist ..) hr, List.pairwise_cons.2 ⟨hhigh, List.Pairwise.sublist (List.drop_sublist ..) hr⟩, fun a ha b hb => ?_⟩, fun x => ?_⟩
   ·rcases List.mem_cons.1 hb with e | e
    ·rw [e]; exact hlow a ha
    ·exact bl_trans (hlow a ha) (hhigh b e)
   ·have hmem : x ∈ l ↔ x ∈ l.take (insK l s) ∨ x ∈ l.drop (insK l s) := by rw [← List.mem_append, List.take_append_drop]
    rw [hmem, List.mem_append, List.mem_cons]
    constructor
    ·rintro (h | h | h)
     ·exact .inl (.inl h)
     ·exact .inr ⟨h, h0⟩
     ·exact .inl (.inr h)
    ·rintro ((h | h) | ⟨h, _⟩)
     ·exact .inl h
     ·exact .inr (.inr h)
     ·exact .inr (.inl h)
theorem namesR_ris : ∀ (l : List PAct) (acc : List (List UInt8)), Ris acc → Ris (l.foldl namesStep acc) ∧ ∀ x, x ∈ l.foldl namesStep acc ↔ (x ∈ acc ∨ (x ∈ rawNames l ∧ x ≠ []))
 | [], acc, h => ⟨h, fun x => by simp [rawNames]⟩
 | a :: l, acc, h => by
  have hs : Ris (namesStep acc a) ∧ ∀ x, x ∈ namesStep acc a ↔ (x ∈ acc ∨ (x ∈ rawNames [a] ∧ x ≠ [])) := by
   unfold namesStep rawNames
   obtain ⟨r1, m1⟩ := mem_insL (s := bs a.name) h
   split
   ·rename_i hk
    obtain ⟨r2, m2⟩ := mem_insL (s := bs a.other) r1
    refine ⟨r2, fun x => ?_⟩
    rw [m2, m1]
    simp [hk]
    grind
   ·rename_i hk
    refine ⟨r1, fun x => ?_⟩
    rw [m1]
    simp [hk]
    grind
  obtain ⟨i1, i2⟩ := namesR_ris l _ hs.1
  refine ⟨i1, fun x => ?_⟩
  rw [List.foldl_cons, i2, hs.2]
  have : rawNames (a :: l) = rawNames [a] ++ rawNames l := by simp [rawNames]
  rw [this, List.mem_append]
  grind
theorem compact_ris (zs : List (List UInt8)) (hs : zs.Pairwise fun x y => decide (x ≤ y) = true) : Ris (Lib.compact zs) ∧ ∀ x, x ∈ Lib.compact zs ↔ x ∈ zs := by
 have key : ∀ m, m ≤ zs.length → (Ris (Lib.compactUpTo zs.toArray m) ∧ (∀ x, x ∈ Lib.compactUpTo zs.toArray m ↔ x ∈ zs.take m)) := by
  intro m
  induction m with
  | zero => intro _; exact ⟨List.Pairwise.nil, fun x => by simp [Lib.compactUpTo]⟩
  | succ m ih =>
   intro hm
   obtain ⟨h1, h2⟩ := ih (by omega)
   have hx : zs[m]? = some zs[m] := List.getElem?_eq_getElem (by omega)
   have hget : zs.toArray[m]! = zs[m] := by rw [getElem!_pos _ m (by simp; omega)]; simp
   have hle : ∀ x ∈ zs.take m, Op.bytesLess zs[m] x = false := by
    intro x hxm
    obtain ⟨j, hj, rfl⟩ := List.mem_iff_getElem.1 hxm
    have hjm : j < m := by rw [List.length_take] at hj; omega
    have := List.pairwise_iff_getElem.1 hs j m (by omega) (by omega) hjm
    rw [le_bl] at this
    rw [List.getElem_take]
    simpa using this
   rw [Lib.compactUpTo_succ, List.take_add_one, hx, Option.toList_some, hget]
   by_cases hk : Lib.keeps zs.toArray m = true
   ·rw [if_pos hk]
    refine ⟨List.pairwise_append.2 ⟨h1, List.pairwise_singleton _ _, fun a ha b hb => ?_⟩, fun x => by rw [List.mem_append, List.mem_append, h2]⟩
    rw [List.mem_singleton.1 hb]
    have ha' := (h2 a).1 ha
    cases hlt : Op.bytesLess a zs[m] with
    | true => rfl
    | false =>
     exfalso
     have e := bl_tri hlt (hle a ha')
     obtain ⟨j, hj, hja⟩ := List.mem_iff_getElem.1 ha'
     have hjm : j < m := by rw [List.length_take] at hj; omega
     rw [List.getElem_take] at hja
     have hp : zs[m - 1]'(by omega) = zs[m] := by
      refine bl_tri ?_ (hle _ (List.mem_iff_getElem.2 ⟨m - 1, by rw [List.length_take]; omega, by rw [List.getElem_take]⟩))
      by_cases hjp : j = m - 1
      ·subst hjp; rw [hja, e]; exact bl_irr _
      ·have hq := List.pairwise_iff_getElem.1 hs j (m - 1) (by omega) (by omega) (by omega)
       rw [le_bl, hja, e] at hq
       simpa using hq
     have hk2 : Lib.keeps zs.toArray m = false := by
      unfold Lib.keeps
      have e1 : zs.toArray[m]! = zs[m] := hget
      have e2 : zs.toArray[m - 1]! = zs[m - 1]'(by omega) := by rw [getElem!_pos _ (m - 1) (by simp; omega)]; simp
      rw [e1, e2, hp]
      simp
      omega
     rw [hk2] at hk; cases hk
   ·rw [if_neg hk, List.append_nil]
    refine ⟨h1, fun x => ?_⟩
    rw [h2, List.mem_append, List.mem_singleton]
    refine ⟨.inl, fun h => h.elim id fun e => ?_⟩
    subst e
    have hk2 : Lib.keeps zs.toArray m = false := by simpa using hk
    unfold Lib.keeps at hk2
    have hm0 : m ≠ 0 := by intro e; subst e; simp at hk2
    have e2 : zs.toArray[m - 1]! = zs[m - 1]'(by omega) := by rw [getElem!_pos _ (m - 1) (by simp; omega)]; simp
    rw [hget, e2] at hk2
    have : zs[m] = zs[m - 1]'(by omega) := by simpa [hm0] using hk2
    rw [this]
    exact List.mem_iff_getElem.2 ⟨m - 1, by rw [List.length_take]; omega, by rw [List.getElem_take]⟩
 obtain ⟨h1, h2⟩ := key zs.length (Nat.le_refl _)
 exact ⟨h1, fun x => by rw [Lib.compact, h2, List.take_length]⟩
theorem sortL_pw (l : List (List UInt8)) : (sortL l).Pairwise fun x y => decide (x ≤ y) = true := by
 refine List.pairwise_mergeSort (fun a b c h1 h2 => ?_) (fun a b => ?_) l
 ·rw [le_bl] at h1 h2 ⊢
  cases h : Op.bytesLess c a with
  | false => rfl
  | true =>
   exfalso
   have h1' : Op.bytesLess b a = false := by simpa using h1
   have h2' : Op.bytesLess c b = false := by simpa using h2
   cases hab : Op.bytesLess a b with
   | true => rw [bl_trans h hab] at h2'; cases h2'
   | false => rw [bl_tri hab h1'] at h; rw [h2'] at h; cases h
 ·rw [le_bl, le_bl]
  cases h : Op.bytesLess b a with
  | false => rfl
  | true =>
   cases h2 : Op.bytesLess a b with
   | false => rfl
   | true => have := bl_trans h h2; rw [bl_irr] at this; cases this
/-- The script's names are the document's. -/
theorem names_same (l : List PAct) : namesS l = namesR l := by
 obtain ⟨c1, c2⟩ := compact_ris (sortL (rawNames l)) (sortL_pw _)
 obtain ⟨r1, r2⟩ := namesR_ris l [] List.Pairwise.nil
 refine ris_eq (List.Pairwise.sublist (List.filter_sublist ..) c1) r1 (fun x => ?_)
 have hp : x ∈ sortL (rawNames l) ↔ x ∈ rawNames l := (List.mergeSort_perm (rawNames l) _).mem_iff
 show x ∈ (Lib.compact (sortL (rawNames l))).filter neB ↔ x ∈ l.foldl namesStep []
 rw [List.mem_filter, c2, hp, r2 x]
 simp [neB]
end Go.Proofs.YtbfbjgakmnckbaaGreatDoor
namespace Go.Proofs.YtbfbjgakmnckbaaGreatDoor
open Go Go.RowKit Eng
attribute [local irreducible] Br Rn RnU Cl RdG CpG Ld Rd Lp Dr Oth Cut fin Fits Eng.Enters Md NA
set_option maxRecDepth 100000 in
theorem num_any (n : Int) (w : World) : Calls Tryz.prog 17 #[.int .i64 n] w fun e w' => e = .returned (.int .i64 n) ∧ Fr (fun _ => False) w w' := by
 refine enter (cx := CX 4 [] w) [(0, .int .i64 n)] tab_ok Tryz.func17 rfl rfl rfl rfl (MemOk.nil w _) ?_
 conv => whnf
 (repeat ((first | refine stp (by (repeat constructor); first | done | fail) ?_ | refine stn (by (repeat constructor); first | done | fail) ?_ | refine sto (by (repeat constructor); first | done | fail) (by first | omega | (simp only; omega)) ?_ | refine .mk fun Ap capp => ?_ | refine ⟨?_, trivial⟩ | intro _); conv => whnf))
 exact fin1 rfl rfl (fun w' hm => ⟨rfl, hm.fr⟩)
theorem num_enters : Eng.Enters Tryz.prog 17 := enters_mk fun _ _ => by kernel_rfl
end Go.Proofs.YtbfbjgakmnckbaaGreatDoor
namespace Go.Proofs.YtbfbjgakmnckbaaGreatDoor
open Go Go.RowKit Eng
theorem itoa_dig (n : Nat) (h : n < 10) : Lib.itoa (n : Int) = [UInt8.ofNat (48 + n)] := by
 rw [Lib.itoa, if_neg (by omega), Lib.decDigits, dif_pos (by omega)]; rfl
def actW1 : PAct := { nilAct 5 with name := Str [97], at_ := 3, bytes := [0, 255] }
def actF2 : PAct := { nilAct 24 with fk := 2, keep := 2 }
def lineF2 : List UInt8 := [102, 97, 116, 101, 32, 102, 117, 108, 108, 32, 50]
def lineR7 : List UInt8 := [114, 101, 97, 100, 32, 97, 32, 49, 32, 48, 55]
theorem actW1_may : mayB actW1 = true := by decide
theorem actF2_may : mayB actF2 = true := by decide
theorem actF2_ok : actF2.Ok := { nilAct_ok (k := 24) (by omega) with fk := by decide, keep := by decide }
theorem actW1_ok : actW1.Ok := { nilAct_ok (k := 5) (by omega) with name := by decide, at_ := by decide, bytes := by decide }
theorem actW1_line : lineL actW1 = [119, 114, 105, 116, 101, 32, 97, 32, 51, 32, 48, 48, 102, 102] := by
 have h3 : letS 65 actW1 = [51] := itoa_dig 3 (by omega)
 have : lineW actW1 = [wordL 5, letS 97 actW1, letS 65 actW1, letS 120 actW1] := rfl
 rw [lineL, this, h3]; rfl
theorem actF2_line : lineL actF2 = lineF2 := by
 have h3 : Lib.itoa actF2.keep = [50] := itoa_dig 2 (by omega)
 have : lineW actF2 = [wordL 24, wFull, Lib.itoa actF2.keep] := rfl
 rw [lineL, this, h3]; rfl
theorem readF2 : readF lineF2 = some actF2 := readF_some actF2_ok actF2_may actF2_line
theorem readR7 : readF lineR7 = none := readF_none fun a ha hmay h => by
 have hw := words_of hmay h
 have hws : wordsL lineR7 = [wordL 4, [97], [49], [48, 55]] := by decide
 rw [hws] at hw
 obtain ⟨h1, h2⟩ := List.cons.inj hw
 have hk : a.kind = 4 := wordL_inj (may_kind hmay) (by omega) h1.symm
 have hr : restW a = [letS 97 a, letS 65 a, letS 78 a] ++ (fateW a ++ a.picks.map Lib.itoa) := by rw [restW, hk]; rfl
 rw [hr] at h2
 have h3 : [48, 55] = Lib.itoa a.n := (List.cons.inj (List.cons.inj (List.cons.inj h2).2).2).1
 have h4 := numF_itoa a.n ha.n
 rw [← h3] at h4
 have h7 : a.n = 7 := h4.symm.trans (by decide)
 rw [h7, show Lib.itoa 7 = [55] from itoa_dig 7 (by omega)] at h3
 exact absurd h3 (by decide)
def isNum : Lib.NumEnd Int → Bool
 | .ok _ => true
 | _ => false
theorem numW_no {w : World} {s : List UInt8} (h : isNum (Lib.parseIntB 64 s) = false) : NumW w s := fun v hv => by rw [hv] at h; cases h
theorem numW_ok {w : World} {s : List UInt8} {n : Int} (h : Lib.parseIntB 64 s = .ok n) (h0 : 0 ≤ n ∧ n < 100) : NumW w s := fun v hv => by
 rw [h] at hv
 injection hv with hv
 subst hv
 exact ⟨by omega, .inr h0⟩
theorem wordsF2 (w : World) : ∀ s ∈ wordsL lineF2, NumW w s := by
 rw [show wordsL lineF2 = [[102, 97, 116, 101], [102, 117, 108, 108], [50]] from by decide]
 intro s hs
 rcases List.mem_cons.1 hs with rfl | hs
 ·exact numW_no (by decide)
 rcases List.mem_cons.1 hs with rfl | hs
 ·exact numW_no (by decide)
 rcases List.mem_cons.1 hs with rfl | hs
 ·exact numW_ok (n := 2) (by decide) (by omega)
 ·cases hs
theorem wordsR7 (w : World) : ∀ s ∈ wordsL lineR7, NumW w s := by
 rw [show wordsL lineR7 = [[114, 101, 97, 100], [97], [49], [48, 55]] from by decide]
 intro s hs
 rcases List.mem_cons.1 hs with rfl | hs
 ·exact numW_no (by decide)
 rcases List.mem_cons.1 hs with rfl | hs
 ·exact numW_no (by decide)
 rcases List.mem_cons.1 hs with rfl | hs
 ·exact numW_ok (n := 1) (by decide) (by omega)
 rcases List.mem_cons.1 hs with rfl | hs
 ·exact numW_ok (n := 7) (by decide) (by omega)
 ·cases hs
theorem okF2 : NumsOk (wordsL lineF2) := by
 rw [show wordsL lineF2 = [[102, 97, 116, 101], [102, 117, 108, 108], [50]] from by decide]
 refine ⟨fun s hs => ?_, fun h => absurd h (by decide)⟩
 rcases List.mem_cons.1 hs with rfl | hs
 ·exact ⟨2, by decide⟩
 ·cases hs
theorem okR7 : NumsOk (wordsL lineR7) := by
 rw [show wordsL lineR7 = [[114, 101, 97, 100], [97], [49], [48, 55]] from by decide]
 refine ⟨fun s hs => ?_, fun h => absurd h (by decide)⟩
 rcases List.mem_cons.1 hs with rfl | hs
 ·exact ⟨1, by decide⟩
 rcases List.mem_cons.1 hs with rfl | hs
 ·exact ⟨7, by decide⟩
 ·cases hs
theorem numW1 (w : World) : NumAct w actW1 := ⟨⟨by decide, .inr (by decide)⟩, ⟨by decide, .inr (by decide)⟩, ⟨by decide, .inr (by decide)⟩, ⟨by decide, .inr (by decide)⟩, ⟨by decide, .inr (by decide)⟩, fun p hp => by cases hp⟩
end Go.Proofs.YtbfbjgakmnckbaaGreatDoor
namespace Go.Proofs.YtbfbjgakmnckbaaGreatDoor
open Go Go.RowKit Eng
theorem itoa_len20 {n : Int} (h : -9223372036854775808 ≤ n ∧ n ≤ 9223372036854775807) : (Lib.itoa n).length ≤ 65 := by
 have := Lib.itoa_length_le n h.1 h.2
 omega
theorem hexF_len2 {bs : List UInt8} (h : bs.length ≤ 20000) : (hexF bs).length ≤ 40001 := by
 unfold hexF
 split
 ·simp
 ·rw [hexs_length]; omega
theorem flagW_len2 (c : Int) (on : Bool) : (flagW c on).length ≤ 40001 := by
 unfold flagW
 repeat' split
 all_goals simp
theorem letS_small {a : PAct} (ha : a.Ok) (h : mayB a = true) (hb : a.bytes.length ≤ 20000) {c : UInt8} (hc : c ∈ lettersL a.kind) : (letS c a).length ≤ 40001 := by
 have ho := okL1_mem (may_ok h) c hc
 unfold okL1 at ho
 unfold letS
 by_cases h1 : c = 97
 ·rw [if_pos h1] at ho ⊢
  have := nameB_size ho
  rw [bs_size]; omega
 rw [if_neg h1] at ho ⊢
 by_cases h2 : c = 111
 ·rw [if_pos (.inl h2)] at ho
  rw [if_pos h2]
  subst h2
  simp only [Bool.or_eq_true, Bool.and_eq_true] at ho
  have := nameB_size (ho.resolve_right (fun hh => absurd hh.1 (by decide)))
  rw [bs_size]; omega
 rw [if_neg h2]
 by_cases h3 : c = 79
 ·rw [if_pos (.inr h3)] at ho
  rw [if_pos h3]
  split
  ·simp
  ·rename_i hne
   simp only [Bool.or_eq_true, Bool.and_eq_true, decide_eq_true_eq] at ho
   have := nameB_size (ho.resolve_right (fun hh => hne hh.2))
   rw [bs_size]; omega
 rw [if_neg (fun hh => hh.elim h2 h3)] at ho
 rw [if_neg h3]
 by_cases h4 : c = 116
 ·rw [if_pos h4] at ho ⊢
  have := nameB_size ho
  rw [bs_size]; omega
 rw [if_neg h4]
 split
 ·have := itoa_len20 ha.at_; omega
 split
 ·have := itoa_len20 ha.n; omega
 split
 ·have := itoa_len20 ha.bits; omega
 split
 ·have := itoa_len20 ha.order; omega
 split
 ·exact hexF_len2 hb
 ·exact flagW_len2 _ _
theorem flat_len {α : Type} (g : α → List UInt8) (B : Nat) : ∀ l : List α, (∀ x ∈ l, (g x).length ≤ B) → (l.flatMap g).length ≤ l.length * B
 | [], _ => by simp
 | x :: r, h => by
  have h1 := h x (List.mem_cons_self ..)
  have h2 := flat_len g B r (fun y hy => h y (List.mem_cons_of_mem _ hy))
  rw [List.flatMap_cons, List.length_append, List.length_cons, Nat.succ_mul]; omega
theorem line_small {a : PAct} (ha : a.Ok) (h : mayB a = true) (hb : a.bytes.length ≤ 20000) (hp : a.picks.length ≤ 500) : (lineL a).length ≤ 1048576 := by
 rw [lineL_eq]
 simp only [List.length_append]
 have h0 : (wordL a.kind).length ≤ 16 := Nat.le_trans (cutF_len _).1 (formL_len _)
 have hl : (lettersL a.kind).length ≤ 16 := Nat.le_trans (cutF_len _).2 (formL_len _)
 have h1 := flat_len (fun c => 32 :: letS c a) 40002 (lettersL a.kind) (fun c hc => by have := letS_small ha h hb hc; simp only [List.length_cons]; omega)
 have h2 := flat_len (fun p => 32 :: Lib.itoa p) 66 a.picks (fun p hpm => by have := itoa_len20 (ha.picksR p hpm); simp only [List.length_cons]; omega)
 have h3 : ((fateW a).flatMap (fun s => 32 :: s)).length ≤ 100 := by
  have hk := itoa_len20 ha.keep
  unfold fateW
  split
  ·split
   ·simp [wGood]
   ·split <;> simp [wFail, wFull] <;> omega
  ·simp
 omega
end Go.Proofs.YtbfbjgakmnckbaaGreatDoor
