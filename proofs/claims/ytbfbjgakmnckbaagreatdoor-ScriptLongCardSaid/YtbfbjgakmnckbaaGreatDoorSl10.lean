/- script.Read. No statement of the seat is proved here. -/
import Derived.Test.YtbfbjgakmnckbaaGreatDoorSl9
namespace Go.Proofs.YtbfbjgakmnckbaaGreatDoor
open Go Go.RowKit Eng
attribute [local irreducible] Br Rn RnU Cl RdG CpG Ld Rd Lp Dr Oth Cut fin Fits Eng.Enters Md NA
theorem ld_over {cx : Cx} (k : Nat) (hk : k < 25) {m : Mem} {b : Nat} (hh : Has m (.blk b (.cells kindsV.toArray 78))) (hP : TabOk cx.P cx.tab := by exact tab_ok) (ht : cx.tab = tab := by rfl) :
  Ld cx m 76 (.pointer (pl (pl (some ⟨b, 0, none⟩) (mulC (k : Int).toNat ty78.cells)) 1)) (.func (.func (overF k)) #[] #[]) := by
 have hi : cx.tab.get 76 = some ty76 := by rw [ht]; rfl
 rw [Int.toNat_natCast]
 match k, hk with
 | 0, _ | 1, _ | 2, _ | 3, _ | 4, _ | 5, _ | 6, _ | 7, _ | 8, _ | 9, _ | 10, _ | 11, _ | 12, _ | 13, _ | 14, _ | 15, _ | 16, _ | 17, _ | 18, _ | 19, _ | 20, _ | 21, _ | 22, _ | 23, _ | 24, _ => exact ld1 hP hh hi rfl rfl
 | n + 25, h => exact absurd h (by omega)
/-- What becomes of the words behind the first one. -/
def Rd2R (k : Nat) (ws : List (List UInt8)) (aB : Nat) (e : Ending) (m' : Mem) : Prop :=
 (e = .panicked (refusal 410) ∧ (∀ a : PAct, a.Ok → mayB a = true → a.kind = (k + 1 : Nat) → ws ≠ restW a) ∧ m' = []) ∨
 (e = .returned (.tuple #[]) ∧ ∃ (x' : PAct) (bA' pA' : Option Addr) (bc' pc' : Nat), x'.Ok ∧ x'.kind = (k + 1 : Nat) ∧ (∀ w, (∀ s ∈ ws, NumW w s) → NumAct w x') ∧ (∀ a : PAct, a.Ok → mayB a = true → a.kind = (k + 1 : Nat) → ws = restW a → x' = a) ∧
  m' = [.blk aB (.cells (actL x' bA' bc' pA' pc').toArray 29), BR bA' bc' x'.bytes, PR pA' pc' x'.picks])
abbrev R2M (iB k aB wB : Nat) (A : Option Addr) (n cap : Nat) : Mem := [.blk iB (.cells #[.int .i64 (k : Int)] 3), .blk aB (.cells (actL (nilAct (k + 1 : Nat)) none 0 none 0).toArray 29), .blk wB (.cells #[.slice A n cap] 68)]
set_option maxRecDepth 100000 in
set_option maxHeartbeats 1000000 in
theorem read2_any (iB k aB wB : Nat) (A : Option Addr) (cap : Nat) (w0 : List UInt8) (ws1 : List (List UInt8)) (w : World) (hk : k < 25) (hpl : Pl A) (hc : ws1.length + 1 ≤ cap) (hl : ∀ s ∈ ws1, s.length ≤ 1099511627776) (hwl : ws1.length ≤ 1073741824)
  (hm : MemOk w (Foot (R2M iB k aB wB A (ws1.length + 1) cap)) (R2M iB k aB wB A (ws1.length + 1) cap) w) (hs : Stb (R2M iB k aB wB A (ws1.length + 1) cap) w (fun w => StrsIn w A (w0 :: ws1))) (hw : Stb (R2M iB k aB wB A (ws1.length + 1) cap) w (LWK k ws1)) :
  Ctr Tryz.prog 40 [.pointer (some ⟨iB, 0, none⟩), .pointer (some ⟨aB, 0, none⟩), .pointer (some ⟨wB, 0, none⟩)] (R2M iB k aB wB A (ws1.length + 1) cap) (Rd2R k ws1 aB) w := by
 refine enter (cx := CXS 14 [] w (Foot (R2M iB k aB wB A (ws1.length + 1) cap))) [(0, .pointer (some ⟨iB, 0, none⟩)), (1, .pointer (some ⟨aB, 0, none⟩)), (2, .pointer (some ⟨wB, 0, none⟩))] tab_ok Tryz.func40 rfl rfl rfl rfl hm ?_
 conv => whnf
 refine dr_any (γ := Mem) (Tr.hs [1, 5, 6, 7] (.alts 0 (Tr.hs [2, 3] (.alts 4 (Tr.sq [8] (Tr.hs [9] (Tr.sq [10] .done))) (.alts 8 (Tr.hs [9] (Tr.sq [4, 10] .done)) .stop))) (.alts 8 (Tr.hs [9] (Tr.sq [0] (Tr.hs [2, 3] (Tr.sq [4, 10] .done)))) .stop))) [.blk iB (.cells #[.int .i64 (k : Int)] 3), .blk wB (.cells #[.slice A (ws1.length + 1) cap] 68)] tab_ok mixed (by kernel_rfl) rfl (fun g => ∃ (x' : PAct) (bA' pA' : Option Addr) (bc' pc' : Nat), x'.Ok ∧ x'.kind = (k + 1 : Nat) ∧ (∀ w, (∀ s ∈ ws1, NumW w s) → NumAct w x') ∧ (∀ a : PAct, a.Ok → mayB a = true → a.kind = (k + 1 : Nat) → ws1 = restW a → x' = a) ∧
  g = [.blk aB (.cells (actL x' bA' bc' pA' pc').toArray 29), BR bA' bc' x'.bytes, PR pA' pc' x'.picks]) (fun _ => []) (fun g => g) (SubM.sel (by (repeat constructor); first | done | fail)) ?_ ?_
 ·conv => whnf
  refine ⟨_, Ld.g (ld1 tab_ok (by (repeat constructor); first | done | fail) rfl rfl rfl), ?_⟩
  conv => whnf
  refine ⟨_, Ld.g (ld1 tab_ok (by (repeat constructor); first | done | fail) rfl rfl rfl), ?_⟩
  conv => whnf
  refine ⟨⟨by omega, by omega, by omega, .inr hpl⟩, ?_⟩
  conv => whnf
  refine ⟨?_, ?_, trivial⟩
  ·refine ⟨kinds_enters, cl_mem .nil (fun w' hm' => kinds_any w') ?_⟩; rintro e m' ⟨kB, rfl, rfl⟩
   conv => whnf
   refine ⟨SubM.sel (m1 := [.blk iB (.cells #[.int .i64 (k : Int)] 3), .blk wB (.cells #[.slice A (ws1.length + 1) cap] 68)]) (by (repeat constructor); first | done | fail), ?_⟩
   conv => whnf
   refine ⟨⟨by omega, by show (k : Int) < ((25 : Nat) : Int); omega, Pl.mk _ _⟩, ?_⟩
   conv => whnf
   (repeat ((first | refine stp (by (repeat constructor); first | done | fail) ?_ | refine stn (by (repeat constructor); first | done | fail) ?_ | refine sto (by (repeat constructor); first | done | fail) (by first | omega | (simp only; omega)) ?_ | refine .mk fun Ap capp => ?_ | refine ⟨?_, trivial⟩ | intro _); conv => whnf))
   refine ⟨?_, ?_, trivial⟩
   ·-- the function, then the reader
    refine rn_load (ld_over k hk (by (repeat constructor); first | done | fail)) ?_
    conv => whnf
    refine ⟨SubM.sel (m1 := [.blk iB (.cells #[.int .i64 (k : Int)] 3), .blk wB (.cells #[.slice A (ws1.length + 1) cap] 68)]) (by (repeat constructor); first | done | fail), ?_⟩
    conv => whnf
    refine ⟨?_, trivial⟩
    intro rB
    conv => whnf
    refine ⟨SubM.sel (m1 := [.blk iB (.cells #[.int .i64 (k : Int)] 3), .blk wB (.cells #[.slice A (ws1.length + 1) cap] 68)]) (by (repeat constructor); first | done | fail), ?_⟩
    conv => whnf
    refine ⟨?_, trivial⟩
    conv => whnf
    refine ⟨over_enters k hk, cl_mem (m1 := RM rB (cutA A cap 1 1) ws1.length (cap - 1) aB (nilAct (k + 1 : Nat)) none none 0 0) (by (repeat constructor); first | done | fail) (fun w' hm' => rover_any rB (cutA A cap 1 1) (cap - 1) ws1 aB w' k hk hm'.part (stb hm' (fun w'' hm'' => (hs w'' hm''.fr).tail hc)) (stb hm' (fun w'' hm'' => hw w'' hm''.fr)) (by omega) hl (by omega)) ?_⟩
    rintro e m' (⟨rfl, hno⟩ | ⟨A2, n2, cap2, x', bA', pA', bc', pc', rfl, hx', hkx, hN, hsnd, rfl⟩)
    ·exact fin_panic (fun w' hm => ⟨_, .inl ⟨rfl, hno, rfl⟩, hm.sel .nil⟩)
    ·conv => whnf
     refine ⟨SubM.sel (m1 := [.blk iB (.cells #[.int .i64 (k : Int)] 3), .blk wB (.cells #[.slice A (ws1.length + 1) cap] 68)]) (by (repeat constructor); first | done | fail), ?_⟩
     conv => whnf
     exact ⟨[.blk aB (.cells (actL x' bA' bc' pA' pc').toArray 29), BR bA' bc' x'.bytes, PR pA' pc' x'.picks], ⟨x', bA', pA', bc', pc', hx', hkx, hN, hsnd, rfl⟩, trivial, SubM.sel (by (repeat constructor); first | done | fail)⟩
   ·intro rB
    conv => whnf
    refine ⟨SubM.sel (m1 := [.blk iB (.cells #[.int .i64 (k : Int)] 3), .blk wB (.cells #[.slice A (ws1.length + 1) cap] 68)]) (by (repeat constructor); first | done | fail), ?_⟩
    conv => whnf
    refine ⟨?_, trivial⟩
    refine rn_load (ld_over k hk (by (repeat constructor); first | done | fail)) ?_
    conv => whnf
    refine ⟨SubM.sel (m1 := [.blk iB (.cells #[.int .i64 (k : Int)] 3), .blk wB (.cells #[.slice A (ws1.length + 1) cap] 68)]) (by (repeat constructor); first | done | fail), ?_⟩
    conv => whnf
    refine ⟨?_, trivial⟩
    conv => whnf
    refine ⟨over_enters k hk, cl_mem (m1 := RM rB (cutA A cap 1 1) ws1.length (cap - 1) aB (nilAct (k + 1 : Nat)) none none 0 0) (by (repeat constructor); first | done | fail) (fun w' hm' => rover_any rB (cutA A cap 1 1) (cap - 1) ws1 aB w' k hk hm'.part (stb hm' (fun w'' hm'' => (hs w'' hm''.fr).tail hc)) (stb hm' (fun w'' hm'' => hw w'' hm''.fr)) (by omega) hl (by omega)) ?_⟩
    rintro e m' (⟨rfl, hno⟩ | ⟨A2, n2, cap2, x', bA', pA', bc', pc', rfl, hx', hkx, hN, hsnd, rfl⟩)
    ·exact fin_panic (fun w' hm => ⟨_, .inl ⟨rfl, hno, rfl⟩, hm.sel .nil⟩)
    ·conv => whnf
     refine ⟨SubM.sel (m1 := [.blk iB (.cells #[.int .i64 (k : Int)] 3), .blk wB (.cells #[.slice A (ws1.length + 1) cap] 68)]) (by (repeat constructor); first | done | fail), ?_⟩
     conv => whnf
     exact ⟨[.blk aB (.cells (actL x' bA' bc' pA' pc').toArray 29), BR bA' bc' x'.bytes, PR pA' pc' x'.picks], ⟨x', bA', pA', bc', pc', hx', hkx, hN, hsnd, rfl⟩, trivial, SubM.sel (by (repeat constructor); first | done | fail)⟩
  ·intro rB
   conv => whnf
   refine ⟨SubM.sel (m1 := [.blk iB (.cells #[.int .i64 (k : Int)] 3), .blk wB (.cells #[.slice A (ws1.length + 1) cap] 68)]) (by (repeat constructor); first | done | fail), ?_⟩
   conv => whnf
   refine ⟨?_, trivial⟩
   ·refine ⟨kinds_enters, cl_mem .nil (fun w' hm' => kinds_any w') ?_⟩; rintro e m' ⟨kB, rfl, rfl⟩
    conv => whnf
    refine ⟨SubM.sel (m1 := [.blk iB (.cells #[.int .i64 (k : Int)] 3), .blk wB (.cells #[.slice A (ws1.length + 1) cap] 68)]) (by (repeat constructor); first | done | fail), ?_⟩
    conv => whnf
    refine ⟨⟨by omega, by show (k : Int) < ((25 : Nat) : Int); omega, Pl.mk _ _⟩, ?_⟩
    conv => whnf
    (repeat ((first | refine stp (by (repeat constructor); first | done | fail) ?_ | refine stn (by (repeat constructor); first | done | fail) ?_ | refine sto (by (repeat constructor); first | done | fail) (by first | omega | (simp only; omega)) ?_ | refine .mk fun Ap capp => ?_ | refine ⟨?_, trivial⟩ | intro _); conv => whnf))
    refine rn_load (ld_over k hk (by (repeat constructor); first | done | fail)) ?_
    conv => whnf
    refine ⟨SubM.sel (m1 := [.blk iB (.cells #[.int .i64 (k : Int)] 3), .blk wB (.cells #[.slice A (ws1.length + 1) cap] 68)]) (by (repeat constructor); first | done | fail), ?_⟩
    conv => whnf
    refine ⟨?_, trivial⟩
    conv => whnf
    refine ⟨over_enters k hk, cl_mem (m1 := RM rB (cutA A cap 1 1) ws1.length (cap - 1) aB (nilAct (k + 1 : Nat)) none none 0 0) (by (repeat constructor); first | done | fail) (fun w' hm' => rover_any rB (cutA A cap 1 1) (cap - 1) ws1 aB w' k hk hm'.part (stb hm' (fun w'' hm'' => (hs w'' hm''.fr).tail hc)) (stb hm' (fun w'' hm'' => hw w'' hm''.fr)) (by omega) hl (by omega)) ?_⟩
    rintro e m' (⟨rfl, hno⟩ | ⟨A2, n2, cap2, x', bA', pA', bc', pc', rfl, hx', hkx, hN, hsnd, rfl⟩)
    ·exact fin_panic (fun w' hm => ⟨_, .inl ⟨rfl, hno, rfl⟩, hm.sel .nil⟩)
    ·conv => whnf
     refine ⟨SubM.sel (m1 := [.blk iB (.cells #[.int .i64 (k : Int)] 3), .blk wB (.cells #[.slice A (ws1.length + 1) cap] 68)]) (by (repeat constructor); first | done | fail), ?_⟩
     conv => whnf
     exact ⟨[.blk aB (.cells (actL x' bA' bc' pA' pc').toArray 29), BR bA' bc' x'.bytes, PR pA' pc' x'.picks], ⟨x', bA', pA', bc', pc', hx', hkx, hN, hsnd, rfl⟩, trivial, SubM.sel (by (repeat constructor); first | done | fail)⟩
 ·rintro g ⟨x', bA', pA', bc', pc', hx', hkx, hN, hsnd, rfl⟩
  conv => whnf
  refine fin0 rfl (fun w' hm => ?_) (by first | exact .inr rfl | exact .inl rfl)
  exact ⟨_, .inr ⟨rfl, x', bA', pA', bc', pc', hx', hkx, hN, hsnd, rfl⟩, hm⟩
theorem read2_enters : Eng.Enters Tryz.prog 40 := enters_mk fun _ _ => by kernel_rfl
end Go.Proofs.YtbfbjgakmnckbaaGreatDoor
namespace Go.Proofs.YtbfbjgakmnckbaaGreatDoor
open Go Go.RowKit Eng
attribute [local irreducible] Br Rn RnU Cl RdG CpG Ld Rd Lp Dr Oth Cut fin Fits Eng.Enters Md NA
theorem row_ints {w : World} {k : IntKind} {A : Option Addr} {cap n t : Nat} {xs : List Int} (h : w.ownsRow 0 t 1 (.slice A n cap) n (xs.map (.int k))) : IntsIn k w A xs := by
 intro hn
 obtain ⟨b, rfl, _⟩ := row_cell h (j := 0) (v := .int k (xs.getD 0 0)) (by simp [List.getD, List.getElem?_eq_getElem hn])
 refine ⟨b, 0, rfl, fun i hi => ?_⟩
 obtain ⟨b', hb', hc⟩ := row_cell h (j := i) (v := .int k (xs.getD i 0)) (by simp [List.getD, List.getElem?_eq_getElem hi])
 injection hb' with hb'; injection hb' with hb'
 subst hb'
 simpa using hc
theorem BR.in_ {cx : Cx} {m : Mem} {A : Option Addr} {cap : Nat} {bs : List UInt8} (hh : Has m (BR A cap bs)) {w : World} (hm : MemOk cx.w0 cx.S m w) : BytsIn w A bs := row_ints (hm.ok _ hh.mem)
theorem PR.in_ {cx : Cx} {m : Mem} {A : Option Addr} {cap : Nat} {ps : List Int} (hh : Has m (PR A cap ps)) {w : World} (hm : MemOk cx.w0 cx.S m w) : IntsIn .i64 w A ps := row_ints (hm.ok _ hh.mem)

/-- What Read answers. -/
noncomputable def readA (l : List UInt8) : PAct := if 1048576 < l.length then nilAct 0 else (readF l).getD (nilAct 0)
noncomputable def readE (l : List UInt8) : Int := if 1048576 < l.length then 3 else if (readF l).isSome then 0 else 410
theorem readF_none {l : List UInt8} (h : ∀ a : PAct, a.Ok → mayB a = true → lineL a ≠ l) : readF l = none := readF_eq (r := none) h
theorem readF_some {l : List UInt8} {a : PAct} (h1 : a.Ok) (h2 : mayB a = true) (h3 : lineL a = l) : readF l = some a := readF_eq (r := some a) ⟨h1, h2, h3⟩
theorem words_of {a : PAct} {l : List UInt8} (hmay : mayB a = true) (h : lineL a = l) : wordsL l = wordL a.kind :: restW a := by rw [← h, words_line (may_ok hmay)]; rfl
theorem wordsL_len (l : List UInt8) : (wordsL l).length ≤ l.length + 1 ∧ ∀ w ∈ wordsL l, w.length ≤ l.length := by
 induction l with
 | nil => simp [wordsL]
 | cons c r ih =>
  unfold wordsL
  split
  ·refine ⟨by simp; exact ih.1, fun w hw => ?_⟩
   rcases List.mem_cons.1 hw with rfl | hw
   ·simp
   ·have := ih.2 w hw; simp; omega
  ·split
   ·rename_i w ws heq
    rw [heq] at ih
    refine ⟨by simp at ih ⊢; omega, fun v hv => ?_⟩
    rcases List.mem_cons.1 hv with rfl | hv
    ·have := ih.2 w (List.mem_cons_self ..); simp; omega
    ·have := ih.2 v (List.mem_cons_of_mem _ hv); simp; omega
   ·rename_i heq
    exact absurd heq (wordsL_ne r)
/-- What Read hands back. -/
def ReadR (l : List UInt8) (e : Ending) (m' : Mem) : Prop := ∃ (bA pA : Option Addr) (bc pc : Nat), e = .returned (.tuple #[.agg (actL (readA l) bA bc pA pc).toArray, .int .i64 (readE l)]) ∧ m' = [BR bA bc (readA l).bytes, PR pA pc (readA l).picks]
theorem readR_none {l : List UInt8} (h : readF l = none) (hl : ¬ 1048576 < l.length) : readA l = nilAct 0 ∧ readE l = 410 := by
 rw [readA, readE, if_neg hl, if_neg hl, h]; exact ⟨rfl, rfl⟩
/-- The words of a line that are read as numbers are numbers. -/
def NumsOk (ws : List (List UInt8)) : Prop := (∀ s ∈ ws.tail.tail, OkP s) ∧ (ws.head? = some (wordL 25) → ∀ s ∈ ws.tail, OkP s)
set_option maxRecDepth 100000 in
set_option maxHeartbeats 2000000 in
theorem Read_any (l : List UInt8) (w : World) (hw : LW w) (hn : ∀ s ∈ wordsL l, NumW w s) (hq : ErrW w ∨ NumsOk (wordsL l)) (hl : l.length ≤ 1073741820) :
  Ctr Tryz.prog 12 [.string (Str l)] [] (ReadR l) w := by
 have hsz := Str.size l
 refine enter (cx := CXS 45 [] w (Foot [])) [(0, .string (Str l))] tab_ok Tryz.func12 rfl rfl rfl rfl (MemOk.nil w _) ?_
 have hF : ∀ w', Fr (Foot []) w w' → Fr (fun _ => False) w w' := fun w' hf => hf.mono (fun k _ ⟨r, hr, _⟩ => by cases hr)
 have hw' := fun w' hf => hw.fr (hF w' hf)
 have hq' : ∀ w', Fr (Foot []) w w' → ErrW w' ∨ NumsOk (wordsL l) := fun w' hf => hq.imp_left (·.fr (hF w' hf))
 have hwl := wordsL_len l
 conv => whnf
 intro rB
 conv => whnf
 (repeat ((first | refine stp (by (repeat constructor); first | done | fail) ?_ | refine stn (by (repeat constructor); first | done | fail) ?_ | refine sto (by (repeat constructor); first | done | fail) (by first | omega | (simp only; omega)) ?_ | refine .mk fun Ap capp => ?_ | refine ⟨?_, trivial⟩ | intro _); conv => whnf))
 refine br_d (fun h0 => ?_) (fun h0 => ?_)
 ·have hlong : 1048576 < l.length := by omega
  conv => whnf
  (repeat ((first | refine stp (by (repeat constructor); first | done | fail) ?_ | refine stn (by (repeat constructor); first | done | fail) ?_ | refine sto (by (repeat constructor); first | done | fail) (by first | omega | (simp only; omega)) ?_ | refine .mk fun Ap capp => ?_ | refine ⟨?_, trivial⟩ | intro _); conv => whnf))
  refine finC2 rfl rfl (ldN tab_ok (by (repeat constructor); first | done | fail) rfl rfl rfl rfl) rfl (fun w' hm => ⟨_, ⟨none, none, 0, 0, ?_, rfl⟩, ?_⟩)
  ·rw [readA, readE, if_pos hlong, if_pos hlong]; rfl
  ·rw [readA, if_pos hlong]
   exact ((hm.nilRow 3 1).nilRow 5 1).sel (.cons .here (.cons .here .nil))
 ·have hshort : ¬ 1048576 < l.length := by omega
  conv => whnf
  refine ⟨split_enters, cl_mem .nil (fun w' hm' => split_any l w' (hw' w' hm'.fr) (by omega)) ?_⟩
  rintro e m' ⟨sB, rfl, rfl⟩
  conv => whnf
  intro wB
  conv => whnf
  (repeat ((first | refine stp (by (repeat constructor); first | done | fail) ?_ | refine stn (by (repeat constructor); first | done | fail) ?_ | refine sto (by (repeat constructor); first | done | fail) (by first | omega | (simp only; omega)) ?_); conv => whnf))
  refine ⟨kinds_enters, cl_mem .nil (fun w' hm' => kinds_any w') ?_⟩
  rintro e m' ⟨kB, rfl, rfl⟩
  conv => whnf
  obtain ⟨w0, ws1, hws⟩ : ∃ w0 ws1, wordsL l = w0 :: ws1 := by
   cases h : wordsL l with
   | nil => exact absurd h (wordsL_ne l)
   | cons w0 ws1 => exact ⟨w0, ws1, rfl⟩
  have hlen1 : ws1.length + 1 = (wordsL l).length := by rw [hws]; rfl
  have hStr : ∀ {cx : Cx} {m : Mem} {w : World}, MemOk cx.w0 cx.S m w → Has m (.blk sB (.cells (strsOf (wordsL l)).toArray 9)) → StrsIn w (some ⟨sB, 0, none⟩) (wordsL l) := by
   intro cx m w hm hh _
   refine ⟨sB, 0, rfl, fun j s hj => ?_⟩
   rw [Nat.zero_add, cell_of_blk (hm.ok _ hh.mem), strsOf, List.getElem?_map, hj]
   rfl
  (repeat ((first | refine stp (by (repeat constructor); first | done | fail) ?_ | refine stn (by (repeat constructor); first | done | fail) ?_ | refine sto (by (repeat constructor); first | done | fail) (by first | omega | (simp only; omega)) ?_); conv => whnf))
  refine ⟨indexF_enters, cl_mem (m1 := .blk kB (.cells kindsV.toArray 78) :: WM wB (some ⟨sB, 0, none⟩) (wordsL l).length (wordsL l).length) (by (repeat constructor); first | done | fail) (fun w' hm' => indexF_any kB wB _ _ (wordsL l) w' (by omega) (Pl.mk _ _) hm'.part (stb hm' (fun w'' hm'' => hStr hm'' (by (repeat constructor); first | done | fail)))) ?_⟩
  rintro e m' ⟨⟨r, hr, rfl⟩, rfl⟩
  rw [hws] at hr
  change KindIs w0 r at hr
  conv => whnf
  intro iB
  conv => whnf
  (repeat ((first | refine stp (by (repeat constructor); first | done | fail) ?_ | refine stn (by (repeat constructor); first | done | fail) ?_ | refine sto (by (repeat constructor); first | done | fail) (by first | omega | (simp only; omega)) ?_); conv => whnf))
  rcases hr with ⟨rfl, hno⟩ | ⟨k, hk, rfl, hword⟩
  ·refine br_t rfl ?_
   have hnone : readF l = none := readF_none fun a ha hmay h => by
    have h2 := words_of hmay h
    rw [hws] at h2
    have hkk := may_kind hmay
    have := hno (a.kind - 1).toNat (by omega)
    rw [show (((a.kind - 1).toNat + 1 : Nat) : Int) = a.kind by omega] at this
    exact this (List.cons.inj h2).1.symm
   obtain ⟨hA, hE⟩ := readR_none hnone hshort
   conv => whnf
   (repeat ((first | refine stp (by (repeat constructor); first | done | fail) ?_ | refine stn (by (repeat constructor); first | done | fail) ?_ | refine sto (by (repeat constructor); first | done | fail) (by first | omega | (simp only; omega)) ?_ | refine .mk fun Ap capp => ?_ | refine ⟨?_, trivial⟩ | intro _); conv => whnf))
   refine finC2 rfl rfl (ldN tab_ok (by (repeat constructor); first | done | fail) rfl rfl rfl rfl) rfl (fun w' hm => ⟨_, ⟨none, none, 0, 0, ?_, rfl⟩, ?_⟩)
   ·rw [hA, hE]; rfl
   ·rw [hA]
    exact ((hm.nilRow 3 1).nilRow 5 1).sel (.cons .here (.cons .here .nil))
  ·have hother : ∀ a : PAct, a.Ok → mayB a = true → lineL a = l → a.kind = (k + 1 : Nat) ∧ ws1 = restW a := by
    intro a ha hmay h
    have h2 := words_of hmay h
    rw [hws] at h2
    refine ⟨wordL_inj (may_kind hmay) (by omega) ?_, (List.cons.inj h2).2⟩
    rw [hword, (List.cons.inj h2).1]
   refine br_f (decide_eq_false (by omega)) ?_
   have ek : (1 : Int) + (k : Int) = ((k + 1 : Nat) : Int) := by omega
   conv => whnf
   (repeat ((first | refine stp (by (repeat constructor); first | done | fail) ?_ | refine stn (by (repeat constructor); first | done | fail) ?_ | refine sto (by (repeat constructor); first | done | fail) (by first | omega | (simp only; omega)) ?_); conv => whnf))
   rw [ek]
   intro aB
   conv => whnf
   (repeat ((first | refine stp (by (repeat constructor); first | done | fail) ?_ | refine stn (by (repeat constructor); first | done | fail) ?_ | refine sto (by (repeat constructor); first | done | fail) (by first | omega | (simp only; omega)) ?_); conv => whnf))
   rw [← hlen1]
   have hcap : ws1.length + 1 ≤ ws1.length + 1 := Nat.le_refl _
   refine ⟨face_enters, cl_mem (m1 := R2M iB k aB wB (some ⟨sB, 0, none⟩) (ws1.length + 1) (ws1.length + 1)) (R := FaceR (Rd2R k ws1 aB)) (by (repeat constructor); first | done | fail) (fun w' hm' => ?_) ?_⟩
   ·have hS : Stb (R2M iB k aB wB (some ⟨sB, 0, none⟩) (ws1.length + 1) (ws1.length + 1)) w' (fun w => StrsIn w (some ⟨sB, 0, none⟩) (w0 :: ws1)) := stb hm' (fun w'' hm'' => hws ▸ hStr hm'' (by (repeat constructor); first | done | fail))
    have hW : Stb (R2M iB k aB wB (some ⟨sB, 0, none⟩) (ws1.length + 1) (ws1.length + 1)) w' (LWK k ws1) := stb hm' (fun w'' hm'' => ⟨(hq' w'' hm''.fr).imp_right (fun h => by rw [hws] at h; exact h.1), fun h24 => (hq' w'' hm''.fr).imp_right (fun h => by rw [hws] at h; exact h.2 (by rw [← hword, h24]; rfl))⟩)
    refine face_any 40 [.pointer (some ⟨iB, 0, none⟩), .pointer (some ⟨aB, 0, none⟩), .pointer (some ⟨wB, 0, none⟩)] _ w' (Rd2R k ws1 aB) read2_enters hm'.part (fun w1 hf hm1 => ?_) ?_
    ·exact read2_any iB k aB wB _ _ w0 ws1 w1 hk (Pl.mk _ _) hcap (fun s hs => by have := hwl.2 s (by rw [hws]; exact List.mem_cons_of_mem _ hs); omega) (by omega) hm1 (fun w2 h2 => hS w2 (hf.trans h2)) (fun w2 h2 => hW w2 (hf.trans h2))
    ·rintro e m' (⟨rfl, _⟩ | ⟨rfl, _⟩)
     ·exact .inr ⟨410, rfl⟩
     ·exact .inl ⟨_, rfl⟩
   rintro e m' ⟨e0, ⟨rfl, hno, rfl⟩ | ⟨rfl, x', bA', pA', bc', pc', hx', hkx, hN, hsnd, rfl⟩, ⟨v, he, rfl⟩ | ⟨n, he, rfl⟩⟩
   ·cases he
   ·have hn : n = 410 := refusal_inj (by injection he with he; exact he.symm)
    subst hn
    have hnone : readF l = none := readF_none fun a ha hmay h => hno a ha hmay (hother a ha hmay h).1 (hother a ha hmay h).2
    obtain ⟨hA, hE⟩ := readR_none hnone hshort
    conv => whnf
    (repeat ((first | refine stp (by (repeat constructor); first | done | fail) ?_ | refine stn (by (repeat constructor); first | done | fail) ?_ | refine sto (by (repeat constructor); first | done | fail) (by first | omega | (simp only; omega)) ?_ | refine .mk fun Ap capp => ?_ | refine ⟨?_, trivial⟩ | intro _); conv => whnf))
    refine br_t rfl ?_
    conv => whnf
    (repeat ((first | refine stp (by (repeat constructor); first | done | fail) ?_ | refine stn (by (repeat constructor); first | done | fail) ?_ | refine sto (by (repeat constructor); first | done | fail) (by first | omega | (simp only; omega)) ?_ | refine .mk fun Ap capp => ?_ | refine ⟨?_, trivial⟩ | intro _); conv => whnf))
    refine finC2 rfl rfl (ldN tab_ok (by (repeat constructor); first | done | fail) rfl rfl rfl rfl) rfl (fun w' hm => ⟨_, ⟨none, none, 0, 0, ?_, rfl⟩, ?_⟩)
    ·rw [hA, hE]; rfl
    ·rw [hA]
     exact ((hm.nilRow 3 1).nilRow 5 1).sel (.cons .here (.cons .here .nil))
   ·conv => whnf
    (repeat ((first | refine stp (by (repeat constructor); first | done | fail) ?_ | refine stn (by (repeat constructor); first | done | fail) ?_ | refine sto (by (repeat constructor); first | done | fail) (by first | omega | (simp only; omega)) ?_ | refine .mk fun Ap capp => ?_ | refine ⟨?_, trivial⟩ | intro _); conv => whnf))
    refine br_f rfl ?_
    have hwords : ∀ w', Fr (Foot []) w w' → NumAct w' x' := fun w' hf => hN w' (fun s hs => fun v hv => (hn s (by rw [hws]; exact List.mem_cons_of_mem _ hs) v hv).fr (hF w' hf))
    have hX : readF l = some x' ∨ (readF l = none ∧ ¬ (mayB x' = true ∧ lineL x' = l)) := by
     by_cases hb : mayB x' = true ∧ lineL x' = l
     ·exact .inl (readF_some hx' hb.1 hb.2)
     ·refine .inr ⟨readF_none fun a ha hmay h => hb ?_, hb⟩
      have := hsnd a ha hmay (hother a ha hmay h).1 (hother a ha hmay h).2
      rw [this]; exact ⟨hmay, h⟩
    have hbad : readF l = none → readA l = nilAct 0 ∧ readE l = 410 := fun h => readR_none h hshort
    conv => whnf
    (repeat ((first | refine stp (by (repeat constructor); first | done | fail) ?_ | refine stn (by (repeat constructor); first | done | fail) ?_ | refine sto (by (repeat constructor); first | done | fail) (by first | omega | (simp only; omega)) ?_ | refine .mk fun Ap capp => ?_ | refine ⟨?_, trivial⟩ | intro _); conv => whnf))
    refine ⟨line_enters, cl_same _ (fun w' hm' => line_any x' bA' pA' bc' pc' w' ⟨⟨hx', BR.in_ (by (repeat constructor); first | done | fail) hm', PR.in_ (by (repeat constructor); first | done | fail) hm'⟩, hwords w' hm'.fr⟩) ?_⟩
    by_cases hb : mayB x' = true ∧ lineL x' = l
    ·have hr : readF l = some x' := readF_some hx' hb.1 hb.2
     conv => whnf
     (repeat ((first | refine stp (by (repeat constructor); first | done | fail) ?_ | refine stn (by (repeat constructor); first | done | fail) ?_ | refine sto (by (repeat constructor); first | done | fail) (by first | omega | (simp only; omega)) ?_ | refine .mk fun Ap capp => ?_ | refine ⟨?_, trivial⟩ | intro _); conv => whnf))
     refine br_f (by simp [hb.1, hb.2]) ?_
     conv => whnf
     (repeat ((first | refine stp (by (repeat constructor); first | done | fail) ?_ | refine stn (by (repeat constructor); first | done | fail) ?_ | refine sto (by (repeat constructor); first | done | fail) (by first | omega | (simp only; omega)) ?_ | refine .mk fun Ap capp => ?_ | refine ⟨?_, trivial⟩ | intro _); conv => whnf))
     refine finC2 rfl rfl (ldN tab_ok (by (repeat constructor); first | done | fail) rfl rfl rfl rfl) rfl (fun w' hm => ⟨_, ⟨bA', pA', bc', pc', ?_, rfl⟩, ?_⟩)
     ·rw [readA, readE, if_neg hshort, if_neg hshort, hr]; rfl
     ·rw [readA, if_neg hshort, hr]; exact hm.sel (by (repeat constructor); first | done | fail)
    ·obtain ⟨hA, hE⟩ := hbad (hX.elim (fun h => by have := readF_is l; rw [h] at this; exact absurd this.2 hb) (·.1))
     conv => whnf
     (repeat ((first | refine stp (by (repeat constructor); first | done | fail) ?_ | refine stn (by (repeat constructor); first | done | fail) ?_ | refine sto (by (repeat constructor); first | done | fail) (by first | omega | (simp only; omega)) ?_ | refine .mk fun Ap capp => ?_ | refine ⟨?_, trivial⟩ | intro _); conv => whnf))
     refine br_t (by
      cases hmay : mayB x' with
      | false => rfl
      | true =>
       have : lineL x' ≠ l := fun h => hb ⟨hmay, h⟩
       simp [Str.inj, this]) ?_
     conv => whnf
     (repeat ((first | refine stp (by (repeat constructor); first | done | fail) ?_ | refine stn (by (repeat constructor); first | done | fail) ?_ | refine sto (by (repeat constructor); first | done | fail) (by first | omega | (simp only; omega)) ?_ | refine .mk fun Ap capp => ?_ | refine ⟨?_, trivial⟩ | intro _); conv => whnf))
     refine finC2 rfl rfl (ldN tab_ok (by (repeat constructor); first | done | fail) rfl rfl rfl rfl) rfl (fun w' hm => ⟨_, ⟨none, none, 0, 0, ?_, rfl⟩, ?_⟩)
     ·rw [hA, hE]; rfl
     ·rw [hA]
      exact ((hm.nilRow 3 1).nilRow 5 1).sel (.cons .here (.cons .here .nil))
   ·cases he
theorem Read_enters : Eng.Enters Tryz.prog 12 := enters_mk fun _ _ => by kernel_rfl
end Go.Proofs.YtbfbjgakmnckbaaGreatDoor
namespace Go.Proofs.YtbfbjgakmnckbaaGreatDoor
open Go Go.RowKit Eng
attribute [local irreducible] Br Rn RnU Cl RdG CpG Ld Rd Lp Dr Oth Cut fin Fits Eng.Enters Md NA
theorem StrsIn.ldj {cx : Cx} (hP : cx.P = Tryz.prog) (ht : cx.tab = tab) {A : Option Addr} {ws : List (List UInt8)} {m : Mem} {j : Nat} (hj : j < ws.length) (h : ∀ w, MemOk cx.w0 cx.S m w → StrsIn w A ws) : Ld cx m 9 (.pointer (pl A j)) (.string (Str (ws.getD j []))) := by
 unfold Ld
 intro w hm
 obtain ⟨b, o, rfl, hc⟩ := h w hm (by omega)
 rw [hP]
 have := hc j (ws.getD j []) (by rw [List.getD, List.getElem?_eq_getElem hj]; rfl)
 exact run_load1 (tab_ok _ _ rfl) rfl this
theorem StrsIn.pl {w : World} {A : Option Addr} {ws : List (List UInt8)} (h : StrsIn w A ws) (hn : 0 < ws.length) : Pl A := by
 obtain ⟨b, o, rfl, _⟩ := h hn
 exact Pl.mk _ _
theorem StrsIn.fr {w w' : World} {A : Option Addr} {ws : List (List UInt8)} (h : StrsIn w A ws) (hf : Fr (fun _ => False) w w') : StrsIn w' A ws := by
 intro hn
 obtain ⟨b, o, rfl, hc⟩ := h hn
 refine ⟨b, o, rfl, fun j s hj => ?_⟩
 have h1 := hc j s hj
 exact (World.cell?_of_block (hf.block _ (World.block_lt_of_cell? w _ h1) id)).trans h1
theorem number_enters : Eng.Enters Tryz.prog 45 := enters_mk fun _ _ => by kernel_rfl
theorem flag_enters : Eng.Enters Tryz.prog 52 := enters_mk fun _ _ => by kernel_rfl
theorem bytes_enters : Eng.Enters Tryz.prog 89 := enters_mk fun _ _ => by kernel_rfl
theorem fields_enters : Eng.Enters Tryz.prog 44 := enters_mk fun _ _ => by kernel_rfl
theorem words_enters : Eng.Enters Tryz.prog 41 := enters_mk fun _ _ => by kernel_rfl
theorem may_enters : Eng.Enters Tryz.prog 18 := enters_mk fun _ _ => by kernel_rfl
theorem fields_end : ∀ (f : List UInt8) (ws : List (List UInt8)) (x : PAct), (f = [] ∨ ws = []) → fieldsF f ws x = x
 | [], _, _, _ => by unfold fieldsF; rfl
 | _ :: _, [], _, _ => rfl
 | _ :: _, _ :: _, _, h => by rcases h with h | h <;> cases h
theorem fields_step {f : List UInt8} {ws : List (List UInt8)} {i : Nat} {y : PAct} (hi : i < f.length) (hj : i < ws.length) : fieldsF (f.drop i) (ws.drop i) y = fieldsF (f.drop (i + 1)) (ws.drop (i + 1)) (takeW (f.getD i 0) (ws.getD i []) y) := by
 rw [List.drop_eq_getElem_cons hi, List.drop_eq_getElem_cons hj, fieldsF]
 simp [List.getD, List.getElem?_eq_getElem hi, List.getElem?_eq_getElem hj]
/-- fields hands out an act with bytes of its own. -/
def FieldsR (x : PAct) (e : Ending) (m' : Mem) : Prop := ∃ (bA : Option Addr) (bc : Nat), e = .returned (.agg (actL x bA bc none 0).toArray) ∧ m' = [BR bA bc x.bytes]
set_option maxRecDepth 100000 in
set_option maxHeartbeats 2000000 in
theorem fields_any (x : PAct) (f : List UInt8) (ws : List (List UInt8)) (p : Option Addr) (cap : Nat) (w : World) (hxb : x.bytes = []) (hxp : x.picks = []) (hfl : f.length ≤ 16) (hl : ∀ s ∈ ws, s.length ≤ 1099511627776) (hs : StrsIn w p ws) :
  Ctr Tryz.prog 44 [.agg (actL x none 0 none 0).toArray, .string (Str f), .slice p ws.length cap] [] (FieldsR (fieldsF f ws x)) w := by
 refine enter (cx := CXS 107 [] w (Foot [])) [(0, .agg (actL x none 0 none 0).toArray), (1, .string (Str f)), (2, .slice p ws.length cap)] tab_ok Tryz.func44 rfl rfl rfl rfl (MemOk.nil w _) ?_
 have hF : ∀ w', Fr (Foot []) w w' → Fr (fun _ => False) w w' := fun w' hf => hf.mono (fun k _ ⟨r, hr, _⟩ => by cases hr)
 have hS : ∀ m w', MemOk w (Foot []) m w' → StrsIn w' p ws := fun m w' hm => hs.fr (hF w' hm.fr)
 have hfs := Str.size f
 have hlj : ∀ j, (ws.getD j []).length ≤ 1099511627776 := by
  intro j
  rw [List.getD]
  cases h : ws[j]? with
  | none => simp
  | some s => exact hl s (List.mem_of_getElem? h)
 conv => whnf
 intro b3
 conv => whnf
 intro b6
 conv => whnf
 (repeat ((first | refine stp (by (repeat constructor); first | done | fail) ?_ | refine stn (by (repeat constructor); first | done | fail) ?_ | refine sto (by (repeat constructor); first | done | fail) (by first | omega | (simp only; omega)) ?_); conv => whnf))
 generalize hR : fieldsF f ws x = res
 refine lp tab_ok (γ := Nat × PAct × Option Addr × Nat) (fun g => g.1 ≤ f.length ∧ g.2.1.picks = [] ∧ fieldsF (f.drop g.1) (ws.drop g.1) g.2.1 = res)
  (fun g => [(7, .int .i64 (g.1 : Int)), (1, .string (Str f)), (2, .slice p ws.length cap), (3, .pointer (some ⟨b3, 0, none⟩)), (6, .pointer (some ⟨b6, 0, none⟩))])
  (fun g => [.blk b3 (.cells (actL g.2.1 g.2.2.1 g.2.2.2 none 0).toArray 29), BR g.2.2.1 g.2.2.2 g.2.1.bytes, .blk b6 (.cells (actL (nilAct 0) none 0 none 0).toArray 29)]) (fun g => f.length - g.1) (0, x, none, 0) ⟨by simp, hxp, hR⟩ ⟨rfl, rfl, rfl, rfl, rfl, trivial⟩ (fun w hm => by
   have := (hm.nilRow 5 1)
   show MemOk _ _ [_, BR none 0 x.bytes, _] _
   rw [hxb]
   exact this.sel (by (repeat constructor); first | done | fail)) ?_
 rintro ⟨i, y, bA, bc⟩ ⟨hi, hyp, hres⟩
 simp only at hi hyp hres
 change XC _ _ _ [(7, .int .i64 (i : Int)), (1, .string (Str f)), (2, .slice p ws.length cap), (3, .pointer (some ⟨b3, 0, none⟩)), (6, .pointer (some ⟨b6, 0, none⟩))] [.blk b3 (.cells (actL y bA bc none 0).toArray 29), BR bA bc y.bytes, .blk b6 (.cells (actL (nilAct 0) none 0 none 0).toArray 29)]
 conv => whnf
 (repeat ((first | refine stp (by (repeat constructor); first | done | fail) ?_ | refine stn (by (repeat constructor); first | done | fail) ?_ | refine sto (by (repeat constructor); first | done | fail) (by first | omega | (simp only; omega)) ?_ | refine .mk fun Ap capp => ?_ | refine ⟨?_, trivial⟩ | intro _); conv => whnf))
 refine br (fun hlt => ?_) (fun hge => ?_)
 ·simp only [Bool.and_eq_true, decide_eq_true_eq] at hlt
  obtain ⟨hlt1, hlt2⟩ := hlt
  have hi1 : i < f.length := by omega
  have hi2 : i < ws.length := by omega
  rw [fields_step hi1 hi2] at hres
  have hpl : Pl p := hs.pl (by omega)
  have hw := hlj i
  generalize hs0 : ws.getD i [] = s at hres hw
  have hld : ∀ m, Ld (CXS 107 [] w (Foot [])) m 9 (.pointer (pl p i)) (.string (Str s)) := fun m => hs0 ▸ StrsIn.ldj rfl rfl hi2 (hS m)
  have hby : ∀ c : UInt8, byteAt (Str f) (i : Int).toNat = (c.toNat : Int) → f.getD i 0 = c := fun c h => u8_of_int h
  have hnb : ∀ c : UInt8, ¬ byteAt (Str f) (i : Int).toNat = (c.toNat : Int) → f.getD i 0 ≠ c := fun c h hc => h (by rw [Str.get, Int.toNat_natCast, hc])
  conv => whnf
  (repeat ((first | refine stp (by (repeat constructor); first | done | fail) ?_ | refine stn (by (repeat constructor); first | done | fail) ?_ | refine sto (by (repeat constructor); first | done | fail) (by first | omega | (simp only; omega)) ?_ | refine .mk fun Ap capp => ?_ | refine ⟨?_, trivial⟩ | intro _); conv => whnf))
  refine br_d (fun h0 => ?_) (fun h0 => ?_)
  ·rw [hby 97 h0] at hres
   conv => whnf
   (repeat ((first | refine stp (by (repeat constructor); first | done | fail) ?_ | refine stn (by (repeat constructor); first | done | fail) ?_ | refine sto (by (repeat constructor); first | done | fail) (by first | omega | (simp only; omega)) ?_ | refine .mk fun Ap capp => ?_ | refine ⟨?_, trivial⟩ | intro _); conv => whnf))
   refine ⟨⟨by omega, by omega, hpl⟩, ?_⟩
   conv => whnf
   refine rn_load (hld _) ?_
   conv => whnf
   (repeat ((first | refine stp (by (repeat constructor); first | done | fail) ?_ | refine stn (by (repeat constructor); first | done | fail) ?_ | refine sto (by (repeat constructor); first | done | fail) (by first | omega | (simp only; omega)) ?_ | refine .mk fun Ap capp => ?_ | refine ⟨?_, trivial⟩ | intro _); conv => whnf))
   exact ⟨(i + 1, { y with name := Str s }, bA, bc), ⟨by simp only; omega, hyp, hres⟩, by simp only; omega, ⟨rfl, rfl, rfl, rfl, rfl, trivial⟩, SubM.sel (by (repeat constructor); first | done | fail)⟩
  ·have n0 := hnb 97 h0
   conv => whnf
   (repeat ((first | refine stp (by (repeat constructor); first | done | fail) ?_ | refine stn (by (repeat constructor); first | done | fail) ?_ | refine sto (by (repeat constructor); first | done | fail) (by first | omega | (simp only; omega)) ?_ | refine .mk fun Ap capp => ?_ | refine ⟨?_, trivial⟩ | intro _); conv => whnf))
   refine br_d (fun h1 => ?_) (fun h1 => ?_)
   ·rw [hby 111 h1] at hres
    conv => whnf
    (repeat ((first | refine stp (by (repeat constructor); first | done | fail) ?_ | refine stn (by (repeat constructor); first | done | fail) ?_ | refine sto (by (repeat constructor); first | done | fail) (by first | omega | (simp only; omega)) ?_ | refine .mk fun Ap capp => ?_ | refine ⟨?_, trivial⟩ | intro _); conv => whnf))
    refine ⟨⟨by omega, by omega, hpl⟩, ?_⟩
    conv => whnf
    refine rn_load (hld _) ?_
    conv => whnf
    (repeat ((first | refine stp (by (repeat constructor); first | done | fail) ?_ | refine stn (by (repeat constructor); first | done | fail) ?_ | refine sto (by (repeat constructor); first | done | fail) (by first | omega | (simp only; omega)) ?_ | refine .mk fun Ap capp => ?_ | refine ⟨?_, trivial⟩ | intro _); conv => whnf))
    exact ⟨(i + 1, { y with other := Str s }, bA, bc), ⟨by simp only; omega, hyp, hres⟩, by simp only; omega, ⟨rfl, rfl, rfl, rfl, rfl, trivial⟩, SubM.sel (by (repeat constructor); first | done | fail)⟩
   ·have n1 := hnb 111 h1
    conv => whnf
    (repeat ((first | refine stp (by (repeat constructor); first | done | fail) ?_ | refine stn (by (repeat constructor); first | done | fail) ?_ | refine sto (by (repeat constructor); first | done | fail) (by first | omega | (simp only; omega)) ?_ | refine .mk fun Ap capp => ?_ | refine ⟨?_, trivial⟩ | intro _); conv => whnf))
    refine br_d (fun h2 => ?_) (fun h2 => ?_)
    ·rw [hby 79 h2] at hres
     conv => whnf
     (repeat ((first | refine stp (by (repeat constructor); first | done | fail) ?_ | refine stn (by (repeat constructor); first | done | fail) ?_ | refine sto (by (repeat constructor); first | done | fail) (by first | omega | (simp only; omega)) ?_ | refine .mk fun Ap capp => ?_ | refine ⟨?_, trivial⟩ | intro _); conv => whnf))
     refine ⟨⟨by omega, by omega, hpl⟩, ?_⟩
     conv => whnf
     refine rn_load (hld _) ?_
     conv => whnf
     (repeat ((first | refine stp (by (repeat constructor); first | done | fail) ?_ | refine stn (by (repeat constructor); first | done | fail) ?_ | refine sto (by (repeat constructor); first | done | fail) (by first | omega | (simp only; omega)) ?_ | refine .mk fun Ap capp => ?_ | refine ⟨?_, trivial⟩ | intro _); conv => whnf))
     refine br_n (br_d (fun hd => ?_) (fun hd => ?_))
     ·have hd2 : s = [45] := Str.inj.1 hd
      rw [show takeW 79 s y = y from (by rw [hd2]; rfl)] at hres
      conv => whnf
      (repeat ((first | refine stp (by (repeat constructor); first | done | fail) ?_ | refine stn (by (repeat constructor); first | done | fail) ?_ | refine sto (by (repeat constructor); first | done | fail) (by first | omega | (simp only; omega)) ?_ | refine .mk fun Ap capp => ?_ | refine ⟨?_, trivial⟩ | intro _); conv => whnf))
      exact ⟨(i + 1, y, bA, bc), ⟨by simp only; omega, hyp, hres⟩, by simp only; omega, ⟨rfl, rfl, rfl, rfl, rfl, trivial⟩, SubM.sel (by (repeat constructor); first | done | fail)⟩
     ·have hd2 : s ≠ [45] := fun h => hd (by rw [h])
      rw [show takeW 79 s y = { y with other := Str s } from if_neg hd2] at hres
      conv => whnf
      (repeat ((first | refine stp (by (repeat constructor); first | done | fail) ?_ | refine stn (by (repeat constructor); first | done | fail) ?_ | refine sto (by (repeat constructor); first | done | fail) (by first | omega | (simp only; omega)) ?_ | refine .mk fun Ap capp => ?_ | refine ⟨?_, trivial⟩ | intro _); conv => whnf))
      refine ⟨⟨by omega, by omega, hpl⟩, ?_⟩
      conv => whnf
      refine rn_load (hld _) ?_
      conv => whnf
      (repeat ((first | refine stp (by (repeat constructor); first | done | fail) ?_ | refine stn (by (repeat constructor); first | done | fail) ?_ | refine sto (by (repeat constructor); first | done | fail) (by first | omega | (simp only; omega)) ?_ | refine .mk fun Ap capp => ?_ | refine ⟨?_, trivial⟩ | intro _); conv => whnf))
      exact ⟨(i + 1, { y with other := Str s }, bA, bc), ⟨by simp only; omega, hyp, hres⟩, by simp only; omega, ⟨rfl, rfl, rfl, rfl, rfl, trivial⟩, SubM.sel (by (repeat constructor); first | done | fail)⟩
    ·have n2 := hnb 79 h2
     conv => whnf
     (repeat ((first | refine stp (by (repeat constructor); first | done | fail) ?_ | refine stn (by (repeat constructor); first | done | fail) ?_ | refine sto (by (repeat constructor); first | done | fail) (by first | omega | (simp only; omega)) ?_ | refine .mk fun Ap capp => ?_ | refine ⟨?_, trivial⟩ | intro _); conv => whnf))
     refine br_d (fun h3 => ?_) (fun h3 => ?_)
     ·rw [hby 116 h3] at hres
      conv => whnf
      (repeat ((first | refine stp (by (repeat constructor); first | done | fail) ?_ | refine stn (by (repeat constructor); first | done | fail) ?_ | refine sto (by (repeat constructor); first | done | fail) (by first | omega | (simp only; omega)) ?_ | refine .mk fun Ap capp => ?_ | refine ⟨?_, trivial⟩ | intro _); conv => whnf))
      refine ⟨⟨by omega, by omega, hpl⟩, ?_⟩
      conv => whnf
      refine rn_load (hld _) ?_
      conv => whnf
      (repeat ((first | refine stp (by (repeat constructor); first | done | fail) ?_ | refine stn (by (repeat constructor); first | done | fail) ?_ | refine sto (by (repeat constructor); first | done | fail) (by first | omega | (simp only; omega)) ?_ | refine .mk fun Ap capp => ?_ | refine ⟨?_, trivial⟩ | intro _); conv => whnf))
      exact ⟨(i + 1, { y with third := Str s }, bA, bc), ⟨by simp only; omega, hyp, hres⟩, by simp only; omega, ⟨rfl, rfl, rfl, rfl, rfl, trivial⟩, SubM.sel (by (repeat constructor); first | done | fail)⟩
     ·have n3 := hnb 116 h3
      conv => whnf
      (repeat ((first | refine stp (by (repeat constructor); first | done | fail) ?_ | refine stn (by (repeat constructor); first | done | fail) ?_ | refine sto (by (repeat constructor); first | done | fail) (by first | omega | (simp only; omega)) ?_ | refine .mk fun Ap capp => ?_ | refine ⟨?_, trivial⟩ | intro _); conv => whnf))
      refine br_d (fun h4 => ?_) (fun h4 => ?_)
      ·rw [hby 65 h4] at hres
       conv => whnf
       (repeat ((first | refine stp (by (repeat constructor); first | done | fail) ?_ | refine stn (by (repeat constructor); first | done | fail) ?_ | refine sto (by (repeat constructor); first | done | fail) (by first | omega | (simp only; omega)) ?_ | refine .mk fun Ap capp => ?_ | refine ⟨?_, trivial⟩ | intro _); conv => whnf))
       refine ⟨⟨by omega, by omega, hpl⟩, ?_⟩
       conv => whnf
       refine rn_load (hld _) ?_
       conv => whnf
       (repeat ((first | refine stp (by (repeat constructor); first | done | fail) ?_ | refine stn (by (repeat constructor); first | done | fail) ?_ | refine sto (by (repeat constructor); first | done | fail) (by first | omega | (simp only; omega)) ?_ | refine .mk fun Ap capp => ?_ | refine ⟨?_, trivial⟩ | intro _); conv => whnf))
       refine ⟨number_enters, cl_same _ (fun w' _ => number_any s w' (by omega)) ?_⟩
       conv => whnf
       (repeat ((first | refine stp (by (repeat constructor); first | done | fail) ?_ | refine stn (by (repeat constructor); first | done | fail) ?_ | refine sto (by (repeat constructor); first | done | fail) (by first | omega | (simp only; omega)) ?_ | refine .mk fun Ap capp => ?_ | refine ⟨?_, trivial⟩ | intro _); conv => whnf))
       exact ⟨(i + 1, { y with at_ := numF s }, bA, bc), ⟨by simp only; omega, hyp, hres⟩, by simp only; omega, ⟨rfl, rfl, rfl, rfl, rfl, trivial⟩, SubM.sel (by (repeat constructor); first | done | fail)⟩
      ·have n4 := hnb 65 h4
       conv => whnf
       (repeat ((first | refine stp (by (repeat constructor); first | done | fail) ?_ | refine stn (by (repeat constructor); first | done | fail) ?_ | refine sto (by (repeat constructor); first | done | fail) (by first | omega | (simp only; omega)) ?_ | refine .mk fun Ap capp => ?_ | refine ⟨?_, trivial⟩ | intro _); conv => whnf))
       refine br_d (fun h5 => ?_) (fun h5 => ?_)
       ·rw [hby 78 h5] at hres
        conv => whnf
        (repeat ((first | refine stp (by (repeat constructor); first | done | fail) ?_ | refine stn (by (repeat constructor); first | done | fail) ?_ | refine sto (by (repeat constructor); first | done | fail) (by first | omega | (simp only; omega)) ?_ | refine .mk fun Ap capp => ?_ | refine ⟨?_, trivial⟩ | intro _); conv => whnf))
        refine ⟨⟨by omega, by omega, hpl⟩, ?_⟩
        conv => whnf
        refine rn_load (hld _) ?_
        conv => whnf
        (repeat ((first | refine stp (by (repeat constructor); first | done | fail) ?_ | refine stn (by (repeat constructor); first | done | fail) ?_ | refine sto (by (repeat constructor); first | done | fail) (by first | omega | (simp only; omega)) ?_ | refine .mk fun Ap capp => ?_ | refine ⟨?_, trivial⟩ | intro _); conv => whnf))
        refine ⟨number_enters, cl_same _ (fun w' _ => number_any s w' (by omega)) ?_⟩
        conv => whnf
        (repeat ((first | refine stp (by (repeat constructor); first | done | fail) ?_ | refine stn (by (repeat constructor); first | done | fail) ?_ | refine sto (by (repeat constructor); first | done | fail) (by first | omega | (simp only; omega)) ?_ | refine .mk fun Ap capp => ?_ | refine ⟨?_, trivial⟩ | intro _); conv => whnf))
        exact ⟨(i + 1, { y with n := numF s }, bA, bc), ⟨by simp only; omega, hyp, hres⟩, by simp only; omega, ⟨rfl, rfl, rfl, rfl, rfl, trivial⟩, SubM.sel (by (repeat constructor); first | done | fail)⟩
       ·have n5 := hnb 78 h5
        conv => whnf
        (repeat ((first | refine stp (by (repeat constructor); first | done | fail) ?_ | refine stn (by (repeat constructor); first | done | fail) ?_ | refine sto (by (repeat constructor); first | done | fail) (by first | omega | (simp only; omega)) ?_ | refine .mk fun Ap capp => ?_ | refine ⟨?_, trivial⟩ | intro _); conv => whnf))
        refine br_d (fun h6 => ?_) (fun h6 => ?_)
        ·rw [hby 66 h6] at hres
         conv => whnf
         (repeat ((first | refine stp (by (repeat constructor); first | done | fail) ?_ | refine stn (by (repeat constructor); first | done | fail) ?_ | refine sto (by (repeat constructor); first | done | fail) (by first | omega | (simp only; omega)) ?_ | refine .mk fun Ap capp => ?_ | refine ⟨?_, trivial⟩ | intro _); conv => whnf))
         refine ⟨⟨by omega, by omega, hpl⟩, ?_⟩
         conv => whnf
         refine rn_load (hld _) ?_
         conv => whnf
         (repeat ((first | refine stp (by (repeat constructor); first | done | fail) ?_ | refine stn (by (repeat constructor); first | done | fail) ?_ | refine sto (by (repeat constructor); first | done | fail) (by first | omega | (simp only; omega)) ?_ | refine .mk fun Ap capp => ?_ | refine ⟨?_, trivial⟩ | intro _); conv => whnf))
         refine ⟨number_enters, cl_same _ (fun w' _ => number_any s w' (by omega)) ?_⟩
         conv => whnf
         (repeat ((first | refine stp (by (repeat constructor); first | done | fail) ?_ | refine stn (by (repeat constructor); first | done | fail) ?_ | refine sto (by (repeat constructor); first | done | fail) (by first | omega | (simp only; omega)) ?_ | refine .mk fun Ap capp => ?_ | refine ⟨?_, trivial⟩ | intro _); conv => whnf))
         exact ⟨(i + 1, { y with bits := numF s }, bA, bc), ⟨by simp only; omega, hyp, hres⟩, by simp only; omega, ⟨rfl, rfl, rfl, rfl, rfl, trivial⟩, SubM.sel (by (repeat constructor); first | done | fail)⟩
        ·have n6 := hnb 66 h6
         conv => whnf
         (repeat ((first | refine stp (by (repeat constructor); first | done | fail) ?_ | refine stn (by (repeat constructor); first | done | fail) ?_ | refine sto (by (repeat constructor); first | done | fail) (by first | omega | (simp only; omega)) ?_ | refine .mk fun Ap capp => ?_ | refine ⟨?_, trivial⟩ | intro _); conv => whnf))
         refine br_d (fun h7 => ?_) (fun h7 => ?_)
         ·rw [hby 82 h7] at hres
          conv => whnf
          (repeat ((first | refine stp (by (repeat constructor); first | done | fail) ?_ | refine stn (by (repeat constructor); first | done | fail) ?_ | refine sto (by (repeat constructor); first | done | fail) (by first | omega | (simp only; omega)) ?_ | refine .mk fun Ap capp => ?_ | refine ⟨?_, trivial⟩ | intro _); conv => whnf))
          refine ⟨⟨by omega, by omega, hpl⟩, ?_⟩
          conv => whnf
          refine rn_load (hld _) ?_
          conv => whnf
          (repeat ((first | refine stp (by (repeat constructor); first | done | fail) ?_ | refine stn (by (repeat constructor); first | done | fail) ?_ | refine sto (by (repeat constructor); first | done | fail) (by first | omega | (simp only; omega)) ?_ | refine .mk fun Ap capp => ?_ | refine ⟨?_, trivial⟩ | intro _); conv => whnf))
          refine ⟨number_enters, cl_same _ (fun w' _ => number_any s w' (by omega)) ?_⟩
          conv => whnf
          (repeat ((first | refine stp (by (repeat constructor); first | done | fail) ?_ | refine stn (by (repeat constructor); first | done | fail) ?_ | refine sto (by (repeat constructor); first | done | fail) (by first | omega | (simp only; omega)) ?_ | refine .mk fun Ap capp => ?_ | refine ⟨?_, trivial⟩ | intro _); conv => whnf))
          exact ⟨(i + 1, { y with order := numF s }, bA, bc), ⟨by simp only; omega, hyp, hres⟩, by simp only; omega, ⟨rfl, rfl, rfl, rfl, rfl, trivial⟩, SubM.sel (by (repeat constructor); first | done | fail)⟩
         ·have n7 := hnb 82 h7
          conv => whnf
          (repeat ((first | refine stp (by (repeat constructor); first | done | fail) ?_ | refine stn (by (repeat constructor); first | done | fail) ?_ | refine sto (by (repeat constructor); first | done | fail) (by first | omega | (simp only; omega)) ?_ | refine .mk fun Ap capp => ?_ | refine ⟨?_, trivial⟩ | intro _); conv => whnf))
          refine br_d (fun h8 => ?_) (fun h8 => ?_)
          ·rw [hby 120 h8] at hres
           conv => whnf
           (repeat ((first | refine stp (by (repeat constructor); first | done | fail) ?_ | refine stn (by (repeat constructor); first | done | fail) ?_ | refine sto (by (repeat constructor); first | done | fail) (by first | omega | (simp only; omega)) ?_ | refine .mk fun Ap capp => ?_ | refine ⟨?_, trivial⟩ | intro _); conv => whnf))
           refine ⟨⟨by omega, by omega, hpl⟩, ?_⟩
           conv => whnf
           refine rn_load (hld _) ?_
           conv => whnf
           (repeat ((first | refine stp (by (repeat constructor); first | done | fail) ?_ | refine stn (by (repeat constructor); first | done | fail) ?_ | refine sto (by (repeat constructor); first | done | fail) (by first | omega | (simp only; omega)) ?_ | refine .mk fun Ap capp => ?_ | refine ⟨?_, trivial⟩ | intro _); conv => whnf))
           refine ⟨bytes_enters, cl_ex (R := fun w0 e w1 => ∃ A cap, e = .returned (.slice A (bytesL s).length cap) ∧ w1.ownsRow w0.heap.size 5 1 (.slice A (bytesL s).length cap) (bytesL s).length ((numsOf (bytesL s)).map (.int .u8)) ∧ Fr (fun _ => False) w0 w1) (fun w' _ => bytes_any s w' (by omega)) ?_⟩
           rintro w1 e w2 hm' ⟨A2, c2, rfl, hrow, hf2⟩
           refine ⟨_, hm'.fresh hf2 hrow, ?_⟩
           clear hrow hf2 hm'
           conv => whnf
           (repeat ((first | refine stp (by (repeat constructor); first | done | fail) ?_ | refine stn (by (repeat constructor); first | done | fail) ?_ | refine sto (by (repeat constructor); first | done | fail) (by first | omega | (simp only; omega)) ?_ | refine .mk fun Ap capp => ?_ | refine ⟨?_, trivial⟩ | intro _); conv => whnf))
           exact ⟨(i + 1, { y with bytes := bytesL s }, A2, c2), ⟨by simp only; omega, hyp, hres⟩, by simp only; omega, ⟨rfl, rfl, rfl, rfl, rfl, trivial⟩, SubM.sel (by (repeat constructor); first | done | fail)⟩
          ·have n8 := hnb 120 h8
           conv => whnf
           (repeat ((first | refine stp (by (repeat constructor); first | done | fail) ?_ | refine stn (by (repeat constructor); first | done | fail) ?_ | refine sto (by (repeat constructor); first | done | fail) (by first | omega | (simp only; omega)) ?_ | refine .mk fun Ap capp => ?_ | refine ⟨?_, trivial⟩ | intro _); conv => whnf))
           rw [show takeW (f.getD i 0) s y = { y with on := decide (s = flagW ((f.getD i 0).toNat : Int) true) } from by unfold takeW; rw [if_neg n0, if_neg n1, if_neg n2, if_neg n3, if_neg n4, if_neg n5, if_neg n6, if_neg n7, if_neg n8]] at hres
           refine dr_any (γ := Unit) (Tr.hs [0, 1, 2, 4, 5, 6] (.alts 3 (Tr.sq [7] (Tr.hs [8, 9] (Tr.sq [10] .done))) (.alts 7 (Tr.sq [3] (Tr.hs [8, 9] (Tr.sq [10] .done))) .stop))) [] tab_ok mixed (by kernel_rfl) rfl (fun _ => True) (fun _ => [(7, .int .i64 (i : Int)), (1, .string (Str f)), (2, .slice p ws.length cap), (3, .pointer (some ⟨b3, 0, none⟩)), (6, .pointer (some ⟨b6, 0, none⟩))]) (fun _ => [.blk b3 (.cells (actL { y with on := decide (s = flagW ((f.getD i 0).toNat : Int) true) } bA bc none 0).toArray 29), BR bA bc y.bytes, .blk b6 (.cells (actL (nilAct 0) none 0 none 0).toArray 29)]) (SubM.sub (List.nil_sublist _)) ?_ ?_
           ·conv => whnf
            (repeat ((first | refine stp (by (repeat constructor); first | done | fail) ?_ | refine stn (by (repeat constructor); first | done | fail) ?_ | refine sto (by (repeat constructor); first | done | fail) (by first | omega | (simp only; omega)) ?_ | refine .mk fun Ap capp => ?_ | refine ⟨?_, trivial⟩ | intro _); conv => whnf))
            refine ⟨⟨by omega, by omega, hpl⟩, ?_⟩
            conv => whnf
            (repeat ((first | refine stp (by (repeat constructor); first | done | fail) ?_ | refine stn (by (repeat constructor); first | done | fail) ?_ | refine sto (by (repeat constructor); first | done | fail) (by first | omega | (simp only; omega)) ?_ | refine .mk fun Ap capp => ?_ | refine ⟨?_, trivial⟩ | intro _); conv => whnf))
            refine ⟨?_, ?_, trivial⟩
            ·refine rn_load (hld _) ?_
             conv => whnf
             (repeat ((first | refine stp (by (repeat constructor); first | done | fail) ?_ | refine stn (by (repeat constructor); first | done | fail) ?_ | refine sto (by (repeat constructor); first | done | fail) (by first | omega | (simp only; omega)) ?_ | refine .mk fun Ap capp => ?_ | refine ⟨?_, trivial⟩ | intro _); conv => whnf))
             refine ⟨flag_enters, cl_same _ (fun w' _ => flag_any _ true w') ?_⟩
             conv => whnf
             (repeat ((first | refine stp (by (repeat constructor); first | done | fail) ?_ | refine stn (by (repeat constructor); first | done | fail) ?_ | refine sto (by (repeat constructor); first | done | fail) (by first | omega | (simp only; omega)) ?_ | refine .mk fun Ap capp => ?_ | refine ⟨?_, trivial⟩ | intro _); conv => whnf))
             rw [Str.get, Int.toNat_natCast]
             exact ⟨(), trivial, ⟨rfl, rfl, rfl, rfl, rfl, trivial⟩, by simp only [Str.inj]; exact SubM.sel (by (repeat constructor); first | done | fail)⟩
            ·refine ⟨flag_enters, cl_same _ (fun w' _ => flag_any _ true w') ?_⟩
             conv => whnf
             (repeat ((first | refine stp (by (repeat constructor); first | done | fail) ?_ | refine stn (by (repeat constructor); first | done | fail) ?_ | refine sto (by (repeat constructor); first | done | fail) (by first | omega | (simp only; omega)) ?_ | refine .mk fun Ap capp => ?_ | refine ⟨?_, trivial⟩ | intro _); conv => whnf))
             refine rn_load (hld _) ?_
             conv => whnf
             (repeat ((first | refine stp (by (repeat constructor); first | done | fail) ?_ | refine stn (by (repeat constructor); first | done | fail) ?_ | refine sto (by (repeat constructor); first | done | fail) (by first | omega | (simp only; omega)) ?_ | refine .mk fun Ap capp => ?_ | refine ⟨?_, trivial⟩ | intro _); conv => whnf))
             rw [Str.get, Int.toNat_natCast]
             exact ⟨(), trivial, ⟨rfl, rfl, rfl, rfl, rfl, trivial⟩, by simp only [Str.inj]; exact SubM.sel (by (repeat constructor); first | done | fail)⟩
           ·rintro ⟨⟩ _
            conv => whnf
            (repeat ((first | refine stp (by (repeat constructor); first | done | fail) ?_ | refine stn (by (repeat constructor); first | done | fail) ?_ | refine sto (by (repeat constructor); first | done | fail) (by first | omega | (simp only; omega)) ?_ | refine .mk fun Ap capp => ?_ | refine ⟨?_, trivial⟩ | intro _); conv => whnf))
            exact ⟨(i + 1, { y with on := decide (s = flagW ((f.getD i 0).toNat : Int) true) }, bA, bc), ⟨by simp only; omega, hyp, hres⟩, by simp only; omega, ⟨rfl, rfl, rfl, rfl, rfl, trivial⟩, SubM.sel (by (repeat constructor); first | done | fail)⟩
 ·have hend : f.drop i = [] ∨ ws.drop i = [] := by
   simp only [Bool.and_eq_false_iff, decide_eq_false_iff_not] at hge
   rcases hge with h | h
   ·exact .inl (List.drop_of_length_le (by omega))
   ·exact .inr (List.drop_of_length_le (by omega))
  rw [fields_end _ _ _ hend] at hres
  subst hres
  conv => whnf
  (repeat ((first | refine stp (by (repeat constructor); first | done | fail) ?_ | refine stn (by (repeat constructor); first | done | fail) ?_ | refine sto (by (repeat constructor); first | done | fail) (by first | omega | (simp only; omega)) ?_ | refine .mk fun Ap capp => ?_ | refine ⟨?_, trivial⟩ | intro _); conv => whnf))
  refine finC1 rfl rfl (ldN tab_ok (by (repeat constructor); first | done | fail) rfl rfl rfl rfl) (fun w' hm => ⟨_, ⟨bA, bc, ?_, rfl⟩, hm.sel (by (repeat constructor); first | done | fail)⟩)
  rw [actL, hyp]; rfl
end Go.Proofs.YtbfbjgakmnckbaaGreatDoor
namespace Go.Proofs.YtbfbjgakmnckbaaGreatDoor
open Go Go.RowKit Eng
attribute [local irreducible] Br Rn RnU Cl RdG CpG Ld Rd Lp Dr Oth Cut fin Fits Eng.Enters Md NA
theorem cat (p l : List UInt8) : Str p ++ (⟨#[32]⟩ : ByteArray) ++ Str l = Str (p ++ 32 :: l) := by
 rw [show (⟨#[32]⟩ : ByteArray) = Str [32] from rfl, Str.append, Str.append]; simp
theorem catB (p : List UInt8) (s : ByteArray) : Str p ++ (⟨#[32]⟩ : ByteArray) ++ s = Str (p ++ 32 :: bs s) := by
 rw [← cat, Str_bs]
theorem cat2 (p : List UInt8) : Str p ++ (⟨#[32, 45]⟩ : ByteArray) = Str (p ++ [32, 45]) := by
 rw [show (⟨#[32, 45]⟩ : ByteArray) = Str [32, 45] from rfl, Str.append]
theorem lineL_eq (a : PAct) : lineL a = ((wordL a.kind ++ (lettersL a.kind).flatMap (fun c => 32 :: letS c a)) ++ (fateW a).flatMap (fun s => 32 :: s)) ++ a.picks.flatMap (fun p => 32 :: Lib.itoa p) := by
 simp only [lineL, lineW, restW, joinB, List.flatMap_append, List.flatMap_map, List.append_assoc]
theorem flat_step {α : Type} {g : α → List UInt8} {l : List α} {i : Nat} {d : α} {pre tot : List UInt8} (hi : i < l.length) (h : pre ++ (l.drop i).flatMap g = tot) : (pre ++ g (l.getD i d)) ++ (l.drop (i + 1)).flatMap g = tot := by
 rw [List.drop_eq_getElem_cons hi, List.flatMap_cons, ← List.append_assoc] at h
 rw [List.getD, List.getElem?_eq_getElem hi]
 exact h
theorem flat_end {α : Type} {g : α → List UInt8} {l : List α} {i : Nat} {pre tot : List UInt8} (hi : ¬ i < l.length) (h : pre ++ (l.drop i).flatMap g = tot) : pre = tot := by
 rw [List.drop_of_length_le (by omega)] at h
 simpa using h
theorem sz1 (p : List UInt8) {l : List UInt8} (h : p.length + 1 + l.length ≤ 140737488355328) : (Str p).size + (⟨#[32]⟩ : ByteArray).size ≤ 9223372036854775807 := by
 rw [Str.size]; show p.length + 1 ≤ _; omega
theorem sz0 (p : List UInt8) (h : p.length + 2 ≤ 140737488355328) : (Str p).size + (⟨#[32, 45]⟩ : ByteArray).size ≤ 9223372036854775807 := by
 rw [Str.size]; show p.length + 2 ≤ _; omega
theorem sz2 (p : List UInt8) (s : ByteArray) (h : p.length + 1 + (bs s).length ≤ 140737488355328) : (Str p ++ (⟨#[32]⟩ : ByteArray)).size + s.size ≤ 9223372036854775807 := by
 rw [show (⟨#[32]⟩ : ByteArray) = Str [32] from rfl, Str.append, Str.size, ← bs_size s]; simp; omega
theorem sz3 (p l : List UInt8) (h : p.length + 1 + l.length ≤ 140737488355328) : (Str p ++ (⟨#[32]⟩ : ByteArray)).size + (Str l).size ≤ 9223372036854775807 := by
 rw [show (⟨#[32]⟩ : ByteArray) = Str [32] from rfl, Str.append, Str.size, Str.size]; simp; omega
theorem sz4 (p : ByteArray) (l : List UInt8) (h : p.size + l.length ≤ 9223372036854775807) : p.size + (Str l).size ≤ 9223372036854775807 := by
 rw [Str.size]; exact h
theorem lenle {p l rest T : List UInt8} {B : Nat} (h : p ++ 32 :: l ++ rest = T) (hT : T.length ≤ B) : p.length + 1 + l.length ≤ B := by
 rw [← h] at hT; simp at hT; omega
theorem hex_enters : Eng.Enters Tryz.prog 51 := enters_mk fun _ _ => by kernel_rfl
theorem rline_enters : Eng.Enters Tryz.prog 20 := enters_mk fun _ _ => by kernel_rfl
set_option maxRecDepth 100000 in
set_option maxHeartbeats 2000000 in
theorem rline_any (a : PAct) (bA pA : Option Addr) (bc pc : Nat) (w : World) (ha : ActW w a bA pA) (hmay : mayB a = true) :
  Calls Tryz.prog 20 #[.agg (actL a bA bc pA pc).toArray] w fun e w' => e = .returned (.string (Str (lineL a))) ∧ Fr (fun _ => False) w w' := by
 refine enter (cx := CXc 143 [] [27] w) [(0, .agg (actL a bA bc pA pc).toArray)] tab_ok Tryz.func20 rfl rfl rfl rfl (MemOk.nil w _) ?_
 have hok := ha.act.ok
 have hnum : ∀ st m w', MemOk (CXc 143 [] st w).w0 (CXc 143 [] st w).S m w' → NumAct w' a := fun st m w' hm => ha.num.fr hm.fr
 have hby : ∀ st m w', MemOk (CXc 143 [] st w).w0 (CXc 143 [] st w).S m w' → BytsIn w' bA a.bytes := fun st m w' hm => (ha.stb hm.fr).act.bytes
 have hpk := fun st m => IntsIn.ints (cx := CXc 143 [] st w) (m := m) ha.act.picks (fun _ h => h)
 have hmb := may_bytes hmay
 have hfa := may_fate hmay
 have hline := lineL_eq a
 have hlen := line_len hok hmay
 clear ha
 conv => whnf
 intro b1
 conv => whnf
 (repeat ((first | refine stp (by (repeat constructor); first | done | fail) ?_ | refine stn (by (repeat constructor); first | done | fail) ?_ | refine sto (by (repeat constructor); first | done | fail) (by first | omega | (simp only; omega)) ?_ | refine .mk fun Ap capp => ?_ | refine ⟨?_, trivial⟩ | intro _); conv => whnf))
 refine ⟨form_enters, cl_same _ (fun w' _ => form_any _ w') ?_⟩
 conv => whnf
 refine ⟨cut_enters, cl_same _ (fun w' _ => cut_any _ w' (by have := formL_len a.kind; omega)) ?_⟩
 conv => whnf
 (repeat ((first | refine stp (by (repeat constructor); first | done | fail) ?_ | refine stn (by (repeat constructor); first | done | fail) ?_ | refine sto (by (repeat constructor); first | done | fail) (by first | omega | (simp only; omega)) ?_ | refine .mk fun Ap capp => ?_ | refine ⟨?_, trivial⟩ | intro _); conv => whnf))
 generalize hf : lettersL a.kind = f at hline
 have hfl : f.length ≤ 16 := by rw [← hf]; exact Nat.le_trans (cutF_len _).2 (formL_len _)
 have hfs := Str.size f
 have hTB : (wordL a.kind ++ f.flatMap (fun c => 32 :: letS c a)).length ≤ 140737488355328 := by rw [hline] at hlen; simp only [List.length_append] at hlen ⊢; omega
 generalize hT : wordL a.kind ++ f.flatMap (fun c => 32 :: letS c a) = T at hline hTB
 refine lp tab_ok (γ := Nat × List UInt8) (fun g => g.1 ≤ f.length ∧ g.2 ++ (f.drop g.1).flatMap (fun c => 32 :: letS c a) = T)
  (fun g => [(5, .int .i64 (g.1 : Int)), (3, .string (Str g.2)), (4, .string (Str f)), (1, .pointer (some ⟨b1, 0, none⟩))])
  (fun g => [.blk b1 (.cells (actL a bA bc pA pc).toArray 29)]) (fun g => f.length - g.1) (0, wordL a.kind) ⟨by simp, by simpa using hT⟩ ⟨rfl, rfl, by rw [← hf]; rfl, rfl, trivial⟩ (SubM.refl _ _) ?_
 rintro ⟨i, s⟩ ⟨hi, hs⟩
 simp only at hi hs
 change XC _ _ _ [(5, .int .i64 (i : Int)), (3, .string (Str s)), (4, .string (Str f)), (1, .pointer (some ⟨b1, 0, none⟩))] [.blk b1 (.cells (actL a bA bc pA pc).toArray 29)]
 conv => whnf
 (repeat ((first | refine stp (by (repeat constructor); first | done | fail) ?_ | refine stn (by (repeat constructor); first | done | fail) ?_ | refine sto (by (repeat constructor); first | done | fail) (by first | omega | (simp only; omega)) ?_ | refine .mk fun Ap capp => ?_ | refine ⟨?_, trivial⟩ | intro _); conv => whnf))
 refine br_d (fun hlt => ?_) (fun hge => ?_)
 ·have hi1 : i < f.length := by omega
  have hstep := flat_step (d := 0) hi1 hs
  have hby2 : ∀ c : UInt8, byteAt (Str f) (i : Int).toNat = (c.toNat : Int) → f.getD i 0 = c := fun c h => u8_of_int h
  have hnb : ∀ c : UInt8, ¬ byteAt (Str f) (i : Int).toNat = (c.toNat : Int) → f.getD i 0 ≠ c := fun c h hc => h (by rw [Str.get, Int.toNat_natCast, hc])
  conv => whnf
  (repeat ((first | refine stp (by (repeat constructor); first | done | fail) ?_ | refine stn (by (repeat constructor); first | done | fail) ?_ | refine sto (by (repeat constructor); first | done | fail) (by first | omega | (simp only; omega)) ?_ | refine .mk fun Ap capp => ?_ | refine ⟨?_, trivial⟩ | intro _); conv => whnf))
  refine br_d (fun h0 => ?_) (fun h0 => ?_)
  ·rw [hby2 97 h0] at hstep
   have hl := lenle (l := bs a.name) hstep hTB
   conv => whnf
   (repeat ((first | refine stp (by (repeat constructor); first | done | fail) ?_ | refine stn (by (repeat constructor); first | done | fail) ?_ | refine sto (by (repeat constructor); first | done | fail) (by first | omega | (simp only; omega)) ?_ | refine .mk fun Ap capp => ?_ | refine ⟨?_, trivial⟩ | intro _); conv => whnf))
   refine And.intro (sz1 s hl) ?_
   conv => whnf
   (repeat ((first | refine stp (by (repeat constructor); first | done | fail) ?_ | refine stn (by (repeat constructor); first | done | fail) ?_ | refine sto (by (repeat constructor); first | done | fail) (by first | omega | (simp only; omega)) ?_ | refine .mk fun Ap capp => ?_ | refine ⟨?_, trivial⟩ | intro _); conv => whnf))
   refine And.intro (sz2 s _ hl) ?_
   conv => whnf
   (repeat ((first | refine stp (by (repeat constructor); first | done | fail) ?_ | refine stn (by (repeat constructor); first | done | fail) ?_ | refine sto (by (repeat constructor); first | done | fail) (by first | omega | (simp only; omega)) ?_ | refine .mk fun Ap capp => ?_ | refine ⟨?_, trivial⟩ | intro _); conv => whnf))
   exact ⟨(i + 1, s ++ 32 :: bs a.name), ⟨by simp only; omega, hstep⟩, by simp only; omega, ⟨rfl, by rw [← catB]; rfl, rfl, rfl, trivial⟩, SubM.sel (by (repeat constructor); first | done | fail)⟩
  ·have n0 := hnb 97 h0
   conv => whnf
   (repeat ((first | refine stp (by (repeat constructor); first | done | fail) ?_ | refine stn (by (repeat constructor); first | done | fail) ?_ | refine sto (by (repeat constructor); first | done | fail) (by first | omega | (simp only; omega)) ?_ | refine .mk fun Ap capp => ?_ | refine ⟨?_, trivial⟩ | intro _); conv => whnf))
   refine br_d (fun h1 => ?_) (fun h1 => ?_)
   ·rw [hby2 111 h1] at hstep
    have hl := lenle (l := bs a.other) hstep hTB
    conv => whnf
    (repeat ((first | refine stp (by (repeat constructor); first | done | fail) ?_ | refine stn (by (repeat constructor); first | done | fail) ?_ | refine sto (by (repeat constructor); first | done | fail) (by first | omega | (simp only; omega)) ?_ | refine .mk fun Ap capp => ?_ | refine ⟨?_, trivial⟩ | intro _); conv => whnf))
    refine And.intro (sz1 s hl) ?_
    conv => whnf
    (repeat ((first | refine stp (by (repeat constructor); first | done | fail) ?_ | refine stn (by (repeat constructor); first | done | fail) ?_ | refine sto (by (repeat constructor); first | done | fail) (by first | omega | (simp only; omega)) ?_ | refine .mk fun Ap capp => ?_ | refine ⟨?_, trivial⟩ | intro _); conv => whnf))
    refine And.intro (sz2 s _ hl) ?_
    conv => whnf
    (repeat ((first | refine stp (by (repeat constructor); first | done | fail) ?_ | refine stn (by (repeat constructor); first | done | fail) ?_ | refine sto (by (repeat constructor); first | done | fail) (by first | omega | (simp only; omega)) ?_ | refine .mk fun Ap capp => ?_ | refine ⟨?_, trivial⟩ | intro _); conv => whnf))
    exact ⟨(i + 1, s ++ 32 :: bs a.other), ⟨by simp only; omega, hstep⟩, by simp only; omega, ⟨rfl, by rw [← catB]; rfl, rfl, rfl, trivial⟩, SubM.sel (by (repeat constructor); first | done | fail)⟩
   ·have n1 := hnb 111 h1
    conv => whnf
    (repeat ((first | refine stp (by (repeat constructor); first | done | fail) ?_ | refine stn (by (repeat constructor); first | done | fail) ?_ | refine sto (by (repeat constructor); first | done | fail) (by first | omega | (simp only; omega)) ?_ | refine .mk fun Ap capp => ?_ | refine ⟨?_, trivial⟩ | intro _); conv => whnf))
    refine br_d (fun h2 => ?_) (fun h2 => ?_)
    ·rw [hby2 79 h2] at hstep
     have hl := lenle (l := letS 79 a) hstep hTB
     conv => whnf
     (repeat ((first | refine stp (by (repeat constructor); first | done | fail) ?_ | refine stn (by (repeat constructor); first | done | fail) ?_ | refine sto (by (repeat constructor); first | done | fail) (by first | omega | (simp only; omega)) ?_ | refine .mk fun Ap capp => ?_ | refine ⟨?_, trivial⟩ | intro _); conv => whnf))
     refine br_d (fun hd => ?_) (fun hd => ?_)
     ·rw [show letS 79 a = [45] from if_pos hd] at hstep hl
      conv => whnf
      (repeat ((first | refine stp (by (repeat constructor); first | done | fail) ?_ | refine stn (by (repeat constructor); first | done | fail) ?_ | refine sto (by (repeat constructor); first | done | fail) (by first | omega | (simp only; omega)) ?_ | refine .mk fun Ap capp => ?_ | refine ⟨?_, trivial⟩ | intro _); conv => whnf))
      refine And.intro (sz0 s hl) ?_
      conv => whnf
      (repeat ((first | refine stp (by (repeat constructor); first | done | fail) ?_ | refine stn (by (repeat constructor); first | done | fail) ?_ | refine sto (by (repeat constructor); first | done | fail) (by first | omega | (simp only; omega)) ?_ | refine .mk fun Ap capp => ?_ | refine ⟨?_, trivial⟩ | intro _); conv => whnf))
      exact ⟨(i + 1, s ++ [32, 45]), ⟨by simp only; omega, hstep⟩, by simp only; omega, ⟨rfl, by rw [← cat2]; rfl, rfl, rfl, trivial⟩, SubM.sel (by (repeat constructor); first | done | fail)⟩
     ·rw [show letS 79 a = bs a.other from if_neg hd] at hstep hl
      conv => whnf
      (repeat ((first | refine stp (by (repeat constructor); first | done | fail) ?_ | refine stn (by (repeat constructor); first | done | fail) ?_ | refine sto (by (repeat constructor); first | done | fail) (by first | omega | (simp only; omega)) ?_ | refine .mk fun Ap capp => ?_ | refine ⟨?_, trivial⟩ | intro _); conv => whnf))
      refine And.intro (sz1 s hl) ?_
      conv => whnf
      (repeat ((first | refine stp (by (repeat constructor); first | done | fail) ?_ | refine stn (by (repeat constructor); first | done | fail) ?_ | refine sto (by (repeat constructor); first | done | fail) (by first | omega | (simp only; omega)) ?_ | refine .mk fun Ap capp => ?_ | refine ⟨?_, trivial⟩ | intro _); conv => whnf))
      refine And.intro (sz2 s _ hl) ?_
      conv => whnf
      (repeat ((first | refine stp (by (repeat constructor); first | done | fail) ?_ | refine stn (by (repeat constructor); first | done | fail) ?_ | refine sto (by (repeat constructor); first | done | fail) (by first | omega | (simp only; omega)) ?_ | refine .mk fun Ap capp => ?_ | refine ⟨?_, trivial⟩ | intro _); conv => whnf))
      exact ⟨(i + 1, s ++ 32 :: bs a.other), ⟨by simp only; omega, hstep⟩, by simp only; omega, ⟨rfl, by rw [← catB]; rfl, rfl, rfl, trivial⟩, SubM.sel (by (repeat constructor); first | done | fail)⟩
    ·have n2 := hnb 79 h2
     conv => whnf
     (repeat ((first | refine stp (by (repeat constructor); first | done | fail) ?_ | refine stn (by (repeat constructor); first | done | fail) ?_ | refine sto (by (repeat constructor); first | done | fail) (by first | omega | (simp only; omega)) ?_ | refine .mk fun Ap capp => ?_ | refine ⟨?_, trivial⟩ | intro _); conv => whnf))
     refine br_d (fun h3 => ?_) (fun h3 => ?_)
     ·rw [hby2 116 h3] at hstep
      have hl := lenle (l := bs a.third) hstep hTB
      conv => whnf
      (repeat ((first | refine stp (by (repeat constructor); first | done | fail) ?_ | refine stn (by (repeat constructor); first | done | fail) ?_ | refine sto (by (repeat constructor); first | done | fail) (by first | omega | (simp only; omega)) ?_ | refine .mk fun Ap capp => ?_ | refine ⟨?_, trivial⟩ | intro _); conv => whnf))
      refine And.intro (sz1 s hl) ?_
      conv => whnf
      (repeat ((first | refine stp (by (repeat constructor); first | done | fail) ?_ | refine stn (by (repeat constructor); first | done | fail) ?_ | refine sto (by (repeat constructor); first | done | fail) (by first | omega | (simp only; omega)) ?_ | refine .mk fun Ap capp => ?_ | refine ⟨?_, trivial⟩ | intro _); conv => whnf))
      refine And.intro (sz2 s _ hl) ?_
      conv => whnf
      (repeat ((first | refine stp (by (repeat constructor); first | done | fail) ?_ | refine stn (by (repeat constructor); first | done | fail) ?_ | refine sto (by (repeat constructor); first | done | fail) (by first | omega | (simp only; omega)) ?_ | refine .mk fun Ap capp => ?_ | refine ⟨?_, trivial⟩ | intro _); conv => whnf))
      exact ⟨(i + 1, s ++ 32 :: bs a.third), ⟨by simp only; omega, hstep⟩, by simp only; omega, ⟨rfl, by rw [← catB]; rfl, rfl, rfl, trivial⟩, SubM.sel (by (repeat constructor); first | done | fail)⟩
     ·have n3 := hnb 116 h3
      conv => whnf
      (repeat ((first | refine stp (by (repeat constructor); first | done | fail) ?_ | refine stn (by (repeat constructor); first | done | fail) ?_ | refine sto (by (repeat constructor); first | done | fail) (by first | omega | (simp only; omega)) ?_ | refine .mk fun Ap capp => ?_ | refine ⟨?_, trivial⟩ | intro _); conv => whnf))
      refine br_d (fun h4 => ?_) (fun h4 => ?_)
      ·rw [hby2 65 h4] at hstep
       have hl := lenle (l := Lib.itoa a.at_) hstep hTB
       conv => whnf
       (repeat ((first | refine stp (by (repeat constructor); first | done | fail) ?_ | refine stn (by (repeat constructor); first | done | fail) ?_ | refine sto (by (repeat constructor); first | done | fail) (by first | omega | (simp only; omega)) ?_ | refine .mk fun Ap capp => ?_ | refine ⟨?_, trivial⟩ | intro _); conv => whnf))
       refine And.intro (sz1 s hl) ?_
       conv => whnf
       (repeat ((first | refine stp (by (repeat constructor); first | done | fail) ?_ | refine stn (by (repeat constructor); first | done | fail) ?_ | refine sto (by (repeat constructor); first | done | fail) (by first | omega | (simp only; omega)) ?_ | refine .mk fun Ap capp => ?_ | refine ⟨?_, trivial⟩ | intro _); conv => whnf))
       refine ⟨fmt_enters, cl_same _ (fun w' hm' => fmt_any a.at_ w' (hnum _ _ w' hm').at_) ?_⟩
       conv => whnf
       (repeat ((first | refine stp (by (repeat constructor); first | done | fail) ?_ | refine stn (by (repeat constructor); first | done | fail) ?_ | refine sto (by (repeat constructor); first | done | fail) (by first | omega | (simp only; omega)) ?_ | refine .mk fun Ap capp => ?_ | refine ⟨?_, trivial⟩ | intro _); conv => whnf))
       refine And.intro (sz3 s _ hl) ?_
       conv => whnf
       (repeat ((first | refine stp (by (repeat constructor); first | done | fail) ?_ | refine stn (by (repeat constructor); first | done | fail) ?_ | refine sto (by (repeat constructor); first | done | fail) (by first | omega | (simp only; omega)) ?_ | refine .mk fun Ap capp => ?_ | refine ⟨?_, trivial⟩ | intro _); conv => whnf))
       exact ⟨(i + 1, s ++ 32 :: Lib.itoa a.at_), ⟨by simp only; omega, hstep⟩, by simp only; omega, ⟨rfl, by rw [← cat]; rfl, rfl, rfl, trivial⟩, SubM.sel (by (repeat constructor); first | done | fail)⟩
      ·have n4 := hnb 65 h4
       conv => whnf
       (repeat ((first | refine stp (by (repeat constructor); first | done | fail) ?_ | refine stn (by (repeat constructor); first | done | fail) ?_ | refine sto (by (repeat constructor); first | done | fail) (by first | omega | (simp only; omega)) ?_ | refine .mk fun Ap capp => ?_ | refine ⟨?_, trivial⟩ | intro _); conv => whnf))
       refine br_d (fun h5 => ?_) (fun h5 => ?_)
       ·rw [hby2 78 h5] at hstep
        have hl := lenle (l := Lib.itoa a.n) hstep hTB
        conv => whnf
        (repeat ((first | refine stp (by (repeat constructor); first | done | fail) ?_ | refine stn (by (repeat constructor); first | done | fail) ?_ | refine sto (by (repeat constructor); first | done | fail) (by first | omega | (simp only; omega)) ?_ | refine .mk fun Ap capp => ?_ | refine ⟨?_, trivial⟩ | intro _); conv => whnf))
        refine And.intro (sz1 s hl) ?_
        conv => whnf
        (repeat ((first | refine stp (by (repeat constructor); first | done | fail) ?_ | refine stn (by (repeat constructor); first | done | fail) ?_ | refine sto (by (repeat constructor); first | done | fail) (by first | omega | (simp only; omega)) ?_ | refine .mk fun Ap capp => ?_ | refine ⟨?_, trivial⟩ | intro _); conv => whnf))
        refine ⟨fmt_enters, cl_same _ (fun w' hm' => fmt_any a.n w' (hnum _ _ w' hm').n) ?_⟩
        conv => whnf
        (repeat ((first | refine stp (by (repeat constructor); first | done | fail) ?_ | refine stn (by (repeat constructor); first | done | fail) ?_ | refine sto (by (repeat constructor); first | done | fail) (by first | omega | (simp only; omega)) ?_ | refine .mk fun Ap capp => ?_ | refine ⟨?_, trivial⟩ | intro _); conv => whnf))
        refine And.intro (sz3 s _ hl) ?_
        conv => whnf
        (repeat ((first | refine stp (by (repeat constructor); first | done | fail) ?_ | refine stn (by (repeat constructor); first | done | fail) ?_ | refine sto (by (repeat constructor); first | done | fail) (by first | omega | (simp only; omega)) ?_ | refine .mk fun Ap capp => ?_ | refine ⟨?_, trivial⟩ | intro _); conv => whnf))
        exact ⟨(i + 1, s ++ 32 :: Lib.itoa a.n), ⟨by simp only; omega, hstep⟩, by simp only; omega, ⟨rfl, by rw [← cat]; rfl, rfl, rfl, trivial⟩, SubM.sel (by (repeat constructor); first | done | fail)⟩
       ·have n5 := hnb 78 h5
        conv => whnf
        (repeat ((first | refine stp (by (repeat constructor); first | done | fail) ?_ | refine stn (by (repeat constructor); first | done | fail) ?_ | refine sto (by (repeat constructor); first | done | fail) (by first | omega | (simp only; omega)) ?_ | refine .mk fun Ap capp => ?_ | refine ⟨?_, trivial⟩ | intro _); conv => whnf))
        refine br_d (fun h6 => ?_) (fun h6 => ?_)
        ·rw [hby2 66 h6] at hstep
         have hl := lenle (l := Lib.itoa a.bits) hstep hTB
         conv => whnf
         (repeat ((first | refine stp (by (repeat constructor); first | done | fail) ?_ | refine stn (by (repeat constructor); first | done | fail) ?_ | refine sto (by (repeat constructor); first | done | fail) (by first | omega | (simp only; omega)) ?_ | refine .mk fun Ap capp => ?_ | refine ⟨?_, trivial⟩ | intro _); conv => whnf))
         refine And.intro (sz1 s hl) ?_
         conv => whnf
         (repeat ((first | refine stp (by (repeat constructor); first | done | fail) ?_ | refine stn (by (repeat constructor); first | done | fail) ?_ | refine sto (by (repeat constructor); first | done | fail) (by first | omega | (simp only; omega)) ?_ | refine .mk fun Ap capp => ?_ | refine ⟨?_, trivial⟩ | intro _); conv => whnf))
         refine ⟨itoa_enters, cl_same _ (fun w' hm' => itoa_any a.bits w' (hnum _ _ w' hm').bits) ?_⟩
         conv => whnf
         (repeat ((first | refine stp (by (repeat constructor); first | done | fail) ?_ | refine stn (by (repeat constructor); first | done | fail) ?_ | refine sto (by (repeat constructor); first | done | fail) (by first | omega | (simp only; omega)) ?_ | refine .mk fun Ap capp => ?_ | refine ⟨?_, trivial⟩ | intro _); conv => whnf))
         refine And.intro (sz3 s _ hl) ?_
         conv => whnf
         (repeat ((first | refine stp (by (repeat constructor); first | done | fail) ?_ | refine stn (by (repeat constructor); first | done | fail) ?_ | refine sto (by (repeat constructor); first | done | fail) (by first | omega | (simp only; omega)) ?_ | refine .mk fun Ap capp => ?_ | refine ⟨?_, trivial⟩ | intro _); conv => whnf))
         exact ⟨(i + 1, s ++ 32 :: Lib.itoa a.bits), ⟨by simp only; omega, hstep⟩, by simp only; omega, ⟨rfl, by rw [← cat]; rfl, rfl, rfl, trivial⟩, SubM.sel (by (repeat constructor); first | done | fail)⟩
        ·have n6 := hnb 66 h6
         conv => whnf
         (repeat ((first | refine stp (by (repeat constructor); first | done | fail) ?_ | refine stn (by (repeat constructor); first | done | fail) ?_ | refine sto (by (repeat constructor); first | done | fail) (by first | omega | (simp only; omega)) ?_ | refine .mk fun Ap capp => ?_ | refine ⟨?_, trivial⟩ | intro _); conv => whnf))
         refine br_d (fun h7 => ?_) (fun h7 => ?_)
         ·rw [hby2 82 h7] at hstep
          have hl := lenle (l := Lib.itoa a.order) hstep hTB
          conv => whnf
          (repeat ((first | refine stp (by (repeat constructor); first | done | fail) ?_ | refine stn (by (repeat constructor); first | done | fail) ?_ | refine sto (by (repeat constructor); first | done | fail) (by first | omega | (simp only; omega)) ?_ | refine .mk fun Ap capp => ?_ | refine ⟨?_, trivial⟩ | intro _); conv => whnf))
          refine And.intro (sz1 s hl) ?_
          conv => whnf
          (repeat ((first | refine stp (by (repeat constructor); first | done | fail) ?_ | refine stn (by (repeat constructor); first | done | fail) ?_ | refine sto (by (repeat constructor); first | done | fail) (by first | omega | (simp only; omega)) ?_ | refine .mk fun Ap capp => ?_ | refine ⟨?_, trivial⟩ | intro _); conv => whnf))
          refine ⟨itoa_enters, cl_same _ (fun w' hm' => itoa_any a.order w' (hnum _ _ w' hm').order) ?_⟩
          conv => whnf
          (repeat ((first | refine stp (by (repeat constructor); first | done | fail) ?_ | refine stn (by (repeat constructor); first | done | fail) ?_ | refine sto (by (repeat constructor); first | done | fail) (by first | omega | (simp only; omega)) ?_ | refine .mk fun Ap capp => ?_ | refine ⟨?_, trivial⟩ | intro _); conv => whnf))
          refine And.intro (sz3 s _ hl) ?_
          conv => whnf
          (repeat ((first | refine stp (by (repeat constructor); first | done | fail) ?_ | refine stn (by (repeat constructor); first | done | fail) ?_ | refine sto (by (repeat constructor); first | done | fail) (by first | omega | (simp only; omega)) ?_ | refine .mk fun Ap capp => ?_ | refine ⟨?_, trivial⟩ | intro _); conv => whnf))
          exact ⟨(i + 1, s ++ 32 :: Lib.itoa a.order), ⟨by simp only; omega, hstep⟩, by simp only; omega, ⟨rfl, by rw [← cat]; rfl, rfl, rfl, trivial⟩, SubM.sel (by (repeat constructor); first | done | fail)⟩
         ·have n7 := hnb 82 h7
          conv => whnf
          (repeat ((first | refine stp (by (repeat constructor); first | done | fail) ?_ | refine stn (by (repeat constructor); first | done | fail) ?_ | refine sto (by (repeat constructor); first | done | fail) (by first | omega | (simp only; omega)) ?_ | refine .mk fun Ap capp => ?_ | refine ⟨?_, trivial⟩ | intro _); conv => whnf))
          refine br_d (fun h8 => ?_) (fun h8 => ?_)
          ·rw [hby2 120 h8] at hstep
           have hl := lenle (l := hexF a.bytes) hstep hTB
           conv => whnf
           (repeat ((first | refine stp (by (repeat constructor); first | done | fail) ?_ | refine stn (by (repeat constructor); first | done | fail) ?_ | refine sto (by (repeat constructor); first | done | fail) (by first | omega | (simp only; omega)) ?_ | refine .mk fun Ap capp => ?_ | refine ⟨?_, trivial⟩ | intro _); conv => whnf))
           refine And.intro (sz1 s hl) ?_
           conv => whnf
           (repeat ((first | refine stp (by (repeat constructor); first | done | fail) ?_ | refine stn (by (repeat constructor); first | done | fail) ?_ | refine sto (by (repeat constructor); first | done | fail) (by first | omega | (simp only; omega)) ?_ | refine .mk fun Ap capp => ?_ | refine ⟨?_, trivial⟩ | intro _); conv => whnf))
           refine ⟨hex_enters, cl_same _ (fun w' hm' => hex_any a.bytes bA bc w' (hby _ _ w' hm') (by omega)) ?_⟩
           conv => whnf
           (repeat ((first | refine stp (by (repeat constructor); first | done | fail) ?_ | refine stn (by (repeat constructor); first | done | fail) ?_ | refine sto (by (repeat constructor); first | done | fail) (by first | omega | (simp only; omega)) ?_ | refine .mk fun Ap capp => ?_ | refine ⟨?_, trivial⟩ | intro _); conv => whnf))
           refine And.intro (sz3 s _ hl) ?_
           conv => whnf
           (repeat ((first | refine stp (by (repeat constructor); first | done | fail) ?_ | refine stn (by (repeat constructor); first | done | fail) ?_ | refine sto (by (repeat constructor); first | done | fail) (by first | omega | (simp only; omega)) ?_ | refine .mk fun Ap capp => ?_ | refine ⟨?_, trivial⟩ | intro _); conv => whnf))
           exact ⟨(i + 1, s ++ 32 :: hexF a.bytes), ⟨by simp only; omega, hstep⟩, by simp only; omega, ⟨rfl, by rw [← cat]; rfl, rfl, rfl, trivial⟩, SubM.sel (by (repeat constructor); first | done | fail)⟩
          ·have n8 := hnb 120 h8
           conv => whnf
           (repeat ((first | refine stp (by (repeat constructor); first | done | fail) ?_ | refine stn (by (repeat constructor); first | done | fail) ?_ | refine sto (by (repeat constructor); first | done | fail) (by first | omega | (simp only; omega)) ?_ | refine .mk fun Ap capp => ?_ | refine ⟨?_, trivial⟩ | intro _); conv => whnf))
           rw [show letS (f.getD i 0) a = flagW ((f.getD i 0).toNat : Int) a.on from by unfold letS; rw [if_neg n0, if_neg n1, if_neg n2, if_neg n3, if_neg n4, if_neg n5, if_neg n6, if_neg n7, if_neg n8]] at hstep
           have hl := lenle (l := flagW ((f.getD i 0).toNat : Int) a.on) hstep hTB
           refine dr_any (γ := Unit) (Tr.hs [0, 1, 2, 3, 4, 5, 6] (Tr.sq [7] (Tr.hs [8] (Tr.sq [9] .done)))) [.blk b1 (.cells (actL a bA bc pA pc).toArray 29)] tab_ok mixed (by kernel_rfl) rfl (fun _ => True) (fun _ => [(5, .int .i64 (i : Int)), (3, .string (Str (s ++ 32 :: flagW ((f.getD i 0).toNat : Int) a.on))), (4, .string (Str f)), (1, .pointer (some ⟨b1, 0, none⟩))]) (fun _ => [.blk b1 (.cells (actL a bA bc pA pc).toArray 29)]) (SubM.sel (by (repeat constructor); first | done | fail)) ?_ ?_
           ·conv => whnf
            (repeat ((first | refine stp (by (repeat constructor); first | done | fail) ?_ | refine stn (by (repeat constructor); first | done | fail) ?_ | refine sto (by (repeat constructor); first | done | fail) (by first | omega | (simp only; omega)) ?_ | refine .mk fun Ap capp => ?_ | refine ⟨?_, trivial⟩ | intro _); conv => whnf))
            refine And.intro (sz1 s hl) ?_
            conv => whnf
            (repeat ((first | refine stp (by (repeat constructor); first | done | fail) ?_ | refine stn (by (repeat constructor); first | done | fail) ?_ | refine sto (by (repeat constructor); first | done | fail) (by first | omega | (simp only; omega)) ?_ | refine .mk fun Ap capp => ?_ | refine ⟨?_, trivial⟩ | intro _); conv => whnf))
            refine ⟨flag_enters, cl_same _ (fun w' _ => flag_any _ a.on w') ?_⟩
            conv => whnf
            refine ⟨SubM.sel (by (repeat constructor); first | done | fail), ?_⟩
            conv => whnf
            (repeat ((first | refine stp (by (repeat constructor); first | done | fail) ?_ | refine stn (by (repeat constructor); first | done | fail) ?_ | refine sto (by (repeat constructor); first | done | fail) (by first | omega | (simp only; omega)) ?_ | refine .mk fun Ap capp => ?_ | refine ⟨?_, trivial⟩ | intro _); conv => whnf))
            rw [Str.get, Int.toNat_natCast]
            refine And.intro (sz3 s _ hl) ?_
            conv => whnf
            (repeat ((first | refine g_sub (And.intro (SubM.sel (by (repeat constructor); first | done | fail)) ?_) | refine stp (by (repeat constructor); first | done | fail) ?_ | refine stn (by (repeat constructor); first | done | fail) ?_ | refine sto (by (repeat constructor); first | done | fail) (by first | omega | (simp only; omega)) ?_ | refine .mk fun Ap capp => ?_ | refine ⟨?_, trivial⟩ | intro _); conv => whnf))
            exact ⟨(), trivial, ⟨rfl, by rw [← cat]; rfl, rfl, rfl, trivial⟩, SubM.sel (by (repeat constructor); first | done | fail)⟩
           ·rintro ⟨⟩ _
            conv => whnf
            (repeat ((first | refine stp (by (repeat constructor); first | done | fail) ?_ | refine stn (by (repeat constructor); first | done | fail) ?_ | refine sto (by (repeat constructor); first | done | fail) (by first | omega | (simp only; omega)) ?_ | refine .mk fun Ap capp => ?_ | refine ⟨?_, trivial⟩ | intro _); conv => whnf))
            exact ⟨(i + 1, s ++ 32 :: flagW ((f.getD i 0).toNat : Int) a.on), ⟨by simp only; omega, hstep⟩, by simp only; omega, ⟨rfl, rfl, rfl, rfl, trivial⟩, SubM.sel (by (repeat constructor); first | done | fail)⟩
 ·have hTs : s = T := flat_end (by omega) hs
  subst hTs
  conv => whnf
  refine cut (γ := Unit) [] [] tab_ok (fun _ => True) (fun _ => [(3, .string (Str (s ++ (fateW a).flatMap (fun s => 32 :: s)))), (1, .pointer (some ⟨b1, 0, none⟩))]) (fun _ => [.blk b1 (.cells (actL a bA bc pA pc).toArray 29)]) ?_ ?_
  ·conv => whnf
   (repeat ((first | refine stp (by (repeat constructor); first | done | fail) ?_ | refine stn (by (repeat constructor); first | done | fail) ?_ | refine sto (by (repeat constructor); first | done | fail) (by first | omega | (simp only; omega)) ?_ | refine .mk fun Ap capp => ?_ | refine ⟨?_, trivial⟩ | intro _); conv => whnf))
   refine br_d (fun hk => ?_) (fun hk => ?_)
   ·have hik := itoa_len hok.keep
    conv => whnf
    refine dr_any (γ := Unit) (Tr.hs [0, 1, 2, 3, 6, 7, 8, 12, 13, 14] (Tr.sq [4] (Tr.hs [5] (Tr.sq [9] (Tr.hs [10] (Tr.sq [11] (Tr.hs [15] (Tr.sq [16] (Tr.hs [17] (Tr.sq [18] .done)))))))))) [.blk b1 (.cells (actL a bA bc pA pc).toArray 29)] tab_ok mixed (by kernel_rfl) rfl (fun _ => True) (fun _ => [(3, .string (Str (s ++ (fateW a).flatMap (fun s => 32 :: s)))), (1, .pointer (some ⟨b1, 0, none⟩))]) (fun _ => [.blk b1 (.cells (actL a bA bc pA pc).toArray 29)]) (SubM.sel (by (repeat constructor); first | done | fail)) ?_ ?_
    ·conv => whnf
     (repeat ((first | (refine g_cl ?_; refine ⟨itoa_enters, cl_same _ (fun w' hm' => itoa_any a.keep w' (hnum _ _ w' hm').keep) ?_⟩) | refine g_sub (And.intro (SubM.sel (by (repeat constructor); first | done | fail)) ?_) | (refine g_leN ?_; refine And.intro (sz4 _ _ (show 6 + _ ≤ 9223372036854775807 by omega)) ?_) | refine stp (by (repeat constructor); first | done | fail) ?_ | refine stn (by (repeat constructor); first | done | fail) ?_ | refine sto (by (repeat constructor); first | done | fail) (by first | omega | (simp only; omega)) ?_ | refine .mk fun Ap capp => ?_ | refine ⟨?_, trivial⟩ | intro _); conv => whnf))
     refine ⟨⟨by omega, by show a.fk < 3; omega, Pl.mk _ _⟩, ?_⟩
     conv => whnf
     refine ⟨?_, trivial⟩
     have z1 : ∀ l : List UInt8, l.length ≤ 2000000 → (Str s).size + (Str l).size ≤ 9223372036854775807 := fun l h => by rw [Str.size, Str.size]; omega
     have e1 : ∀ (x : List UInt8), Str s ++ Str x = Str (s ++ x) := fun x => Str.append _ _
     rcases (by omega : a.fk = 0 ∨ a.fk = 1 ∨ a.fk = 2) with h | h | h
     ·refine rn_load (v := .string (Str [32, 103, 111, 111, 100])) (by rw [h]; exact ld1 tab_ok (by (repeat constructor); first | done | fail) rfl rfl rfl) ?_
      conv => whnf
      (repeat ((first | refine g_sub (And.intro (SubM.sel (by (repeat constructor); first | done | fail)) ?_) | (refine g_leN ?_; first | refine And.intro (z1 _ (by decide)) ?_ | refine And.intro (by rw [Str.append]; exact z1 _ (by simp; omega)) ?_) | refine stp (by (repeat constructor); first | done | fail) ?_ | refine stn (by (repeat constructor); first | done | fail) ?_ | refine sto (by (repeat constructor); first | done | fail) (by first | omega | (simp only; omega)) ?_ | refine .mk fun Ap capp => ?_ | refine ⟨?_, trivial⟩ | intro _); conv => whnf))
      refine ⟨(), trivial, ⟨?_, rfl, trivial⟩, SubM.sel (by (repeat constructor); first | done | fail)⟩
      rw [show fateW a = [wGood] from by unfold fateW; rw [if_pos hk, if_pos h]]
      exact congrArg (fun z => some (Value.string z)) (e1 _)
     ·refine rn_load (v := .string (Str [32, 102, 97, 105, 108, 32] ++ Str (Lib.itoa a.keep))) (by rw [h]; exact ld1 tab_ok (by (repeat constructor); first | done | fail) rfl rfl rfl) ?_
      conv => whnf
      (repeat ((first | refine g_sub (And.intro (SubM.sel (by (repeat constructor); first | done | fail)) ?_) | (refine g_leN ?_; first | refine And.intro (z1 _ (by decide)) ?_ | refine And.intro (by rw [Str.append]; exact z1 _ (by simp; omega)) ?_) | refine stp (by (repeat constructor); first | done | fail) ?_ | refine stn (by (repeat constructor); first | done | fail) ?_ | refine sto (by (repeat constructor); first | done | fail) (by first | omega | (simp only; omega)) ?_ | refine .mk fun Ap capp => ?_ | refine ⟨?_, trivial⟩ | intro _); conv => whnf))
      refine ⟨(), trivial, ⟨?_, rfl, trivial⟩, SubM.sel (by (repeat constructor); first | done | fail)⟩
      rw [show fateW a = [wFail, Lib.itoa a.keep] from by unfold fateW; rw [if_pos hk, if_neg (by omega), if_pos h]]
      refine congrArg (fun z => some (Value.string z)) ?_
      rw [Str.append]
      refine congrArg Str ?_
      show s ++ ([32, 102, 97, 105, 108, 32] ++ Lib.itoa a.keep) = _
      simp [wFail]
     ·refine rn_load (v := .string (Str [32, 102, 117, 108, 108, 32] ++ Str (Lib.itoa a.keep))) (by rw [h]; exact ld1 tab_ok (by (repeat constructor); first | done | fail) rfl rfl rfl) ?_
      conv => whnf
      (repeat ((first | refine g_sub (And.intro (SubM.sel (by (repeat constructor); first | done | fail)) ?_) | (refine g_leN ?_; first | refine And.intro (z1 _ (by decide)) ?_ | refine And.intro (by rw [Str.append]; exact z1 _ (by simp; omega)) ?_) | refine stp (by (repeat constructor); first | done | fail) ?_ | refine stn (by (repeat constructor); first | done | fail) ?_ | refine sto (by (repeat constructor); first | done | fail) (by first | omega | (simp only; omega)) ?_ | refine .mk fun Ap capp => ?_ | refine ⟨?_, trivial⟩ | intro _); conv => whnf))
      refine ⟨(), trivial, ⟨?_, rfl, trivial⟩, SubM.sel (by (repeat constructor); first | done | fail)⟩
      rw [show fateW a = [wFull, Lib.itoa a.keep] from by unfold fateW; rw [if_pos hk, if_neg (by omega), if_neg (by omega)]]
      refine congrArg (fun z => some (Value.string z)) ?_
      rw [Str.append]
      refine congrArg Str ?_
      show s ++ ([32, 102, 117, 108, 108, 32] ++ Lib.itoa a.keep) = _
      simp [wFull]
    ·rintro ⟨⟩ _
     conv => whnf
     exact ⟨(), trivial, ⟨rfl, rfl, trivial⟩, SubM.refl _ _⟩
   ·rw [show fateW a = [] from if_neg hk]
    conv => whnf
    (repeat ((first | refine stp (by (repeat constructor); first | done | fail) ?_ | refine stn (by (repeat constructor); first | done | fail) ?_ | refine sto (by (repeat constructor); first | done | fail) (by first | omega | (simp only; omega)) ?_ | refine .mk fun Ap capp => ?_ | refine ⟨?_, trivial⟩ | intro _); conv => whnf))
    exact ⟨(), trivial, ⟨by rw [List.flatMap_nil, List.append_nil]; rfl, rfl, trivial⟩, SubM.sel (by (repeat constructor); first | done | fail)⟩
  ·rintro ⟨⟩ _
   conv => whnf
   (repeat ((first | refine stp (by (repeat constructor); first | done | fail) ?_ | refine stn (by (repeat constructor); first | done | fail) ?_ | refine sto (by (repeat constructor); first | done | fail) (by first | omega | (simp only; omega)) ?_ | refine .mk fun Ap capp => ?_ | refine ⟨?_, trivial⟩ | intro _); conv => whnf))
   generalize s ++ List.flatMap (fun s => 32 :: s) (fateW a) = T2 at hline ⊢
   refine lp tab_ok (γ := Nat × List UInt8) (fun g => g.1 ≤ a.picks.length ∧ g.2 ++ (a.picks.drop g.1).flatMap (fun p => 32 :: Lib.itoa p) = lineL a)
    (fun g => [(6, .int .i64 (g.1 : Int)), (3, .string (Str g.2)), (1, .pointer (some ⟨b1, 0, none⟩))])
    (fun g => [.blk b1 (.cells (actL a bA bc pA pc).toArray 29)]) (fun g => a.picks.length - g.1) (0, T2) ⟨by simp, by simpa using hline.symm⟩ ⟨rfl, rfl, rfl, trivial⟩ (SubM.refl _ _) ?_
   rintro ⟨j, s2⟩ ⟨hj, hs2⟩
   simp only at hj hs2
   change XC _ _ _ [(6, .int .i64 (j : Int)), (3, .string (Str s2)), (1, .pointer (some ⟨b1, 0, none⟩))] [.blk b1 (.cells (actL a bA bc pA pc).toArray 29)]
   conv => whnf
   (repeat ((first | refine stp (by (repeat constructor); first | done | fail) ?_ | refine stn (by (repeat constructor); first | done | fail) ?_ | refine sto (by (repeat constructor); first | done | fail) (by first | omega | (simp only; omega)) ?_ | refine .mk fun Ap capp => ?_ | refine ⟨?_, trivial⟩ | intro _); conv => whnf))
   refine br_d (fun hlt => ?_) (fun hge => ?_)
   ·have hj1 : j < a.picks.length := by omega
    have hstep := flat_step (d := 0) hj1 hs2
    have hl := lenle (l := Lib.itoa (a.picks.getD j 0)) hstep hlen
    have hpm : a.picks.getD j 0 ∈ a.picks := by rw [List.getD, List.getElem?_eq_getElem hj1]; exact List.getElem_mem hj1
    conv => whnf
    (repeat ((first | refine stp (by (repeat constructor); first | done | fail) ?_ | refine stn (by (repeat constructor); first | done | fail) ?_ | refine sto (by (repeat constructor); first | done | fail) (by first | omega | (simp only; omega)) ?_ | refine .mk fun Ap capp => ?_ | refine ⟨?_, trivial⟩ | intro _); conv => whnf))
    refine And.intro (sz1 s2 hl) ?_
    conv => whnf
    (repeat ((first | refine stp (by (repeat constructor); first | done | fail) ?_ | refine stn (by (repeat constructor); first | done | fail) ?_ | refine sto (by (repeat constructor); first | done | fail) (by first | omega | (simp only; omega)) ?_ | refine .mk fun Ap capp => ?_ | refine ⟨?_, trivial⟩ | intro _); conv => whnf))
    refine ⟨⟨by omega, by omega, (hpk [] []).plain (by omega)⟩, ?_⟩
    conv => whnf
    refine rn_load ((hpk _ _).ld tab_ok rfl rfl (j := j) hj1) ?_
    conv => whnf
    (repeat ((first | refine stp (by (repeat constructor); first | done | fail) ?_ | refine stn (by (repeat constructor); first | done | fail) ?_ | refine sto (by (repeat constructor); first | done | fail) (by first | omega | (simp only; omega)) ?_ | refine .mk fun Ap capp => ?_ | refine ⟨?_, trivial⟩ | intro _); conv => whnf))
    refine ⟨itoa_enters, cl_same _ (fun w' hm' => itoa_any _ w' ((hnum _ _ w' hm').picks _ hpm)) ?_⟩
    conv => whnf
    (repeat ((first | refine stp (by (repeat constructor); first | done | fail) ?_ | refine stn (by (repeat constructor); first | done | fail) ?_ | refine sto (by (repeat constructor); first | done | fail) (by first | omega | (simp only; omega)) ?_ | refine .mk fun Ap capp => ?_ | refine ⟨?_, trivial⟩ | intro _); conv => whnf))
    refine And.intro (sz3 s2 _ hl) ?_
    conv => whnf
    (repeat ((first | refine stp (by (repeat constructor); first | done | fail) ?_ | refine stn (by (repeat constructor); first | done | fail) ?_ | refine sto (by (repeat constructor); first | done | fail) (by first | omega | (simp only; omega)) ?_ | refine .mk fun Ap capp => ?_ | refine ⟨?_, trivial⟩ | intro _); conv => whnf))
    exact ⟨(j + 1, s2 ++ 32 :: Lib.itoa (a.picks.getD j 0)), ⟨by simp only; omega, hstep⟩, by simp only; omega, ⟨rfl, by rw [← cat]; rfl, rfl, trivial⟩, SubM.sel (by (repeat constructor); first | done | fail)⟩
   ·have hTs : s2 = lineL a := flat_end (by omega) hs2
    subst hTs
    conv => whnf
    (repeat ((first | refine stp (by (repeat constructor); first | done | fail) ?_ | refine stn (by (repeat constructor); first | done | fail) ?_ | refine sto (by (repeat constructor); first | done | fail) (by first | omega | (simp only; omega)) ?_ | refine .mk fun Ap capp => ?_ | refine ⟨?_, trivial⟩ | intro _); conv => whnf))
    exact fin1 rfl rfl (fun w' hm => ⟨rfl, hm.fr⟩)
end Go.Proofs.YtbfbjgakmnckbaaGreatDoor
namespace Go.Proofs.YtbfbjgakmnckbaaGreatDoor
open Go Go.RowKit Eng
theorem wrap_range (z : Int) : -9223372036854775808 ≤ IntKind.i64.wrap z ∧ IntKind.i64.wrap z ≤ 9223372036854775807 := by rw [IntKind.wrap_i64]; omega
theorem numN_range : ∀ (l : List UInt8) (k : Nat) (n : Int), -9223372036854775808 ≤ n ∧ n ≤ 9223372036854775807 → -9223372036854775808 ≤ numN l k n ∧ numN l k n ≤ 9223372036854775807
 | [], k, n, h => by cases k <;> exact h
 | c :: r, 0, n, h => h
 | c :: r, k + 1, n, h => numN_range r k _ (wrap_range _)
theorem numF_range (l : List UInt8) : -9223372036854775808 ≤ numF l ∧ numF l ≤ 9223372036854775807 := by
 unfold numF
 split
 ·exact numN_range _ _ _ (by omega)
 ·exact wrap_range _
/-- One word of a fate. -/
def fateP1 (i : Nat) (s : List UInt8) (y : PAct) : PAct :=
 if i = 1 then (if s = wFail then { y with fk := 1 } else if s = wFull then { y with fk := 2 } else y) else if i = 2 then { y with keep := numF s } else y
def fatePs : Nat → List (List UInt8) → PAct → PAct
 | _, [], y => y
 | i, s :: r, y => fatePs (i + 1) r (fateP1 i s y)
theorem fatePs_id : ∀ (i : Nat) (ws : List (List UInt8)) (y : PAct), 3 ≤ i → fatePs i ws y = y
 | _, [], _, _ => rfl
 | i, s :: r, y, h => by
  rw [fatePs, fatePs_id (i + 1) r _ (by omega), fateP1, if_neg (by omega), if_neg (by omega)]
theorem fatePs_F (ws : List (List UInt8)) (x : PAct) : fatePs 1 (ws.drop 1) x = fateF ws x := by
 match ws with
 | [] => rfl
 | [w0] => rfl
 | [w0, a] =>
  simp only [List.drop_succ_cons, List.drop_zero, fatePs, fateP1, if_pos, fateF, List.getElem?_cons_succ, List.getElem?_cons_zero, List.getElem?_nil, Option.some.injEq]
  split
  ·rfl
  ·split <;> rfl
 | w0 :: a :: b :: r =>
  simp only [List.drop_succ_cons, List.drop_zero, fatePs]
  rw [fatePs_id _ _ _ (by omega)]
  simp only [fateP1, if_pos, fateF, List.getElem?_cons_succ, List.getElem?_cons_zero, Option.some.injEq]
  rw [if_neg (by omega : ¬ (1 + 1 = 1))]
  split
  ·rfl
  ·split <;> rfl
theorem fatePs_step {ws : List (List UInt8)} {i : Nat} {y : PAct} (hi : i < ws.length) : fatePs i (ws.drop i) y = fatePs (i + 1) (ws.drop (i + 1)) (fateP1 i (ws.getD i []) y) := by
 rw [List.drop_eq_getElem_cons hi, fatePs]
 simp [List.getD, List.getElem?_eq_getElem hi]
/-- What an act that words say is. -/
structure CandOk (x : PAct) : Prop where
 ok : x.Ok
theorem takeW_ok {c : UInt8} {s : List UInt8} {x : PAct} (hs : s.length ≤ 1099511627776) (hx : x.Ok) : (takeW c s x).Ok := by
 have hn := numF_range s
 have hz : (Str s).size ≤ 140737488355328 := by rw [Str.size]; omega
 unfold takeW
 split
 ·exact { hx with name := hz }
 split
 ·exact { hx with other := hz }
 split
 ·split
  ·exact hx
  ·exact { hx with other := hz }
 split
 ·exact { hx with third := hz }
 split
 ·exact { hx with at_ := hn }
 split
 ·exact { hx with n := hn }
 split
 ·exact { hx with bits := hn }
 split
 ·exact { hx with order := hn }
 split
 ·exact { hx with bytes := by show (bytesL s).length ≤ _; rw [bytesL_length]; omega }
 ·exact { hx with kind := hx.kind }
theorem fieldsF_ok : ∀ (f : List UInt8) (ws : List (List UInt8)) (x : PAct), (∀ s ∈ ws, s.length ≤ 1099511627776) → x.Ok → (fieldsF f ws x).Ok
 | [], _, _, _, hx => by unfold fieldsF; exact hx
 | _ :: _, [], _, _, hx => hx
 | c :: f, w :: ws, x, hl, hx => fieldsF_ok f ws _ (fun s hs => hl s (List.mem_cons_of_mem _ hs)) (takeW_ok (hl w (List.mem_cons_self ..)) hx)
theorem takeW_rest (c : UInt8) (s : List UInt8) (x : PAct) : (takeW c s x).kind = x.kind ∧ (takeW c s x).picks = x.picks := by
 unfold takeW
 repeat' split
 all_goals exact ⟨rfl, rfl⟩
theorem fieldsF_rest : ∀ (f : List UInt8) (ws : List (List UInt8)) (x : PAct), (fieldsF f ws x).kind = x.kind ∧ (fieldsF f ws x).picks = x.picks
 | [], _, _ => by unfold fieldsF; exact ⟨rfl, rfl⟩
 | _ :: _, [], _ => ⟨rfl, rfl⟩
 | c :: f, w :: ws, x => by
  have h1 := fieldsF_rest f ws (takeW c w x)
  have h2 := takeW_rest c w x
  exact ⟨h1.1.trans h2.1, h1.2.trans h2.2⟩
theorem fateF_ok {ws : List (List UInt8)} {x : PAct} (hx : x.Ok) : (fateF ws x).Ok := by
 have : (-9223372036854775808 : Int) ≤ (match ws[2]? with | some w => numF w | none => x.keep) ∧ (match ws[2]? with | some w => numF w | none => x.keep) ≤ 9223372036854775807 := by
  split
  ·exact numF_range _
  ·exact hx.keep
 have h2 : (-9223372036854775808 : Int) ≤ (if ws[1]? = some wFail then 1 else if ws[1]? = some wFull then 2 else x.fk) ∧ (if ws[1]? = some wFail then 1 else if ws[1]? = some wFull then 2 else x.fk) ≤ 9223372036854775807 := by
  split
  ·omega
  ·split
   ·omega
   ·exact hx.fk
 exact { hx with fk := h2, keep := this }
theorem picks_ok {x : PAct} {ws : List (List UInt8)} (hx : x.Ok) (hl : ws.length ≤ 1073741824) : ({ x with picks := ws.map numF } : PAct).Ok :=
 { hx with picksR := fun p hp => by obtain ⟨s, _, rfl⟩ := List.mem_map.1 hp; exact numF_range s, picks := by show (ws.map numF).length ≤ _; rw [List.length_map]; omega }
/-- The act behind the words, without its picks. -/
def candY (k : Int) (ws : List (List UInt8)) : PAct := if k = 24 then fateF ws (fieldsF (lettersL k) (ws.drop 1) (nilAct k)) else fieldsF (lettersL k) (ws.drop 1) (nilAct k)
theorem candF_eq (k : Int) (ws : List (List UInt8)) : candF k ws = if k = 25 then { candY k ws with picks := (ws.drop 1).map numF } else candY k ws := rfl
theorem candY_picks (k : Int) (ws : List (List UInt8)) : (candY k ws).picks = [] := by
 unfold candY
 split
 ·exact (fieldsF_rest _ _ _).2
 ·exact (fieldsF_rest _ _ _).2
theorem candY_bytes (k : Int) (ws : List (List UInt8)) : (candY k ws).bytes = (fieldsF (lettersL k) (ws.drop 1) (nilAct k)).bytes := by
 unfold candY
 split <;> rfl
theorem candF_bytes (k : Int) (ws : List (List UInt8)) : (candF k ws).bytes = (candY k ws).bytes := by
 rw [candF_eq]
 split <;> rfl
theorem candY_ok {k : Int} {ws : List (List UInt8)} (hk : -9223372036854775808 ≤ k ∧ k ≤ 9223372036854775807) (hl : ∀ s ∈ ws, s.length ≤ 1099511627776) : (candY k ws).Ok := by
 have := fieldsF_ok (lettersL k) (ws.drop 1) (nilAct k) (fun s hs => hl s (List.mem_of_mem_drop hs)) (nilAct_ok hk)
 unfold candY
 split
 ·exact fateF_ok this
 ·exact this
theorem candF_ok {k : Int} {ws : List (List UInt8)} (hk : -9223372036854775808 ≤ k ∧ k ≤ 9223372036854775807) (hl : ∀ s ∈ ws, s.length ≤ 1099511627776) (hn : ws.length ≤ 1073741824) : (candF k ws).Ok := by
 rw [candF_eq]
 split
 ·exact picks_ok (candY_ok hk hl) (by rw [List.length_drop]; omega)
 ·exact candY_ok hk hl
theorem candF_kind (k : Int) (ws : List (List UInt8)) : (candF k ws).kind = k := by
 have h : (candY k ws).kind = k := by
  unfold candY
  split
  ·exact (fieldsF_rest _ _ _).1
  ·exact (fieldsF_rest _ _ _).1
 rw [candF_eq]
 split
 ·exact h
 ·exact h
theorem act_num {x : PAct} {w : World} (hx : x.Ok) (h : ∀ n : Int, -9223372036854775808 ≤ n ∧ n ≤ 9223372036854775807 → NumOk w n) : NumAct w x :=
 ⟨h _ hx.at_, h _ hx.n, h _ hx.bits, h _ hx.order, h _ hx.keep, fun p hp => h _ (hx.picksR p hp)⟩
/-- A line that is an act's is the act's of its words. -/
theorem readF_cand {l : List UInt8} (h : ∀ k : Nat, 1 ≤ k → k < 26 → wordL k = (wordsL l).getD 0 [] → ¬ (mayB (candF k (wordsL l)) = true ∧ lineL (candF k (wordsL l)) = l)) : readF l = none := by
 refine readF_none fun a ha hmay hl => ?_
 have hw : wordsL l = lineW a := by rw [← hl, words_line (may_ok hmay)]
 have hk := may_kind hmay
 have hc := cand_line ha hmay
 refine h a.kind.toNat (by omega) (by omega) ?_ ?_
 ·rw [hw, Int.toNat_of_nonneg (by omega)]; rfl
 ·rw [hw, Int.toNat_of_nonneg (by omega), hc]; exact ⟨hmay, hl⟩
end Go.Proofs.YtbfbjgakmnckbaaGreatDoor
