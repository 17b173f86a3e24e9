/- The document's answer: Read. No statement of the seat is proved here. -/
import Derived.Test.YtbfbjgakmnckbaaGreatDoorSl10
import Derived.RangeFuncSeq
namespace Go.Proofs.YtbfbjgakmnckbaaGreatDoor
open Go Go.RowKit Eng
attribute [local irreducible] Br Rn RnU Cl RdG CpG Ld Rd Lp Dr Oth Cut fin Fits Eng.Enters Md NA
abbrev WR (A : Option Addr) (cap : Nat) (ws : List (List UInt8)) : Res := .row A cap ws.length 9 1 (strsOf ws)
theorem WR.strs {cx : Cx} {m : Mem} {A : Option Addr} {cap : Nat} {ws : List (List UInt8)} (hh : Has m (WR A cap ws)) {w : World} (hm : MemOk cx.w0 cx.S m w) : StrsIn w A ws := by
 intro hn
 have h := hm.ok _ hh.mem
 obtain ⟨b, rfl, _⟩ := row_cell h (j := 0) (v := .string (Str (ws.getD 0 []))) (by simp [strsOf, List.getD, List.getElem?_eq_getElem hn])
 refine ⟨b, 0, rfl, fun j s hj => ?_⟩
 obtain ⟨b', hb', hc⟩ := row_cell h (j := j) (v := .string (Str s)) (by simp [strsOf, hj])
 injection hb' with hb'; injection hb' with hb'
 subst hb'
 simpa using hc
theorem form_some {k : Nat} (h1 : 1 ≤ k) (h2 : k < 26) : Str (formL k) ≠ Str [] := by
 have : ∀ i : Fin 26, 1 ≤ i.val → formL i.val ≠ [] := by decide
 exact fun h => this ⟨k, h2⟩ h1 (Str.inj.1 h)
set_option maxRecDepth 100000 in
set_option maxHeartbeats 2000000 in
theorem rRead_any (l : List UInt8) (w : World) (hP : ∀ n : Int, -9223372036854775808 ≤ n ∧ n ≤ 9223372036854775807 → NumOk w n) (hl : l.length ≤ 1073741820) :
  Ctr Tryz.prog 13 [.string (Str l)] [] (ReadR l) w := by
 have hsz := Str.size l
 refine enter (cx := ⟨Tryz.prog, 108, w, Foot [], tab, [], [], [10], []⟩) [(0, .string (Str l))] tab_ok Tryz.func13 rfl rfl rfl rfl (MemOk.nil w _) ?_
 have hF : ∀ w', Fr (Foot []) w w' → Fr (fun _ => False) w w' := fun w' hf => hf.mono (fun k _ ⟨r, hr, _⟩ => by cases hr)
 have hN : ∀ w', Fr (Foot []) w w' → ∀ n : Int, -9223372036854775808 ≤ n ∧ n ≤ 9223372036854775807 → NumOk w' n := fun w' hf n hn => (hP n hn).fr (hF w' hf)
 have hwl := wordsL_len l
 conv => whnf
 intro rB
 conv => whnf
 (repeat ((first | refine stp (by (repeat constructor); first | done | fail) ?_ | refine stn (by (repeat constructor); first | done | fail) ?_ | refine sto (by (repeat constructor); first | done | fail) (by first | omega | (simp only; omega)) ?_ | refine .mk fun Ap capp => ?_ | refine ⟨?_, trivial⟩ | intro _); conv => whnf))
 refine br_d (fun h0 => ?_) (fun h0 => ?_)
 ·have hlong : 1048576 < l.length := by omega
  conv => whnf
  (repeat ((first | refine stp (by (repeat constructor); first | done | fail) ?_ | refine stn (by (repeat constructor); first | done | fail) ?_ | refine sto (by (repeat constructor); first | done | fail) (by first | omega | (simp only; omega)) ?_ | refine .mk fun Ap capp => ?_ | refine ⟨?_, trivial⟩ | intro _); conv => whnf))
  refine finC2 rfl rfl (ldN tab_ok (by (repeat constructor); first | done | fail) rfl rfl rfl rfl) rfl (fun w' hm => ⟨_, ⟨none, none, 0, 0, ?_, rfl⟩, ?_⟩)
  ·rw [readA, readE, if_pos hlong, if_pos hlong]; rfl
  ·rw [readA, if_pos hlong]
   exact ((hm.nilRow 3 1).nilRow 5 1).sel (.cons .here (.cons .here .nil))
 ·have hshort : ¬ 1048576 < l.length := by omega
  conv => whnf
  (repeat ((first | refine stp (by (repeat constructor); first | done | fail) ?_ | refine stn (by (repeat constructor); first | done | fail) ?_ | refine sto (by (repeat constructor); first | done | fail) (by first | omega | (simp only; omega)) ?_ | refine .mk fun Ap capp => ?_ | refine ⟨?_, trivial⟩ | intro _); conv => whnf))
  have hww : ∀ w', Calls Tryz.prog 41 #[.string (Str l)] w' fun e w2 => ∃ A cap, e = .returned (.slice A (wordsL l).length cap) ∧ w2.ownsRow w'.heap.size 9 1 (.slice A (wordsL l).length cap) (wordsL l).length (strsOf (wordsL l)) ∧ Fr (fun _ => False) w' w2 := fun w' => by rw [← allWords_eq]; exact words_any l w' (by omega)
  refine ⟨words_enters, cl_ex (R := fun w' e w2 => ∃ A cap, e = .returned (.slice A (wordsL l).length cap) ∧ w2.ownsRow w'.heap.size 9 1 (.slice A (wordsL l).length cap) (wordsL l).length (strsOf (wordsL l)) ∧ Fr (fun _ => False) w' w2) (fun w' _ => hww w') ?_⟩
  rintro w1 e w2 hm' ⟨A, cap, rfl, hrow, hf2⟩
  refine ⟨_, hm'.fresh hf2 hrow, ?_⟩
  have hplA : Pl A := (WR.strs (ws := wordsL l) .here (hm'.fresh hf2 hrow)).pl (List.length_pos_iff.2 (wordsL_ne l))
  have hcap : (wordsL l).length ≤ cap := by
   rcases hrow.2 with ⟨e1, e2⟩ | ⟨g, c, cur, e1, _, _, e2, _⟩
   ·omega
   ·injection e1 with _ _ e1; omega
  clear hrow hf2 hm' hww
  have hcand := readF_cand (l := l)
  have hne := wordsL_ne l
  have hsome : ∀ k : Nat, 1 ≤ k → k < 26 → (candF k (wordsL l)).Ok → mayB (candF k (wordsL l)) = true → lineL (candF k (wordsL l)) = l → readF l = some (candF k (wordsL l)) := fun k h1 h2 h3 h4 h5 => readF_some h3 h4 h5
  generalize hwsl : wordsL l = ws at hcand hne hsome hwl hcap ⊢
  have hwn : 0 < ws.length := List.length_pos_iff.2 hne
  have hwl1 : ws.length ≤ 1073741821 := by omega
  have hwl2 : ∀ s ∈ ws, s.length ≤ 1099511627776 := fun s hs => by have := hwl.2 s hs; omega
  have hlj : ∀ j, (ws.getD j []).length ≤ 1099511627776 := by
   intro j
   rw [List.getD]
   cases h : ws[j]? with
   | none => simp
   | some s => exact hwl2 s (List.mem_of_getElem? h)
  conv => whnf
  (repeat ((first | refine stp (by (repeat constructor); first | done | fail) ?_ | refine stn (by (repeat constructor); first | done | fail) ?_ | refine sto (by (repeat constructor); first | done | fail) (by first | omega | (simp only; omega)) ?_ | refine .mk fun Ap capp => ?_ | refine ⟨?_, trivial⟩ | intro _); conv => whnf))
  refine lp tab_ok (γ := Nat) (fun k => 1 ≤ k ∧ k ≤ 26 ∧ ∀ j : Nat, 1 ≤ j → j < k → wordL j = ws.getD 0 [] → ¬ (mayB (candF j ws) = true ∧ lineL (candF j ws) = l))
   (fun k => [(5, .int .i64 (k : Int)), (4, .slice A ws.length cap), (0, .string (Str l)), (2, .pointer (some ⟨rB, 0, none⟩)), (3, .int .i64 0)])
   (fun _ => [WR A cap ws, .blk rB (.cells (actL (nilAct 0) none 0 none 0).toArray 29)]) (fun k => 26 - k) 1 ⟨by omega, by omega, fun j h1 h2 => by omega⟩ ⟨rfl, rfl, rfl, rfl, rfl, trivial⟩ (SubM.sel (by (repeat constructor); first | done | fail)) ?_
  rintro k ⟨hk1, hk2, hprev⟩
  change XC _ _ _ [(5, .int .i64 (k : Int)), (4, .slice A ws.length cap), (0, .string (Str l)), (2, .pointer (some ⟨rB, 0, none⟩)), (3, .int .i64 0)] [WR A cap ws, .blk rB (.cells (actL (nilAct 0) none 0 none 0).toArray 29)]
  conv => whnf
  (repeat ((first | refine stp (by (repeat constructor); first | done | fail) ?_ | refine stn (by (repeat constructor); first | done | fail) ?_ | refine sto (by (repeat constructor); first | done | fail) (by first | omega | (simp only; omega)) ?_ | refine .mk fun Ap capp => ?_ | refine ⟨?_, trivial⟩ | intro _); conv => whnf))
  refine ⟨form_enters, cl_same _ (fun w' _ => form_any _ w') ?_⟩
  conv => whnf
  refine br_n (br_d (fun hend => ?_) (fun hin => ?_))
  ·have hk : k = 26 := by
    rcases Nat.lt_or_ge k 26 with h | h
    ·exact absurd hend (form_some hk1 h)
    ·omega
   subst hk
   have hnone : readF l = none := hcand (fun j h1 h2 => hprev j h1 h2)
   obtain ⟨hA, hE⟩ := readR_none hnone hshort
   conv => whnf
   (repeat ((first | refine stp (by (repeat constructor); first | done | fail) ?_ | refine stn (by (repeat constructor); first | done | fail) ?_ | refine sto (by (repeat constructor); first | done | fail) (by first | omega | (simp only; omega)) ?_ | refine .mk fun Ap capp => ?_ | refine ⟨?_, trivial⟩ | intro _); conv => whnf))
   refine finC2 rfl rfl (ldN tab_ok (by (repeat constructor); first | done | fail) rfl rfl rfl rfl) rfl (fun w' hm => ⟨_, ⟨none, none, 0, 0, ?_, rfl⟩, ?_⟩)
   ·rw [hA, hE]; rfl
   ·rw [hA]
    exact ((hm.nilRow 3 1).nilRow 5 1).sel (.cons .here (.cons .here .nil))
  ·have hk : k < 26 := by
    rcases Nat.lt_or_ge k 26 with h | h
    ·exact h
    ·have : k = 26 := by omega
     subst this
     exact absurd rfl hin
   conv => whnf
   (repeat ((first | refine stp (by (repeat constructor); first | done | fail) ?_ | refine stn (by (repeat constructor); first | done | fail) ?_ | refine sto (by (repeat constructor); first | done | fail) (by first | omega | (simp only; omega)) ?_ | refine .mk fun Ap capp => ?_ | refine ⟨?_, trivial⟩ | intro _); conv => whnf))
   refine ⟨form_enters, cl_same _ (fun w' _ => form_any _ w') ?_⟩
   conv => whnf
   refine ⟨cut_enters, cl_same _ (fun w' _ => cut_any _ w' (by have := formL_len (k : Int); omega)) ?_⟩
   conv => whnf
   (repeat ((first | refine stp (by (repeat constructor); first | done | fail) ?_ | refine stn (by (repeat constructor); first | done | fail) ?_ | refine sto (by (repeat constructor); first | done | fail) (by first | omega | (simp only; omega)) ?_ | refine .mk fun Ap capp => ?_ | refine ⟨?_, trivial⟩ | intro _); conv => whnf))
   refine ⟨⟨by omega, by omega, hplA⟩, ?_⟩
   conv => whnf
   refine rn_load (StrsIn.ldj rfl rfl hwn (fun w hm => WR.strs (ws := ws) (by (repeat constructor); first | done | fail) hm)) ?_
   conv => whnf
   refine br_n (br_d (fun hd => ?_) (fun hd => ?_))
   ·have hword : wordL k = ws.getD 0 [] := Str.inj.1 hd
    have hkr : -9223372036854775808 ≤ (k : Int) ∧ (k : Int) ≤ 9223372036854775807 := by omega
    have hcok := candF_ok (k := (k : Int)) hkr hwl2 (by omega)
    have hfl : (lettersL (k : Int)).length ≤ 16 := Nat.le_trans (cutF_len _).2 (formL_len _)
    conv => whnf
    (repeat ((first | refine stp (by (repeat constructor); first | done | fail) ?_ | refine stn (by (repeat constructor); first | done | fail) ?_ | refine sto (by (repeat constructor); first | done | fail) (by first | omega | (simp only; omega)) ?_ | refine .mk fun Ap capp => ?_ | refine ⟨?_, trivial⟩ | intro _); conv => whnf))
    obtain ⟨w0, ws1, rfl⟩ : ∃ w0 ws1, ws = w0 :: ws1 := by
     cases ws with
     | nil => exact absurd rfl hne
     | cons w0 ws1 => exact ⟨w0, ws1, rfl⟩
    have hlc : (w0 :: ws1).length = ws1.length + 1 := rfl
    refine ⟨⟨by omega, by omega, by omega, .inr hplA⟩, ?_⟩
    conv => whnf
    refine ⟨fields_enters, cl_mem (m1 := []) .nil (fun w' hm' => fields_any (nilAct k) (lettersL k) ws1 (cutA A cap 1 1) (cap - 1) w' rfl rfl hfl (fun s hs => hwl2 s (List.mem_cons_of_mem _ hs)) ((WR.strs (ws := w0 :: ws1) (by (repeat constructor); first | done | fail) hm').tail (by omega))) ?_⟩
    rintro e m' ⟨bA, bc, rfl, rfl⟩
    conv => whnf
    intro aB
    conv => whnf
    (repeat ((first | refine stp (by (repeat constructor); first | done | fail) ?_ | refine stn (by (repeat constructor); first | done | fail) ?_ | refine sto (by (repeat constructor); first | done | fail) (by first | omega | (simp only; omega)) ?_ | refine .mk fun Ap capp => ?_ | refine ⟨?_, trivial⟩ | intro _); conv => whnf))
    generalize hX : fieldsF (lettersL (k : Int)) ws1 (nilAct (k : Int)) = X
    have hXp : X.picks = [] := by rw [← hX]; exact (fieldsF_rest _ _ _).2
    have hY : candY (k : Int) (w0 :: ws1) = if (k : Int) = 24 then fateF (w0 :: ws1) X else X := by rw [← hX]; rfl
    have hYb : (candY (k : Int) (w0 :: ws1)).bytes = X.bytes := by rw [← hX]; exact candY_bytes _ _
    have hYp := candY_picks (k : Int) (w0 :: ws1)
    change Cut _ _ _ _ _ [.blk aB (.cells (actL X bA bc none 0).toArray 29), BR bA bc X.bytes, WR A cap (w0 :: ws1), .blk rB (.cells (actL (nilAct 0) none 0 none 0).toArray 29)]
    refine cut (γ := Unit) [] [20] tab_ok (fun _ => True) (fun _ => [(5, .int .i64 (k : Int)), (4, .slice A (w0 :: ws1).length cap), (0, .string (Str l)), (2, .pointer (some ⟨rB, 0, none⟩)), (3, .int .i64 0), (8, .pointer (some ⟨aB, 0, none⟩))]) (fun _ => [.blk aB (.cells (actL (candY (k : Int) (w0 :: ws1)) bA bc none 0).toArray 29), BR bA bc (candY (k : Int) (w0 :: ws1)).bytes, WR A cap (w0 :: ws1), .blk rB (.cells (actL (nilAct 0) none 0 none 0).toArray 29)]) ?_ ?_
    ·conv => whnf
     (repeat ((first | refine stp (by (repeat constructor); first | done | fail) ?_ | refine stn (by (repeat constructor); first | done | fail) ?_ | refine sto (by (repeat constructor); first | done | fail) (by first | omega | (simp only; omega)) ?_ | refine .mk fun Ap capp => ?_ | refine ⟨?_, trivial⟩ | intro _); conv => whnf))
     refine br_d (fun h24 => ?_) (fun h24 => ?_)
     ·rw [if_pos h24] at hY
      rw [hY]
      conv => whnf
      (repeat ((first | refine stp (by (repeat constructor); first | done | fail) ?_ | refine stn (by (repeat constructor); first | done | fail) ?_ | refine sto (by (repeat constructor); first | done | fail) (by first | omega | (simp only; omega)) ?_ | refine .mk fun Ap capp => ?_ | refine ⟨?_, trivial⟩ | intro _); conv => whnf))
      refine lp tab_ok (γ := Nat × PAct) (fun g => 1 ≤ g.1 ∧ g.1 ≤ (w0 :: ws1).length ∧ g.2.picks = [] ∧ g.2.bytes = X.bytes ∧ fatePs g.1 ((w0 :: ws1).drop g.1) g.2 = fateF (w0 :: ws1) X)
       (fun g => (9, .int .i64 (g.1 : Int)) :: [(5, .int .i64 (k : Int)), (4, .slice A (w0 :: ws1).length cap), (0, .string (Str l)), (2, .pointer (some ⟨rB, 0, none⟩)), (3, .int .i64 0), (8, .pointer (some ⟨aB, 0, none⟩))])
       (fun g => [.blk aB (.cells (actL g.2 bA bc none 0).toArray 29), BR bA bc g.2.bytes, WR A cap (w0 :: ws1), .blk rB (.cells (actL (nilAct 0) none 0 none 0).toArray 29)]) (fun g => (w0 :: ws1).length - g.1) (1, X) ⟨by simp only; omega, by simp only; omega, hXp, rfl, fatePs_F _ _⟩ ⟨rfl, rfl, rfl, rfl, rfl, rfl, rfl, trivial⟩ (SubM.sel (by (repeat constructor); first | done | fail)) ?_
      rintro ⟨i, y⟩ ⟨hi1, hi2, hyp, hyb, hfy⟩
      simp only at hi1 hi2 hyp hyb hfy
      change XC _ _ _ ((9, .int .i64 (i : Int)) :: [(5, .int .i64 (k : Int)), (4, .slice A (w0 :: ws1).length cap), (0, .string (Str l)), (2, .pointer (some ⟨rB, 0, none⟩)), (3, .int .i64 0), (8, .pointer (some ⟨aB, 0, none⟩))]) [.blk aB (.cells (actL y bA bc none 0).toArray 29), BR bA bc y.bytes, WR A cap (w0 :: ws1), .blk rB (.cells (actL (nilAct 0) none 0 none 0).toArray 29)]
      conv => whnf
      (repeat ((first | refine stp (by (repeat constructor); first | done | fail) ?_ | refine stn (by (repeat constructor); first | done | fail) ?_ | refine sto (by (repeat constructor); first | done | fail) (by first | omega | (simp only; omega)) ?_ | refine .mk fun Ap capp => ?_ | refine ⟨?_, trivial⟩ | intro _); conv => whnf))
      refine br_d (fun hlt => ?_) (fun hge => ?_)
      ·have hin : i < (w0 :: ws1).length := by omega
       have hstep := fatePs_step (y := y) hin
       rw [hfy] at hstep
       have hstep := hstep.symm
       have hsl := hlj i
       generalize hs0 : (w0 :: ws1).getD i [] = s at hstep hsl
       have hld : ∀ (m : Mem), Has m (WR A cap (w0 :: ws1)) → Ld ⟨Tryz.prog, 108, w, Foot [], tab, [], [], [], []⟩ m 9 (.pointer (pl A i)) (.string (Str s)) := fun m hh => hs0 ▸ StrsIn.ldj rfl rfl hin (fun w hm => WR.strs (ws := (w0 :: ws1)) hh hm)
       rcases (by omega : i = 1 ∨ i = 2 ∨ 3 ≤ i) with h1 | h2 | h3
       ·have hi : (i : Int) = 1 := by omega
        have hi2 : ¬ (i : Int) = 2 := by omega
        have hne : wFull ≠ wFail := by decide
        by_cases hA1 : s = wFail
        ·have hB1 : s ≠ wFull := fun h => hne (h.symm.trans hA1)
         conv => whnf
         (repeat ((first | refine stp (by (repeat constructor); first | done | fail) ?_ | refine stn (by (repeat constructor); first | done | fail) ?_ | refine sto (by (repeat constructor); first | done | fail) (by first | omega | (simp only; omega)) ?_ | refine .mk fun Ap capp => ?_ | refine ⟨?_, trivial⟩ | intro _); conv => whnf))
         refine ⟨⟨by omega, by omega, hplA⟩, ?_⟩
         conv => whnf
         refine rn_load (hld _ (by (repeat constructor); first | done | fail)) ?_
         conv => whnf
         (repeat ((first | refine stp (by (repeat constructor); first | done | fail) ?_ | refine stn (by (repeat constructor); first | done | fail) ?_ | refine sto (by (repeat constructor); first | done | fail) (by first | omega | (simp only; omega)) ?_ | refine .mk fun Ap capp => ?_ | refine ⟨?_, trivial⟩ | intro _); conv => whnf))
         refine br_t (show (decide (Str s = Str wFail) && decide ((i : Int) = 1)) = true by simp [Str.inj, hi, hA1, Ne.symm hne]) ?_
         conv => whnf
         (repeat ((first | refine stp (by (repeat constructor); first | done | fail) ?_ | refine stn (by (repeat constructor); first | done | fail) ?_ | refine sto (by (repeat constructor); first | done | fail) (by first | omega | (simp only; omega)) ?_ | refine .mk fun Ap capp => ?_ | refine ⟨?_, trivial⟩ | intro _); conv => whnf))
         refine ⟨⟨by omega, by omega, hplA⟩, ?_⟩
         conv => whnf
         refine rn_load (hld _ (by (repeat constructor); first | done | fail)) ?_
         conv => whnf
         (repeat ((first | refine stp (by (repeat constructor); first | done | fail) ?_ | refine stn (by (repeat constructor); first | done | fail) ?_ | refine sto (by (repeat constructor); first | done | fail) (by first | omega | (simp only; omega)) ?_ | refine .mk fun Ap capp => ?_ | refine ⟨?_, trivial⟩ | intro _); conv => whnf))
         refine br_f (show (decide (Str s = Str wFull) && decide ((i : Int) = 1)) = false by simp [Str.inj, hi, hA1, Ne.symm hne]) ?_
         conv => whnf
         (repeat ((first | refine stp (by (repeat constructor); first | done | fail) ?_ | refine stn (by (repeat constructor); first | done | fail) ?_ | refine sto (by (repeat constructor); first | done | fail) (by first | omega | (simp only; omega)) ?_ | refine .mk fun Ap capp => ?_ | refine ⟨?_, trivial⟩ | intro _); conv => whnf))
         refine br_f (show (decide ((i : Int) = 2)) = false by simp [Str.inj, hi, hA1, Ne.symm hne]) ?_
         conv => whnf
         (repeat ((first | refine stp (by (repeat constructor); first | done | fail) ?_ | refine stn (by (repeat constructor); first | done | fail) ?_ | refine sto (by (repeat constructor); first | done | fail) (by first | omega | (simp only; omega)) ?_ | refine .mk fun Ap capp => ?_ | refine ⟨?_, trivial⟩ | intro _); conv => whnf))
         rw [show fateP1 i s y = { y with fk := 1 } from by rw [fateP1, if_pos h1, if_pos hA1]] at hstep
         exact ⟨(i + 1, { y with fk := 1 }), ⟨by simp only; omega, by simp only; omega, hyp, hyb, hstep⟩, by simp only; omega, ⟨rfl, rfl, rfl, rfl, rfl, rfl, rfl, trivial⟩, SubM.sel (by (repeat constructor); first | done | fail)⟩
        ·by_cases hB1 : s = wFull
         ·skip
          conv => whnf
          (repeat ((first | refine stp (by (repeat constructor); first | done | fail) ?_ | refine stn (by (repeat constructor); first | done | fail) ?_ | refine sto (by (repeat constructor); first | done | fail) (by first | omega | (simp only; omega)) ?_ | refine .mk fun Ap capp => ?_ | refine ⟨?_, trivial⟩ | intro _); conv => whnf))
          refine ⟨⟨by omega, by omega, hplA⟩, ?_⟩
          conv => whnf
          refine rn_load (hld _ (by (repeat constructor); first | done | fail)) ?_
          conv => whnf
          (repeat ((first | refine stp (by (repeat constructor); first | done | fail) ?_ | refine stn (by (repeat constructor); first | done | fail) ?_ | refine sto (by (repeat constructor); first | done | fail) (by first | omega | (simp only; omega)) ?_ | refine .mk fun Ap capp => ?_ | refine ⟨?_, trivial⟩ | intro _); conv => whnf))
          refine br_f (show (decide (Str s = Str wFail) && decide ((i : Int) = 1)) = false by simp [Str.inj, hi, hB1, hne]) ?_
          conv => whnf
          (repeat ((first | refine stp (by (repeat constructor); first | done | fail) ?_ | refine stn (by (repeat constructor); first | done | fail) ?_ | refine sto (by (repeat constructor); first | done | fail) (by first | omega | (simp only; omega)) ?_ | refine .mk fun Ap capp => ?_ | refine ⟨?_, trivial⟩ | intro _); conv => whnf))
          refine ⟨⟨by omega, by omega, hplA⟩, ?_⟩
          conv => whnf
          refine rn_load (hld _ (by (repeat constructor); first | done | fail)) ?_
          conv => whnf
          (repeat ((first | refine stp (by (repeat constructor); first | done | fail) ?_ | refine stn (by (repeat constructor); first | done | fail) ?_ | refine sto (by (repeat constructor); first | done | fail) (by first | omega | (simp only; omega)) ?_ | refine .mk fun Ap capp => ?_ | refine ⟨?_, trivial⟩ | intro _); conv => whnf))
          refine br_t (show (decide (Str s = Str wFull) && decide ((i : Int) = 1)) = true by simp [Str.inj, hi, hB1, hne]) ?_
          conv => whnf
          (repeat ((first | refine stp (by (repeat constructor); first | done | fail) ?_ | refine stn (by (repeat constructor); first | done | fail) ?_ | refine sto (by (repeat constructor); first | done | fail) (by first | omega | (simp only; omega)) ?_ | refine .mk fun Ap capp => ?_ | refine ⟨?_, trivial⟩ | intro _); conv => whnf))
          refine br_f (show (decide ((i : Int) = 2)) = false by simp [Str.inj, hi, hB1, hne]) ?_
          conv => whnf
          (repeat ((first | refine stp (by (repeat constructor); first | done | fail) ?_ | refine stn (by (repeat constructor); first | done | fail) ?_ | refine sto (by (repeat constructor); first | done | fail) (by first | omega | (simp only; omega)) ?_ | refine .mk fun Ap capp => ?_ | refine ⟨?_, trivial⟩ | intro _); conv => whnf))
          rw [show fateP1 i s y = { y with fk := 2 } from by rw [fateP1, if_pos h1, if_neg hA1, if_pos hB1]] at hstep
          exact ⟨(i + 1, { y with fk := 2 }), ⟨by simp only; omega, by simp only; omega, hyp, hyb, hstep⟩, by simp only; omega, ⟨rfl, rfl, rfl, rfl, rfl, rfl, rfl, trivial⟩, SubM.sel (by (repeat constructor); first | done | fail)⟩
         ·skip
          conv => whnf
          (repeat ((first | refine stp (by (repeat constructor); first | done | fail) ?_ | refine stn (by (repeat constructor); first | done | fail) ?_ | refine sto (by (repeat constructor); first | done | fail) (by first | omega | (simp only; omega)) ?_ | refine .mk fun Ap capp => ?_ | refine ⟨?_, trivial⟩ | intro _); conv => whnf))
          refine ⟨⟨by omega, by omega, hplA⟩, ?_⟩
          conv => whnf
          refine rn_load (hld _ (by (repeat constructor); first | done | fail)) ?_
          conv => whnf
          (repeat ((first | refine stp (by (repeat constructor); first | done | fail) ?_ | refine stn (by (repeat constructor); first | done | fail) ?_ | refine sto (by (repeat constructor); first | done | fail) (by first | omega | (simp only; omega)) ?_ | refine .mk fun Ap capp => ?_ | refine ⟨?_, trivial⟩ | intro _); conv => whnf))
          refine br_f (show (decide (Str s = Str wFail) && decide ((i : Int) = 1)) = false by simp [Str.inj, hi, hA1, hB1]) ?_
          conv => whnf
          (repeat ((first | refine stp (by (repeat constructor); first | done | fail) ?_ | refine stn (by (repeat constructor); first | done | fail) ?_ | refine sto (by (repeat constructor); first | done | fail) (by first | omega | (simp only; omega)) ?_ | refine .mk fun Ap capp => ?_ | refine ⟨?_, trivial⟩ | intro _); conv => whnf))
          refine ⟨⟨by omega, by omega, hplA⟩, ?_⟩
          conv => whnf
          refine rn_load (hld _ (by (repeat constructor); first | done | fail)) ?_
          conv => whnf
          (repeat ((first | refine stp (by (repeat constructor); first | done | fail) ?_ | refine stn (by (repeat constructor); first | done | fail) ?_ | refine sto (by (repeat constructor); first | done | fail) (by first | omega | (simp only; omega)) ?_ | refine .mk fun Ap capp => ?_ | refine ⟨?_, trivial⟩ | intro _); conv => whnf))
          refine br_f (show (decide (Str s = Str wFull) && decide ((i : Int) = 1)) = false by simp [Str.inj, hi, hA1, hB1]) ?_
          conv => whnf
          (repeat ((first | refine stp (by (repeat constructor); first | done | fail) ?_ | refine stn (by (repeat constructor); first | done | fail) ?_ | refine sto (by (repeat constructor); first | done | fail) (by first | omega | (simp only; omega)) ?_ | refine .mk fun Ap capp => ?_ | refine ⟨?_, trivial⟩ | intro _); conv => whnf))
          refine br_f (show (decide ((i : Int) = 2)) = false by simp [Str.inj, hi, hA1, hB1]) ?_
          conv => whnf
          (repeat ((first | refine stp (by (repeat constructor); first | done | fail) ?_ | refine stn (by (repeat constructor); first | done | fail) ?_ | refine sto (by (repeat constructor); first | done | fail) (by first | omega | (simp only; omega)) ?_ | refine .mk fun Ap capp => ?_ | refine ⟨?_, trivial⟩ | intro _); conv => whnf))
          rw [show fateP1 i s y = y from by rw [fateP1, if_pos h1, if_neg hA1, if_neg hB1]] at hstep
          exact ⟨(i + 1, y), ⟨by simp only; omega, by simp only; omega, hyp, hyb, hstep⟩, by simp only; omega, ⟨rfl, rfl, rfl, rfl, rfl, rfl, rfl, trivial⟩, SubM.sel (by (repeat constructor); first | done | fail)⟩
       ·have hi : (i : Int) = 2 := by omega
        have hi1q : ¬ (i : Int) = 1 := by omega
        conv => whnf
        (repeat ((first | refine stp (by (repeat constructor); first | done | fail) ?_ | refine stn (by (repeat constructor); first | done | fail) ?_ | refine sto (by (repeat constructor); first | done | fail) (by first | omega | (simp only; omega)) ?_ | refine .mk fun Ap capp => ?_ | refine ⟨?_, trivial⟩ | intro _); conv => whnf))
        refine ⟨⟨by omega, by omega, hplA⟩, ?_⟩
        conv => whnf
        refine rn_load (hld _ (by (repeat constructor); first | done | fail)) ?_
        conv => whnf
        (repeat ((first | refine stp (by (repeat constructor); first | done | fail) ?_ | refine stn (by (repeat constructor); first | done | fail) ?_ | refine sto (by (repeat constructor); first | done | fail) (by first | omega | (simp only; omega)) ?_ | refine .mk fun Ap capp => ?_ | refine ⟨?_, trivial⟩ | intro _); conv => whnf))
        refine br_f (show (decide (Str s = Str wFail) && decide ((i : Int) = 1)) = false by simp [hi]) ?_
        conv => whnf
        (repeat ((first | refine stp (by (repeat constructor); first | done | fail) ?_ | refine stn (by (repeat constructor); first | done | fail) ?_ | refine sto (by (repeat constructor); first | done | fail) (by first | omega | (simp only; omega)) ?_ | refine .mk fun Ap capp => ?_ | refine ⟨?_, trivial⟩ | intro _); conv => whnf))
        refine ⟨⟨by omega, by omega, hplA⟩, ?_⟩
        conv => whnf
        refine rn_load (hld _ (by (repeat constructor); first | done | fail)) ?_
        conv => whnf
        (repeat ((first | refine stp (by (repeat constructor); first | done | fail) ?_ | refine stn (by (repeat constructor); first | done | fail) ?_ | refine sto (by (repeat constructor); first | done | fail) (by first | omega | (simp only; omega)) ?_ | refine .mk fun Ap capp => ?_ | refine ⟨?_, trivial⟩ | intro _); conv => whnf))
        refine br_f (show (decide (Str s = Str wFull) && decide ((i : Int) = 1)) = false by simp [hi]) ?_
        conv => whnf
        (repeat ((first | refine stp (by (repeat constructor); first | done | fail) ?_ | refine stn (by (repeat constructor); first | done | fail) ?_ | refine sto (by (repeat constructor); first | done | fail) (by first | omega | (simp only; omega)) ?_ | refine .mk fun Ap capp => ?_ | refine ⟨?_, trivial⟩ | intro _); conv => whnf))
        refine br_t (show (decide ((i : Int) = 2)) = true by simp [hi]) ?_
        conv => whnf
        (repeat ((first | refine stp (by (repeat constructor); first | done | fail) ?_ | refine stn (by (repeat constructor); first | done | fail) ?_ | refine sto (by (repeat constructor); first | done | fail) (by first | omega | (simp only; omega)) ?_ | refine .mk fun Ap capp => ?_ | refine ⟨?_, trivial⟩ | intro _); conv => whnf))
        refine ⟨⟨by omega, by omega, hplA⟩, ?_⟩
        conv => whnf
        refine rn_load (hld _ (by (repeat constructor); first | done | fail)) ?_
        conv => whnf
        (repeat ((first | refine stp (by (repeat constructor); first | done | fail) ?_ | refine stn (by (repeat constructor); first | done | fail) ?_ | refine sto (by (repeat constructor); first | done | fail) (by first | omega | (simp only; omega)) ?_ | refine .mk fun Ap capp => ?_ | refine ⟨?_, trivial⟩ | intro _); conv => whnf))
        refine ⟨number_enters, cl_same _ (fun w' _ => number_any s w' (by omega)) ?_⟩
        conv => whnf
        (repeat ((first | refine stp (by (repeat constructor); first | done | fail) ?_ | refine stn (by (repeat constructor); first | done | fail) ?_ | refine sto (by (repeat constructor); first | done | fail) (by first | omega | (simp only; omega)) ?_ | refine .mk fun Ap capp => ?_ | refine ⟨?_, trivial⟩ | intro _); conv => whnf))
        rw [show fateP1 i s y = { y with keep := numF s } from by rw [fateP1, if_neg (by omega), if_pos h2]] at hstep
        exact ⟨(i + 1, { y with keep := numF s }), ⟨by simp only; omega, by simp only; omega, hyp, hyb, hstep⟩, by simp only; omega, ⟨rfl, rfl, rfl, rfl, rfl, rfl, rfl, trivial⟩, SubM.sel (by (repeat constructor); first | done | fail)⟩
       ·have hi : ¬ (i : Int) = 2 := by omega
        have hi1q : ¬ (i : Int) = 1 := by omega
        conv => whnf
        (repeat ((first | refine stp (by (repeat constructor); first | done | fail) ?_ | refine stn (by (repeat constructor); first | done | fail) ?_ | refine sto (by (repeat constructor); first | done | fail) (by first | omega | (simp only; omega)) ?_ | refine .mk fun Ap capp => ?_ | refine ⟨?_, trivial⟩ | intro _); conv => whnf))
        refine ⟨⟨by omega, by omega, hplA⟩, ?_⟩
        conv => whnf
        refine rn_load (hld _ (by (repeat constructor); first | done | fail)) ?_
        conv => whnf
        (repeat ((first | refine stp (by (repeat constructor); first | done | fail) ?_ | refine stn (by (repeat constructor); first | done | fail) ?_ | refine sto (by (repeat constructor); first | done | fail) (by first | omega | (simp only; omega)) ?_ | refine .mk fun Ap capp => ?_ | refine ⟨?_, trivial⟩ | intro _); conv => whnf))
        refine br_f (show (decide (Str s = Str wFail) && decide ((i : Int) = 1)) = false by simp [hi, hi1q]) ?_
        conv => whnf
        (repeat ((first | refine stp (by (repeat constructor); first | done | fail) ?_ | refine stn (by (repeat constructor); first | done | fail) ?_ | refine sto (by (repeat constructor); first | done | fail) (by first | omega | (simp only; omega)) ?_ | refine .mk fun Ap capp => ?_ | refine ⟨?_, trivial⟩ | intro _); conv => whnf))
        refine ⟨⟨by omega, by omega, hplA⟩, ?_⟩
        conv => whnf
        refine rn_load (hld _ (by (repeat constructor); first | done | fail)) ?_
        conv => whnf
        (repeat ((first | refine stp (by (repeat constructor); first | done | fail) ?_ | refine stn (by (repeat constructor); first | done | fail) ?_ | refine sto (by (repeat constructor); first | done | fail) (by first | omega | (simp only; omega)) ?_ | refine .mk fun Ap capp => ?_ | refine ⟨?_, trivial⟩ | intro _); conv => whnf))
        refine br_f (show (decide (Str s = Str wFull) && decide ((i : Int) = 1)) = false by simp [hi, hi1q]) ?_
        conv => whnf
        (repeat ((first | refine stp (by (repeat constructor); first | done | fail) ?_ | refine stn (by (repeat constructor); first | done | fail) ?_ | refine sto (by (repeat constructor); first | done | fail) (by first | omega | (simp only; omega)) ?_ | refine .mk fun Ap capp => ?_ | refine ⟨?_, trivial⟩ | intro _); conv => whnf))
        refine br_f (show (decide ((i : Int) = 2)) = false by simp [hi, hi1q]) ?_
        conv => whnf
        (repeat ((first | refine stp (by (repeat constructor); first | done | fail) ?_ | refine stn (by (repeat constructor); first | done | fail) ?_ | refine sto (by (repeat constructor); first | done | fail) (by first | omega | (simp only; omega)) ?_ | refine .mk fun Ap capp => ?_ | refine ⟨?_, trivial⟩ | intro _); conv => whnf))
        rw [show fateP1 i s y = y from by rw [fateP1, if_neg (by omega), if_neg (by omega)]] at hstep
        exact ⟨(i + 1, y), ⟨by simp only; omega, by simp only; omega, hyp, hyb, hstep⟩, by simp only; omega, ⟨rfl, rfl, rfl, rfl, rfl, rfl, rfl, trivial⟩, SubM.sel (by (repeat constructor); first | done | fail)⟩
      ·have hiL : i = (w0 :: ws1).length := by omega
       subst hiL
       rw [List.drop_of_length_le (Nat.le_refl _)] at hfy
       have hfy : y = fateF (w0 :: ws1) X := hfy
       subst hfy
       conv => whnf
       (repeat ((first | refine stp (by (repeat constructor); first | done | fail) ?_ | refine stn (by (repeat constructor); first | done | fail) ?_ | refine sto (by (repeat constructor); first | done | fail) (by first | omega | (simp only; omega)) ?_ | refine .mk fun Ap capp => ?_ | refine ⟨?_, trivial⟩ | intro _); conv => whnf))
       exact ⟨(), trivial, ⟨rfl, rfl, rfl, rfl, rfl, rfl, trivial⟩, SubM.sel (by (repeat constructor); first | done | fail)⟩
     ·rw [if_neg h24] at hY
      rw [hY]
      conv => whnf
      (repeat ((first | refine stp (by (repeat constructor); first | done | fail) ?_ | refine stn (by (repeat constructor); first | done | fail) ?_ | refine sto (by (repeat constructor); first | done | fail) (by first | omega | (simp only; omega)) ?_ | refine .mk fun Ap capp => ?_ | refine ⟨?_, trivial⟩ | intro _); conv => whnf))
      exact ⟨(), trivial, ⟨rfl, rfl, rfl, rfl, rfl, rfl, trivial⟩, SubM.sel (by (repeat constructor); first | done | fail)⟩
    ·rintro ⟨⟩ _
     generalize hYg : candY (k : Int) (w0 :: ws1) = Y at hYp ⊢
     change XC _ _ _ [(5, .int .i64 (k : Int)), (4, .slice A (w0 :: ws1).length cap), (0, .string (Str l)), (2, .pointer (some ⟨rB, 0, none⟩)), (3, .int .i64 0), (8, .pointer (some ⟨aB, 0, none⟩))] [.blk aB (.cells (actL Y bA bc none 0).toArray 29), BR bA bc Y.bytes, WR A cap (w0 :: ws1), .blk rB (.cells (actL (nilAct 0) none 0 none 0).toArray 29)]
     generalize hps : ((if (k : Int) = 25 then ws1.map numF else []) : List Int) = ps
     have hcY : candF (k : Int) (w0 :: ws1) = { Y with picks := ps } := by
      rw [candF_eq, hYg, ← hps]
      split
      ·rfl
      ·rw [← hYp]
     have hps25 : (k : Int) = 25 → ws1.map numF = ps := fun h => by rw [← hps, if_pos h]
     have hps0 : (k : Int) ≠ 25 → ps = [] := fun h => by rw [← hps, if_neg h]
     have eY : { Y with picks := [] } = Y := by rw [← hYp]
     clear hps hYg hYb hY hX hXp
     refine cut (γ := Option Addr × Nat) [] [] tab_ok (fun _ => True) (fun _ => [(5, .int .i64 (k : Int)), (4, .slice A (w0 :: ws1).length cap), (0, .string (Str l)), (2, .pointer (some ⟨rB, 0, none⟩)), (3, .int .i64 0), (8, .pointer (some ⟨aB, 0, none⟩))]) (fun g => [.blk aB (.cells (actL { Y with picks := ps } bA bc g.1 g.2).toArray 29), BR bA bc Y.bytes, PR g.1 g.2 ({ Y with picks := ps }).picks, WR A cap (w0 :: ws1), .blk rB (.cells (actL (nilAct 0) none 0 none 0).toArray 29)]) ?_ ?_
     ·conv => whnf
      (repeat ((first | refine stp (by (repeat constructor); first | done | fail) ?_ | refine stn (by (repeat constructor); first | done | fail) ?_ | refine sto (by (repeat constructor); first | done | fail) (by first | omega | (simp only; omega)) ?_ | refine .mk fun Ap capp => ?_ | refine ⟨?_, trivial⟩ | intro _); conv => whnf))
      refine lp tab_ok (γ := Nat × List Int × Option Addr × Nat) (fun g => 1 ≤ g.1 ∧ g.1 ≤ (w0 :: ws1).length ∧ g.2.1.length + 1 = g.1 ∧ ((k : Int) = 25 → g.2.1 ++ ((w0 :: ws1).drop g.1).map numF = ps) ∧ ((k : Int) ≠ 25 → g.2.1 = []))
       (fun g => (10, .int .i64 (g.1 : Int)) :: [(5, .int .i64 (k : Int)), (4, .slice A (w0 :: ws1).length cap), (0, .string (Str l)), (2, .pointer (some ⟨rB, 0, none⟩)), (3, .int .i64 0), (8, .pointer (some ⟨aB, 0, none⟩))])
       (fun g => [.blk aB (.cells (actL { Y with picks := g.2.1 } bA bc g.2.2.1 g.2.2.2).toArray 29), BR bA bc Y.bytes, PR g.2.2.1 g.2.2.2 ({ Y with picks := g.2.1 }).picks, WR A cap (w0 :: ws1), .blk rB (.cells (actL (nilAct 0) none 0 none 0).toArray 29)]) (fun g => (w0 :: ws1).length - g.1) (1, [], none, 0) ⟨by simp only; omega, by simp only; omega, rfl, hps25, fun _ => rfl⟩ ⟨rfl, rfl, rfl, rfl, rfl, rfl, rfl, trivial⟩ (by
        simp only [eY]
        exact fun w hm => (hm.nilRow 3 1).sel (by (repeat constructor); first | done | fail)) ?_
      rintro ⟨i, qs, pA, pc⟩ ⟨hi1, hi2, hqs, hq25, hq0⟩
      simp only at hi1 hi2 hqs hq25 hq0
      change XC _ _ _ ((10, .int .i64 (i : Int)) :: [(5, .int .i64 (k : Int)), (4, .slice A (w0 :: ws1).length cap), (0, .string (Str l)), (2, .pointer (some ⟨rB, 0, none⟩)), (3, .int .i64 0), (8, .pointer (some ⟨aB, 0, none⟩))]) [.blk aB (.cells (actL { Y with picks := qs } bA bc pA pc).toArray 29), BR bA bc Y.bytes, PR pA pc ({ Y with picks := qs }).picks, WR A cap (w0 :: ws1), .blk rB (.cells (actL (nilAct 0) none 0 none 0).toArray 29)]
      conv => whnf
      (repeat ((first | refine stp (by (repeat constructor); first | done | fail) ?_ | refine stn (by (repeat constructor); first | done | fail) ?_ | refine sto (by (repeat constructor); first | done | fail) (by first | omega | (simp only; omega)) ?_ | refine .mk fun Ap capp => ?_ | refine ⟨?_, trivial⟩ | intro _); conv => whnf))
      refine br (fun hgo => ?_) (fun hstop => ?_)
      ·simp only [Bool.and_eq_true, decide_eq_true_eq] at hgo
       obtain ⟨hlt, h25⟩ := hgo
       have hin : i < (w0 :: ws1).length := by omega
       have hq := hq25 h25
       rw [List.drop_eq_getElem_cons hin, List.map_cons] at hq
       have hsl := hlj i
       have hgd : (w0 :: ws1).getD i [] = (w0 :: ws1)[i] := by rw [List.getD, List.getElem?_eq_getElem hin]; rfl
       rw [← hgd] at hq
       generalize hs0 : (w0 :: ws1).getD i [] = s at hq hsl
       have hld : ∀ (m : Mem), Has m (WR A cap (w0 :: ws1)) → Ld ⟨Tryz.prog, 108, w, Foot [], tab, [], [], [], []⟩ m 9 (.pointer (pl A i)) (.string (Str s)) := fun m hh => hs0 ▸ StrsIn.ldj rfl rfl hin (fun w hm => WR.strs (ws := (w0 :: ws1)) hh hm)
       conv => whnf
       refine dr_any (γ := Option Addr × Nat) (Tr.hs [0, 2, 3, 4, 5] (.alts 1 (Tr.sq [6, 7] (Tr.sq [8] (Tr.hs [9] (Tr.sq [10] .done)))) (.alts 6 (.alts 1 (Tr.sq [7] (Tr.sq [8] (Tr.hs [9] (Tr.sq [10] .done)))) (.alts 7 (Tr.sq [1] (Tr.sq [8] (Tr.hs [9] (Tr.sq [10] .done)))) .stop)) .stop))) [WR A cap (w0 :: ws1), .blk rB (.cells (actL (nilAct 0) none 0 none 0).toArray 29)] tab_ok mixed (by kernel_rfl) rfl (fun _ => True) (fun _ => (10, .int .i64 (i : Int)) :: [(5, .int .i64 (k : Int)), (4, .slice A (w0 :: ws1).length cap), (0, .string (Str l)), (2, .pointer (some ⟨rB, 0, none⟩)), (3, .int .i64 0), (8, .pointer (some ⟨aB, 0, none⟩))]) (fun g => [.blk aB (.cells (actL { Y with picks := qs ++ [numF s] } bA bc g.1 g.2).toArray 29), BR bA bc Y.bytes, PR g.1 g.2 ({ Y with picks := qs ++ [numF s] }).picks, WR A cap (w0 :: ws1), .blk rB (.cells (actL (nilAct 0) none 0 none 0).toArray 29)]) (SubM.sel (by (repeat constructor); first | done | fail)) ?_ ?_
       ·conv => whnf
        (repeat ((first | refine stp (by (repeat constructor); first | done | fail) ?_ | refine stn (by (repeat constructor); first | done | fail) ?_ | refine sto (by (repeat constructor); first | done | fail) (by first | omega | (simp only; omega)) ?_ | refine .mk fun Ap capp => ?_ | refine ⟨?_, trivial⟩ | intro _); conv => whnf))
        refine ⟨⟨by omega, by omega, hplA⟩, ?_⟩
        conv => whnf
        refine ⟨_, Ld.g (hld _ (by (repeat constructor); first | done | fail)), ?_⟩
        conv => whnf
        (repeat ((first | refine stp (by (repeat constructor); first | done | fail) ?_ | refine stn (by (repeat constructor); first | done | fail) ?_ | refine sto (by (repeat constructor); first | done | fail) (by first | omega | (simp only; omega)) ?_ | refine .mk fun Ap capp => ?_ | refine ⟨?_, trivial⟩ | intro _); conv => whnf))
        refine ⟨?_, ?_, trivial⟩
        ·conv => whnf
         (repeat ((first | refine g_sub (And.intro (SubM.sel (by (repeat constructor); first | done | fail)) ?_) | (refine g_cl ?_; refine ⟨number_enters, cl_same _ (fun w' _ => number_any s w' (by omega)) ?_⟩) | refine stp (by (repeat constructor); first | done | fail) ?_ | refine stn (by (repeat constructor); first | done | fail) ?_ | refine sto (by (repeat constructor); first | done | fail) (by first | omega | (simp only; omega)) ?_ | refine .mk fun Ap capp => ?_ | refine ⟨?_, trivial⟩ | intro _); conv => whnf))
         exact ⟨(Ap, capp), trivial, ⟨rfl, rfl, rfl, rfl, rfl, rfl, rfl, trivial⟩, by simp only [RM, PR, actL, List.length_append, List.length_cons, List.length_nil, List.map_append, List.map_cons, List.map_nil]; exact SubM.sel (by (repeat constructor); first | done | fail)⟩
        ·conv => whnf
         (repeat ((first | refine g_sub (And.intro (SubM.sel (by (repeat constructor); first | done | fail)) ?_) | (refine g_cl ?_; refine ⟨number_enters, cl_same _ (fun w' _ => number_any s w' (by omega)) ?_⟩) | refine stp (by (repeat constructor); first | done | fail) ?_ | refine stn (by (repeat constructor); first | done | fail) ?_ | refine sto (by (repeat constructor); first | done | fail) (by first | omega | (simp only; omega)) ?_ | refine .mk fun Ap capp => ?_ | refine ⟨?_, trivial⟩ | intro _); conv => whnf))
         refine ⟨?_, ?_, trivial⟩
         ·conv => whnf
          (repeat ((first | refine g_sub (And.intro (SubM.sel (by (repeat constructor); first | done | fail)) ?_) | (refine g_cl ?_; refine ⟨number_enters, cl_same _ (fun w' _ => number_any s w' (by omega)) ?_⟩) | refine stp (by (repeat constructor); first | done | fail) ?_ | refine stn (by (repeat constructor); first | done | fail) ?_ | refine sto (by (repeat constructor); first | done | fail) (by first | omega | (simp only; omega)) ?_ | refine .mk fun Ap capp => ?_ | refine ⟨?_, trivial⟩ | intro _); conv => whnf))
          exact ⟨(Ap, capp), trivial, ⟨rfl, rfl, rfl, rfl, rfl, rfl, rfl, trivial⟩, by simp only [RM, PR, actL, List.length_append, List.length_cons, List.length_nil, List.map_append, List.map_cons, List.map_nil]; exact SubM.sel (by (repeat constructor); first | done | fail)⟩
         ·conv => whnf
          (repeat ((first | refine g_sub (And.intro (SubM.sel (by (repeat constructor); first | done | fail)) ?_) | (refine g_cl ?_; refine ⟨number_enters, cl_same _ (fun w' _ => number_any s w' (by omega)) ?_⟩) | refine stp (by (repeat constructor); first | done | fail) ?_ | refine stn (by (repeat constructor); first | done | fail) ?_ | refine sto (by (repeat constructor); first | done | fail) (by first | omega | (simp only; omega)) ?_ | refine .mk fun Ap capp => ?_ | refine ⟨?_, trivial⟩ | intro _); conv => whnf))
          exact ⟨(Ap, capp), trivial, ⟨rfl, rfl, rfl, rfl, rfl, rfl, rfl, trivial⟩, by simp only [RM, PR, actL, List.length_append, List.length_cons, List.length_nil, List.map_append, List.map_cons, List.map_nil]; exact SubM.sel (by (repeat constructor); first | done | fail)⟩
       ·rintro ⟨Ap, capp⟩ _
        conv => whnf
        (repeat ((first | refine stp (by (repeat constructor); first | done | fail) ?_ | refine stn (by (repeat constructor); first | done | fail) ?_ | refine sto (by (repeat constructor); first | done | fail) (by first | omega | (simp only; omega)) ?_ | refine .mk fun Ap capp => ?_ | refine ⟨?_, trivial⟩ | intro _); conv => whnf))
        exact ⟨(i + 1, qs ++ [numF s], Ap, capp), ⟨by simp only; omega, by simp only; omega, by simp [hqs], fun _ => by rw [← hq]; simp, fun h => absurd h25 h⟩, by simp only; omega, ⟨rfl, rfl, rfl, rfl, rfl, rfl, rfl, trivial⟩, SubM.sel (by (repeat constructor); first | done | fail)⟩
      ·have hqp : qs = ps := by
        by_cases h25 : (k : Int) = 25
        ·have := hq25 h25
         simp only [h25, decide_true, Bool.and_true, decide_eq_false_iff_not] at hstop
         rw [List.drop_of_length_le (by omega)] at this
         simpa using this
        ·rw [hq0 h25, hps0 h25]
       subst hqp
       conv => whnf
       (repeat ((first | refine stp (by (repeat constructor); first | done | fail) ?_ | refine stn (by (repeat constructor); first | done | fail) ?_ | refine sto (by (repeat constructor); first | done | fail) (by first | omega | (simp only; omega)) ?_ | refine .mk fun Ap capp => ?_ | refine ⟨?_, trivial⟩ | intro _); conv => whnf))
       exact ⟨(pA, pc), trivial, ⟨rfl, rfl, rfl, rfl, rfl, rfl, trivial⟩, SubM.sel (by (repeat constructor); first | done | fail)⟩
     ·rintro ⟨pA, pc⟩ _
      change XC _ _ _ [(5, .int .i64 (k : Int)), (4, .slice A (w0 :: ws1).length cap), (0, .string (Str l)), (2, .pointer (some ⟨rB, 0, none⟩)), (3, .int .i64 0), (8, .pointer (some ⟨aB, 0, none⟩))] [.blk aB (.cells (actL { Y with picks := ps } bA bc pA pc).toArray 29), BR bA bc Y.bytes, PR pA pc ({ Y with picks := ps }).picks, WR A cap (w0 :: ws1), .blk rB (.cells (actL (nilAct 0) none 0 none 0).toArray 29)]
      rw [← hcY]
      have hYc : Y.bytes = (candF (k : Int) (w0 :: ws1)).bytes := by rw [hcY]
      rw [hYc]
      have hrd := hsome k hk1 hk hcok
      generalize hZ : candF (k : Int) (w0 :: ws1) = Z at hcok hrd ⊢
      conv => whnf
      (repeat ((first | refine stp (by (repeat constructor); first | done | fail) ?_ | refine stn (by (repeat constructor); first | done | fail) ?_ | refine sto (by (repeat constructor); first | done | fail) (by first | omega | (simp only; omega)) ?_ | refine .mk fun Ap capp => ?_ | refine ⟨?_, trivial⟩ | intro _); conv => whnf))
      refine ⟨may_enters, cl_same _ (fun w' hm' => may_any Z bA pA bc pc w' ⟨hcok, BR.in_ (by (repeat constructor); first | done | fail) hm', PR.in_ (by (repeat constructor); first | done | fail) hm'⟩) ?_⟩
      conv => whnf
      (repeat ((first | refine stp (by (repeat constructor); first | done | fail) ?_ | refine stn (by (repeat constructor); first | done | fail) ?_ | refine sto (by (repeat constructor); first | done | fail) (by first | omega | (simp only; omega)) ?_ | refine .mk fun Ap capp => ?_ | refine ⟨?_, trivial⟩ | intro _); conv => whnf))
      refine br (fun hmay => ?_) (fun hmay => ?_)
      ·conv => whnf
       (repeat ((first | refine stp (by (repeat constructor); first | done | fail) ?_ | refine stn (by (repeat constructor); first | done | fail) ?_ | refine sto (by (repeat constructor); first | done | fail) (by first | omega | (simp only; omega)) ?_ | refine .mk fun Ap capp => ?_ | refine ⟨?_, trivial⟩ | intro _); conv => whnf))
       refine ⟨rline_enters, cl_same _ (fun w' hm' => rline_any Z bA pA bc pc w' ⟨⟨hcok, BR.in_ (by (repeat constructor); first | done | fail) hm', PR.in_ (by (repeat constructor); first | done | fail) hm'⟩, act_num hcok (hN w' hm'.fr)⟩ hmay) ?_⟩
       conv => whnf
       (repeat ((first | refine stp (by (repeat constructor); first | done | fail) ?_ | refine stn (by (repeat constructor); first | done | fail) ?_ | refine sto (by (repeat constructor); first | done | fail) (by first | omega | (simp only; omega)) ?_ | refine .mk fun Ap capp => ?_ | refine ⟨?_, trivial⟩ | intro _); conv => whnf))
       refine br_d (fun heq => ?_) (fun hne2 => ?_)
       ·have hr := hrd hmay (Str.inj.1 heq)
        conv => whnf
        (repeat ((first | refine stp (by (repeat constructor); first | done | fail) ?_ | refine stn (by (repeat constructor); first | done | fail) ?_ | refine sto (by (repeat constructor); first | done | fail) (by first | omega | (simp only; omega)) ?_ | refine .mk fun Ap capp => ?_ | refine ⟨?_, trivial⟩ | intro _); conv => whnf))
        refine finC2 rfl rfl (ldN tab_ok (by (repeat constructor); first | done | fail) rfl rfl rfl rfl) rfl (fun w' hm => ⟨_, ⟨bA, pA, bc, pc, ?_, rfl⟩, ?_⟩)
        ·rw [readA, readE, if_neg hshort, if_neg hshort, hr]; rfl
        ·rw [readA, if_neg hshort, hr]; exact hm.sel (by (repeat constructor); first | done | fail)
       ·have hbad : ¬ (mayB Z = true ∧ lineL Z = l) := fun h => hne2 (congrArg Str h.2)
        conv => whnf
        (repeat ((first | refine stp (by (repeat constructor); first | done | fail) ?_ | refine stn (by (repeat constructor); first | done | fail) ?_ | refine sto (by (repeat constructor); first | done | fail) (by first | omega | (simp only; omega)) ?_ | refine .mk fun Ap capp => ?_ | refine ⟨?_, trivial⟩ | intro _); conv => whnf))
        exact ⟨k + 1, ⟨by omega, by omega, fun j h1 h2 h3 => (Nat.lt_succ_iff_lt_or_eq.1 h2).elim (fun h => hprev j h1 h h3) (fun e => by rw [e, hZ]; exact hbad)⟩, by omega, ⟨rfl, rfl, rfl, rfl, rfl, trivial⟩, SubM.sel (by (repeat constructor); first | done | fail)⟩
      ·have hbad : ¬ (mayB Z = true ∧ lineL Z = l) := fun h => by rw [hmay] at h; exact absurd h.1 (by decide)
       conv => whnf
       (repeat ((first | refine stp (by (repeat constructor); first | done | fail) ?_ | refine stn (by (repeat constructor); first | done | fail) ?_ | refine sto (by (repeat constructor); first | done | fail) (by first | omega | (simp only; omega)) ?_ | refine .mk fun Ap capp => ?_ | refine ⟨?_, trivial⟩ | intro _); conv => whnf))
       refine br_f rfl ?_
       conv => whnf
       (repeat ((first | refine stp (by (repeat constructor); first | done | fail) ?_ | refine stn (by (repeat constructor); first | done | fail) ?_ | refine sto (by (repeat constructor); first | done | fail) (by first | omega | (simp only; omega)) ?_ | refine .mk fun Ap capp => ?_ | refine ⟨?_, trivial⟩ | intro _); conv => whnf))
       exact ⟨k + 1, ⟨by omega, by omega, fun j h1 h2 h3 => (Nat.lt_succ_iff_lt_or_eq.1 h2).elim (fun h => hprev j h1 h h3) (fun e => by rw [e, hZ]; exact hbad)⟩, by omega, ⟨rfl, rfl, rfl, rfl, rfl, trivial⟩, SubM.sel (by (repeat constructor); first | done | fail)⟩
   ·conv => whnf
    (repeat ((first | refine stp (by (repeat constructor); first | done | fail) ?_ | refine stn (by (repeat constructor); first | done | fail) ?_ | refine sto (by (repeat constructor); first | done | fail) (by first | omega | (simp only; omega)) ?_ | refine .mk fun Ap capp => ?_ | refine ⟨?_, trivial⟩ | intro _); conv => whnf))
    exact ⟨k + 1, ⟨by omega, by omega, fun j h1 h2 h3 => (Nat.lt_succ_iff_lt_or_eq.1 h2).elim (fun h => hprev j h1 h h3) (fun e => absurd (congrArg Str (e ▸ h3)) hd)⟩, by omega, ⟨rfl, rfl, rfl, rfl, rfl, trivial⟩, SubM.sel (by (repeat constructor); first | done | fail)⟩
theorem rRead_enters : Eng.Enters Tryz.prog 13 := enters_mk fun _ _ => by kernel_rfl
end Go.Proofs.YtbfbjgakmnckbaaGreatDoor
namespace Go.Proofs.YtbfbjgakmnckbaaGreatDoor
open Go Go.RowKit Eng
attribute [local irreducible] Br Rn RnU Cl RdG CpG Ld Rd Lp Dr Oth Cut fin Fits Eng.Enters Md NA

/-- An act and where its slices lie. -/
structure LA where
 a : PAct
 bA : Option Addr
 bc : Nat
 pA : Option Addr
 pc : Nat
def LA.cells (x : LA) : List Value := actL x.a x.bA x.bc x.pA x.pc
def LA.val (x : LA) : Value := .agg x.cells.toArray
theorem LA.cells_length (x : LA) : x.cells.length = 13 := rfl
/-- A slice of acts, in a world. -/
structure ActsIn (w : World) (A : Option Addr) (L : List LA) : Prop where
 at_ : 0 < L.length → ∃ b o, A = some ⟨b, o, none⟩ ∧ ∀ i x, L[i]? = some x → ∀ j v, x.cells[j]? = some v → w.cell? ⟨b, o + (i * 13 + j), none⟩ = some v
 act : ∀ x ∈ L, ActIn w x.a x.bA x.pA
theorem actIn_fr {a : PAct} {bA pA : Option Addr} {w w' : World} (h : ActIn w a bA pA) (hf : Fr (fun _ => False) w w') : ActIn w' a bA pA :=
 ⟨h.ok, fun hn => let ⟨b, o, e, hc⟩ := h.bytes hn; ⟨b, o, e, fun i hi => (World.cell?_of_block (hf.block b (World.block_lt_of_cell? w ⟨b, o + i, none⟩ (hc i hi)) id)).trans (hc i hi)⟩,
  fun hn => let ⟨b, o, e, hc⟩ := h.picks hn; ⟨b, o, e, fun i hi => (World.cell?_of_block (hf.block b (World.block_lt_of_cell? w ⟨b, o + i, none⟩ (hc i hi)) id)).trans (hc i hi)⟩⟩
theorem ActsIn.fr {w w' : World} {A : Option Addr} {L : List LA} (h : ActsIn w A L) (hf : Fr (fun _ => False) w w') : ActsIn w' A L :=
 ⟨fun hn => let ⟨b, o, e, hc⟩ := h.at_ hn; ⟨b, o, e, fun i x hx j v hv => (World.cell?_of_block (hf.block b (World.block_lt_of_cell? w ⟨b, o + (i * 13 + j), none⟩ (hc i x hx j v hv)) id)).trans (hc i x hx j v hv)⟩,
  fun x hx => actIn_fr (h.act x hx) hf⟩
theorem ActsIn.plain {w : World} {A : Option Addr} {L : List LA} (h : ActsIn w A L) (hn : 0 < L.length) : Pl A := let ⟨b, o, e, _⟩ := h.at_ hn; ⟨b, o, e⟩
/-- An element of the slice is loaded. -/
theorem ActsIn.ld {cx : Cx} (hP : cx.P = Tryz.prog) (hT : cx.tab = tab) {m : Mem} {A : Option Addr} {L : List LA} (h : ActsIn cx.w0 A L) (hS : ∀ b, ¬ cx.S b) {i : Nat} {x : LA} (hi : L[i]? = some x) : Ld cx m 29 (.pointer (pl A (mulC i 13))) x.val := by
 have hlt := (List.getElem?_eq_some_iff.1 hi).1
 obtain ⟨b, o, rfl, hc⟩ := h.at_ (by omega)
 refine ldFN (tab_cx hP hT) (a := ⟨b, o + mulC i 13, none⟩) (fun j v hj => ?_) (hS _) (i := ty29) (by rw [hT]; rfl) rfl rfl
 rw [Addr.add_lit, mulC_eq, Nat.add_assoc]
 exact hc i x hi j v hj
/-- .. one field of it. -/
theorem ActsIn.ldF {cx : Cx} (hP : cx.P = Tryz.prog) (hT : cx.tab = tab) {m : Mem} {A : Option Addr} {L : List LA} (h : ActsIn cx.w0 A L) (hS : ∀ b, ¬ cx.S b) {i j t : Nat} {ti : TyI} {x : LA} {v : Value} (hi : L[i]? = some x) (hv : x.cells[j]? = some v) (hti : cx.tab.get t = some ti) (hk : ti.kind.flat = true) :
  Ld cx m t (.pointer (pl (pl A (mulC i 13)) j)) v := by
 have hlt := (List.getElem?_eq_some_iff.1 hi).1
 obtain ⟨b, o, rfl, hc⟩ := h.at_ (by omega)
 refine Eng.ldF (tab_cx hP hT) (a := ⟨b, o + mulC i 13 + j, none⟩) ?_ (hS _) hti hk
 rw [mulC_eq, Nat.add_assoc]
 exact hc i x hi j v hv
theorem foot_no : ∀ b, ¬ Foot [] b := fun _ ⟨_, h, _⟩ => by cases h
end Go.Proofs.YtbfbjgakmnckbaaGreatDoor
namespace Go.Proofs.YtbfbjgakmnckbaaGreatDoor
open Go Go.RowKit Eng
theorem run_append_zero {P : Program} {w : World} (base : Nat) (t ty e : TypeId) (i : TypeInfo) (size : Nat) (ht : P.underlying t = some (.slice e)) (hi : P.info? e = some i)
  (v : Value) (n : Nat) (xs : List Value) (hown : w.ownsRow base e size v n xs) (p : Option Addr) (c : Nat) :
  (Builtin.append_ #[t, t] ty #[v, .slice p 0 c]).run P w = .ok v w := by
 rcases hown.2 with ⟨rfl, rfl⟩ | ⟨g, cap, cur, rfl, _, _, hnc, _⟩
 ·cases p <;> simp [Builtin.append_, run_underlying ht, sizeOf, typeInfo, hi, Builtin.lenOf, Builtin.firstCells, loadCells, loadCellsFrom]
 ·cases p <;> simp [Builtin.append_, run_underlying ht, sizeOf, typeInfo, hi, Builtin.lenOf, Builtin.firstCells, hnc, storeCells, loadCells, loadCellsFrom]
theorem allOne_ints (k : IntKind) : ∀ ys : List Int, allOne (ys.map (.int k)) = true
 | [] => rfl
 | _ :: r => allOne_ints k r
section
variable {cx : Cx}
/-- append onto an owned row: the row that comes out is not nil. -/
theorem rn_appP (ht : TabOk cx.P cx.tab) {m m' : Mem} {t e ty : Nat} {i ti : TyI} {A : Option Addr} {cap n size : Nat} {xs : List Value} {a : Addr} {k c : Nat} {news : List Value} {K : Value → Mem → Prop}
  (hi : cx.tab.get t = some i) (hk : i.kind = .slice e) (hti : cx.tab.get e = some ti) (hz : ti.zero.length = ti.cells) (hs : ti.cells = size) (hp : (Nat.ble 1 ti.cells && Nat.ble ti.bytes 4096) = true)
  (hu : Out m (.row A cap n e size xs) m') (hl : news.length = k * size) (hnews : ∀ w, MemOk cx.w0 cx.S m w → ∀ j u, news[j]? = some u → w.cell? (a.add j) = some u) (h1 : allOne news = true)
  (hb : n + k ≤ 34359738368) (hn : 0 < n + k) (hK : ∀ g cap', n + k ≤ cap' → K (.slice (some ⟨g, 0, none⟩) (n + k) cap') (.row (some ⟨g, 0, none⟩) cap' (n + k) e size (xs ++ news) :: m')) :
  Rn cx m (Builtin.append_ #[t, t] ty #[.slice A n cap, .slice (some a) k c]) K := by
 intro w hm
 obtain ⟨v, w', m2, hr, hm2, A', cap', rfl, rfl⟩ := rn_app (cx := cx) (K := fun v m2 => ∃ A' cap', v = .slice A' (n + k) cap' ∧ m2 = (.row A' cap' (n + k) e size (xs ++ news) :: m')) ht hi hk hti hz hs hp hu hl hnews h1 hb (fun A' cap' => ⟨A', cap', rfl, rfl⟩) w hm
 have ho : w'.ownsRow 0 e size (.slice A' (n + k) cap') (n + k) (xs ++ news) := hm2.ok _ (List.mem_cons_self ..)
 rcases ho.2 with ⟨_, e2⟩ | ⟨g, c', cur, e1, _, _, h1, _⟩
 ·omega
 ·injection e1 with e1 _ e3
  subst e1 e3
  exact ⟨_, w', _, hr, hm2, hK g _ h1⟩
theorem rn_subm {m m1 : Mem} {I : Sem Value} {K : Value → Mem → Prop} (h : SubM cx m m1) (hr : Rn cx m1 I K) : Rn cx m I K := fun w hm => hr w (h w hm)
/-- append onto a row that is owned, of a slice of numbers. -/
theorem rn_appI (ht : TabOk cx.P cx.tab) {m m' : Mem} {t e ty : Nat} {i ti : TyI} {A : Option Addr} {cap n : Nat} {xs : List Value} {p : Option Addr} {c : Nat} {k : IntKind} {ys : List Int} {K : Value → Mem → Prop}
  (hi : cx.tab.get t = some i) (hk : i.kind = .slice e) (hti : cx.tab.get e = some ti) (hz : ti.zero.length = ti.cells) (hs : ti.cells = 1) (hp : (Nat.ble 1 ti.cells && Nat.ble ti.bytes 4096) = true)
  (hu : Out m (.row A cap n e 1 xs) m') (hy : ∀ w, MemOk cx.w0 cx.S m w → IntsIn k w p ys)
  (hb : n + ys.length ≤ 34359738368) (hK : ∀ A' cap', K (.slice A' (n + ys.length) cap') (.row A' cap' (n + ys.length) e 1 (xs ++ ys.map (.int k)) :: m')) :
  Rn cx m (Builtin.append_ #[t, t] ty #[.slice A n cap, .slice p ys.length c]) K := by
 by_cases h0 : ys = []
 ·subst h0
  intro w hm
  obtain ⟨inf, z, g1, g2, g3, g4, g5⟩ := TyI.zeroOf (ht _ _ hti)
  have hm1 := hm.perm hu.perm
  have hown : w.ownsRow 0 e 1 (.slice A n cap) n xs := hm1.ok _ (List.mem_cons_self ..)
  have hr := run_append_zero (P := cx.P) 0 t ty e inf 1 (TyI.sliceOf (ht _ _ hi) hk) g1 _ n xs hown p c
  have := hK A cap
  simp only [List.length_nil, Nat.add_zero, List.map_nil, List.append_nil] at this
  exact ⟨_, w, _, hr, hm1, this⟩
 ·intro w hm
  have hpos : 0 < ys.length := List.length_pos_iff.2 h0
  obtain ⟨b, o, rfl, _⟩ := hy w hm hpos
  refine rn_app (cx := cx) (news := ys.map (.int k)) (a := ⟨b, o, none⟩) (k := ys.length) (size := 1) ht hi hk hti hz hs hp hu (by simp) (fun w' hm' j u hj => ?_) ?_ hb hK w hm
  ·obtain ⟨b', o', hbo, hc⟩ := hy w' hm' hpos
   injection hbo with hbo; injection hbo with e1 e2; subst e1 e2
   rw [List.getElem?_map] at hj
   cases hys : ys[j]? with
   | none => rw [hys] at hj; cases hj
   | some y =>
    rw [hys] at hj
    injection hj with hj
    subst hj
    have hjl : j < ys.length := (List.getElem?_eq_some_iff.1 hys).1
    have := hc j hjl
    rw [List.getD, hys] at this
    rw [Addr.add_lit]
    exact this
  ·exact allOne_ints k ys
end
end Go.Proofs.YtbfbjgakmnckbaaGreatDoor
namespace Go.Proofs.YtbfbjgakmnckbaaGreatDoor
open Go Go.RowKit Eng
attribute [local irreducible] Br Rn RnU Cl RdG CpG Ld Rd Lp Dr Oth Cut fin Fits Eng.Enters Md NA
set_option maxRecDepth 100000 in
theorem num_any (n : Int) (w : World) : Calls Tryz.prog 17 #[.int .i64 n] w fun e w' => e = .returned (.int .i64 n) ∧ Fr (fun _ => False) w w' := by
 refine enter (cx := CX 4 [] w) [(0, .int .i64 n)] tab_ok Tryz.func17 rfl rfl rfl rfl (MemOk.nil w _) ?_
 conv => whnf
 (repeat ((first | refine stp (by (repeat constructor); first | done | fail) ?_ | refine stn (by (repeat constructor); first | done | fail) ?_ | refine sto (by (repeat constructor); first | done | fail) (by first | omega | (simp only; omega)) ?_ | refine .mk fun Ap capp => ?_ | refine ⟨?_, trivial⟩ | intro _); conv => whnf))
 exact fin1 rfl rfl (fun w' hm => ⟨rfl, hm.fr⟩)
theorem num_enters : Eng.Enters Tryz.prog 17 := enters_mk fun _ _ => by kernel_rfl
end Go.Proofs.YtbfbjgakmnckbaaGreatDoor
namespace Go.Proofs.YtbfbjgakmnckbaaGreatDoor
open Go Go.RowKit Eng
theorem itoa_dig (n : Nat) (h : n < 10) : Lib.itoa (n : Int) = [UInt8.ofNat (48 + n)] := by
 rw [Lib.itoa, if_neg (by omega), Lib.decDigits, dif_pos (by omega)]; rfl
def actW1 : PAct := { nilAct 5 with name := Str [97], at_ := 3, bytes := [0, 255] }
def actF2 : PAct := { nilAct 24 with fk := 2, keep := 2 }
def lineF2 : List UInt8 := [102, 97, 116, 101, 32, 102, 117, 108, 108, 32, 50]
def lineR7 : List UInt8 := [114, 101, 97, 100, 32, 97, 32, 49, 32, 48, 55]
theorem actW1_may : mayB actW1 = true := by decide
theorem actF2_may : mayB actF2 = true := by decide
theorem actF2_ok : actF2.Ok := { nilAct_ok (k := 24) (by omega) with fk := by decide, keep := by decide }
theorem actW1_ok : actW1.Ok := { nilAct_ok (k := 5) (by omega) with name := by decide, at_ := by decide, bytes := by decide }
theorem actW1_line : lineL actW1 = [119, 114, 105, 116, 101, 32, 97, 32, 51, 32, 48, 48, 102, 102] := by
 have h3 : letS 65 actW1 = [51] := itoa_dig 3 (by omega)
 have : lineW actW1 = [wordL 5, letS 97 actW1, letS 65 actW1, letS 120 actW1] := rfl
 rw [lineL, this, h3]; rfl
theorem actF2_line : lineL actF2 = lineF2 := by
 have h3 : Lib.itoa actF2.keep = [50] := itoa_dig 2 (by omega)
 have : lineW actF2 = [wordL 24, wFull, Lib.itoa actF2.keep] := rfl
 rw [lineL, this, h3]; rfl
theorem readF2 : readF lineF2 = some actF2 := readF_some actF2_ok actF2_may actF2_line
theorem readR7 : readF lineR7 = none := readF_none fun a ha hmay h => by
 have hw := words_of hmay h
 have hws : wordsL lineR7 = [wordL 4, [97], [49], [48, 55]] := by decide
 rw [hws] at hw
 obtain ⟨h1, h2⟩ := List.cons.inj hw
 have hk : a.kind = 4 := wordL_inj (may_kind hmay) (by omega) h1.symm
 have hr : restW a = [letS 97 a, letS 65 a, letS 78 a] ++ (fateW a ++ a.picks.map Lib.itoa) := by rw [restW, hk]; rfl
 rw [hr] at h2
 have h3 : [48, 55] = Lib.itoa a.n := (List.cons.inj (List.cons.inj (List.cons.inj h2).2).2).1
 have h4 := numF_itoa a.n ha.n
 rw [← h3] at h4
 have h7 : a.n = 7 := h4.symm.trans (by decide)
 rw [h7, show Lib.itoa 7 = [55] from itoa_dig 7 (by omega)] at h3
 exact absurd h3 (by decide)
def isNum : Lib.NumEnd Int → Bool
 | .ok _ => true
 | _ => false
theorem numW_no {w : World} {s : List UInt8} (h : isNum (Lib.parseIntB 64 s) = false) : NumW w s := fun v hv => by rw [hv] at h; cases h
theorem numW_ok {w : World} {s : List UInt8} {n : Int} (h : Lib.parseIntB 64 s = .ok n) (h0 : 0 ≤ n ∧ n < 100) : NumW w s := fun v hv => by
 rw [h] at hv
 injection hv with hv
 subst hv
 exact ⟨by omega, .inr h0⟩
theorem wordsF2 (w : World) : ∀ s ∈ wordsL lineF2, NumW w s := by
 rw [show wordsL lineF2 = [[102, 97, 116, 101], [102, 117, 108, 108], [50]] from by decide]
 intro s hs
 rcases List.mem_cons.1 hs with rfl | hs
 ·exact numW_no (by decide)
 rcases List.mem_cons.1 hs with rfl | hs
 ·exact numW_no (by decide)
 rcases List.mem_cons.1 hs with rfl | hs
 ·exact numW_ok (n := 2) (by decide) (by omega)
 ·cases hs
theorem wordsR7 (w : World) : ∀ s ∈ wordsL lineR7, NumW w s := by
 rw [show wordsL lineR7 = [[114, 101, 97, 100], [97], [49], [48, 55]] from by decide]
 intro s hs
 rcases List.mem_cons.1 hs with rfl | hs
 ·exact numW_no (by decide)
 rcases List.mem_cons.1 hs with rfl | hs
 ·exact numW_no (by decide)
 rcases List.mem_cons.1 hs with rfl | hs
 ·exact numW_ok (n := 1) (by decide) (by omega)
 rcases List.mem_cons.1 hs with rfl | hs
 ·exact numW_ok (n := 7) (by decide) (by omega)
 ·cases hs
theorem okF2 : NumsOk (wordsL lineF2) := by
 rw [show wordsL lineF2 = [[102, 97, 116, 101], [102, 117, 108, 108], [50]] from by decide]
 refine ⟨fun s hs => ?_, fun h => absurd h (by decide)⟩
 rcases List.mem_cons.1 hs with rfl | hs
 ·exact ⟨2, by decide⟩
 ·cases hs
theorem okR7 : NumsOk (wordsL lineR7) := by
 rw [show wordsL lineR7 = [[114, 101, 97, 100], [97], [49], [48, 55]] from by decide]
 refine ⟨fun s hs => ?_, fun h => absurd h (by decide)⟩
 rcases List.mem_cons.1 hs with rfl | hs
 ·exact ⟨1, by decide⟩
 rcases List.mem_cons.1 hs with rfl | hs
 ·exact ⟨7, by decide⟩
 ·cases hs
theorem numW1 (w : World) : NumAct w actW1 := ⟨⟨by decide, .inr (by decide)⟩, ⟨by decide, .inr (by decide)⟩, ⟨by decide, .inr (by decide)⟩, ⟨by decide, .inr (by decide)⟩, ⟨by decide, .inr (by decide)⟩, fun p hp => by cases hp⟩
end Go.Proofs.YtbfbjgakmnckbaaGreatDoor
namespace Go.Proofs.YtbfbjgakmnckbaaGreatDoor
open Go Go.RowKit Eng
theorem fate_eqF (ox oy : Operand) (a b c d : Int) (w : World) : (eqSem .eql 26 ox oy (.agg #[.int .i64 a, .int .i64 b]) (.agg #[.int .i64 c, .int .i64 d])).run Tryz.prog w = .ok (.bool (decide (a = c) && decide (b = d))) w := fate_eqlS _ _ _ _ _ _ w
theorem eqS_fn (ox : Operand) (sB : Nat) (w : World) : (eqSem .neq 53 ox (.const .nilFunc) (.func (.func 55) #[] #[.pointer (some ⟨sB, 0, none⟩)]) .nilFunc).run Tryz.prog w = .ok (.bool true) w := by kernel_rfl
attribute [local irreducible] Br Rn RnU Cl RdG CpG Ld Rd Lp Dr Oth Cut fin Fits Eng.Enters Md NA
theorem all_enters : Eng.Enters Tryz.prog 24 := enters_mk fun _ _ => by kernel_rfl
theorem works_enters : Eng.Enters Tryz.prog 9 := enters_mk fun _ _ => by kernel_rfl
abbrev AllM (sB : Nat) (l : List UInt8) : Mem := [.blk sB (.cells #[.string (Str l)] 9)]
set_option maxRecDepth 100000 in
/-- All makes a function that holds the text. -/
theorem All_any (l : List UInt8) (w : World) : Ctr Tryz.prog 24 [.string (Str l)] [] (fun e m' => ∃ sB, e = .returned (.func (.func 55) #[] #[.pointer (some ⟨sB, 0, none⟩)]) ∧ m' = AllM sB l) w := by
 refine enter (cx := CXS 4 [] w (Foot [])) [(0, .string (Str l))] tab_ok Tryz.func24 rfl rfl rfl rfl (MemOk.nil w _) ?_
 conv => whnf
 intro sB
 conv => whnf
 (repeat ((first | refine stp (by (repeat constructor); first | done | fail) ?_ | refine stn (by (repeat constructor); first | done | fail) ?_ | refine sto (by (repeat constructor); first | done | fail) (by first | omega | (simp only; omega)) ?_ | refine .mk fun Ap capp => ?_ | refine ⟨?_, trivial⟩ | intro _); conv => whnf))
 exact fin1 rfl rfl (fun w' hm => ⟨_, ⟨sB, rfl, rfl⟩, hm.sel (by (repeat constructor); first | done | fail)⟩)
set_option maxRecDepth 100000 in
set_option maxHeartbeats 2000000 in
theorem works_any (w : World) (hw : LW w) : Ctr Tryz.prog 9 [] [] (fun e m' => e = .returned (.bool true) ∧ m' = []) w := by
 refine enter (cx := ⟨Tryz.prog, 53, w, Foot [], tab, [], [17], [], []⟩) [] tab_ok Tryz.func9 rfl rfl rfl rfl (MemOk.nil w _) ?_
 have hF : ∀ w', Fr (Foot []) w w' → Fr (fun _ => False) w w' := fun w' hf => hf.mono (fun k _ ⟨r, hr, _⟩ => by cases hr)
 have hw' := fun w' hf => hw.fr (hF w' hf)
 conv => whnf
 intro dB
 conv => whnf
 have hby : ∀ {cx : Cx} {m : Mem} {w : World}, MemOk cx.w0 cx.S m w → Has m (.blk dB (.cells #[.int .u8 0, .int .u8 255] 5)) → BytsIn w (some ⟨dB, 0, none⟩) actW1.bytes := by
  intro cx m w hm hh hn
  refine ⟨dB, 0, rfl, fun i hi => ?_⟩
  rw [cell_of_blk (hm.ok _ hh.mem)]
  match i, hi with
  | 0, _ => rfl
  | 1, _ => rfl
 (repeat ((first | refine stp (by (repeat constructor); first | done | fail) ?_ | refine stn (by (repeat constructor); first | done | fail) ?_ | refine sto (by (repeat constructor); first | done | fail) (by first | omega | (simp only; omega)) ?_ | refine .mk fun Ap capp => ?_ | refine ⟨?_, trivial⟩ | intro _); conv => whnf))
 refine ⟨Line_enters, cl_same _ (fun w' hm' => Line_any actW1 (some ⟨dB, 0, none⟩) none 2 0 w' ⟨⟨actW1_ok, hby hm' (by (repeat constructor); first | done | fail), IntsIn.nil _ _ _⟩, numW1 w'⟩) ?_⟩
 rw [show lineS actW1 = [119, 114, 105, 116, 101, 32, 97, 32, 51, 32, 48, 48, 102, 102] from by unfold lineS; rw [actW1_line, actW1_may]; rfl, show lineE actW1 = 0 from by unfold lineE; rw [actW1_line, actW1_may]; rfl]
 conv => whnf
 (repeat ((first | refine stp (by (repeat constructor); first | done | fail) ?_ | refine stn (by (repeat constructor); first | done | fail) ?_ | refine sto (by (repeat constructor); first | done | fail) (by first | omega | (simp only; omega)) ?_ | refine .mk fun Ap capp => ?_ | refine ⟨?_, trivial⟩ | intro _); conv => whnf))
 refine ⟨Read_enters, cl_mem (m1 := []) .nil (fun w' hm' => Read_any lineF2 w' (hw' w' hm'.fr) (wordsF2 w') (.inr okF2) (by decide)) ?_⟩
 rintro e m' ⟨bA, pA, bc, pc, rfl, rfl⟩
 rw [show readA lineF2 = actF2 from by rw [readA, if_neg (by decide), readF2]; rfl, show readE lineF2 = 0 from by rw [readE, if_neg (by decide), readF2]; rfl]
 conv => whnf
 (repeat ((first | refine stp (by (repeat constructor); first | done | fail) ?_ | refine stn (by (repeat constructor); first | done | fail) ?_ | refine sto (by (repeat constructor); first | done | fail) (by first | omega | (simp only; omega)) ?_ | refine .mk fun Ap capp => ?_ | refine ⟨?_, trivial⟩ | intro _); conv => whnf))
 refine ⟨Read_enters, cl_mem (m1 := []) .nil (fun w' hm' => Read_any lineR7 w' (hw' w' hm'.fr) (wordsR7 w') (.inr okR7) (by decide)) ?_⟩
 rintro e m' ⟨bA', pA', bc', pc', rfl, rfl⟩
 rw [show readA lineR7 = nilAct 0 from by rw [readA, if_neg (by decide), readR7]; rfl, show readE lineR7 = 410 from by rw [readE, if_neg (by decide), readR7]; rfl]
 conv => whnf
 (repeat ((first | refine stp (by (repeat constructor); first | done | fail) ?_ | refine stn (by (repeat constructor); first | done | fail) ?_ | refine sto (by (repeat constructor); first | done | fail) (by first | omega | (simp only; omega)) ?_ | refine .mk fun Ap capp => ?_ | refine ⟨?_, trivial⟩ | intro _); conv => whnf))
 (repeat ((first | refine ⟨_, cpg num_enters (fun _ w' hm => (num_any _ w').mono (fun e w'' h => ⟨h.1, h.2⟩)), ?_⟩ | refine ⟨num_enters, cl_same _ (fun w' _ => num_any _ w') ?_⟩ | refine ⟨_, Rd.g (rd_all fun w => fate_eqlS _ _ _ _ _ _ w), ?_⟩ | refine stp (by (repeat constructor); first | done | fail) ?_ | refine stn (by (repeat constructor); first | done | fail) ?_ | refine sto (by (repeat constructor); first | done | fail) (by first | omega | (simp only; omega)) ?_ | refine .mk fun Ap capp => ?_ | refine ⟨?_, trivial⟩ | intro _); conv => whnf))
 refine br_t (by decide) ?_
 conv => whnf
 (repeat ((first | refine ⟨_, cpg num_enters (fun _ w' hm => num_any _ w'), ?_⟩ | refine ⟨num_enters, cl_same _ (fun w' _ => num_any _ w') ?_⟩ | refine ⟨_, Rd.g (rd_all fun w => fate_eqlS _ _ _ _ _ _ w), ?_⟩ | refine br_t (by decide) ?_ | refine stp (by (repeat constructor); first | done | fail) ?_ | refine stn (by (repeat constructor); first | done | fail) ?_ | refine sto (by (repeat constructor); first | done | fail) (by first | omega | (simp only; omega)) ?_ | refine .mk fun Ap capp => ?_ | refine ⟨?_, trivial⟩ | intro _); conv => whnf))
 refine Rd.n (rd_all fun w => fate_eqlS _ _ 2 2 2 2 w) ?_
 conv => whnf
 (repeat ((first | refine ⟨_, cpg num_enters (fun _ w' hm => num_any _ w'), ?_⟩ | refine ⟨num_enters, cl_same _ (fun w' _ => num_any _ w') ?_⟩ | refine br_t (by decide) ?_ | refine stp (by (repeat constructor); first | done | fail) ?_ | refine stn (by (repeat constructor); first | done | fail) ?_ | refine sto (by (repeat constructor); first | done | fail) (by first | omega | (simp only; omega)) ?_ | refine .mk fun Ap capp => ?_ | refine ⟨?_, trivial⟩ | intro _); conv => whnf))
 refine ⟨all_enters, cl_mem (m1 := []) .nil (fun w' _ => All_any [] w') ?_⟩
 rintro e m' ⟨sB, rfl, rfl⟩
 conv => whnf
 (repeat ((first | refine stp (by (repeat constructor); first | done | fail) ?_ | refine stn (by (repeat constructor); first | done | fail) ?_ | refine sto (by (repeat constructor); first | done | fail) (by first | omega | (simp only; omega)) ?_ | refine .mk fun Ap capp => ?_ | refine ⟨?_, trivial⟩ | intro _); conv => whnf))
 refine Rd.n (rd_all fun w => eqS_fn _ sB w) ?_
 conv => whnf
 (repeat ((first | refine stp (by (repeat constructor); first | done | fail) ?_ | refine stn (by (repeat constructor); first | done | fail) ?_ | refine sto (by (repeat constructor); first | done | fail) (by first | omega | (simp only; omega)) ?_ | refine .mk fun Ap capp => ?_ | refine ⟨?_, trivial⟩ | intro _); conv => whnf))
 refine fin1 rfl rfl (fun w' hm => ⟨_, ⟨?_, rfl⟩, hm.sel .nil⟩)
 rfl
end Go.Proofs.YtbfbjgakmnckbaaGreatDoor
namespace Go.Proofs.YtbfbjgakmnckbaaGreatDoor
open Go Go.RowKit Eng
section
variable {cx : Cx} {r : Option Nat} {n : Nat} {ops : Array Oper} {Q : Exit → Go.Act → World → Prop} {a : Go.Act} {w : World} {e : Env} {m m' : Mem}
theorem onIn {F : Fence} {P : Program} {o : Oper} {rest : List Oper} (hw : Region.wanted o (yielded ops a.tmps) = true) (h : o.wpIn F n P a w (wpListIn F n P ops Q rest) Q) : wpListIn F n P ops Q (o :: rest) a w := by
 rw [wpListIn, if_pos hw]; exact h
theorem stepIn {o : Oper} {rest : List Oper} {V : Value} (ht : TabOk cx.P cx.tab) (he : EnvOk cx.n cx.df e a) (hm : MemOk cx.w0 cx.S m w) (hw : Region.wanted o (yielded ops a.tmps) = true) (hd : ∀ c, o.op ≠ .defer c) (hds : o.dst.all (fun i => decide (i < cx.n)) = true)
  (hx : XO cx o.dst o.op o.type e m (fun v m1 => v = V ∧ m1 = m') (fun _ _ => False)) (hk : ∀ a' w', EnvOk cx.n cx.df (e.putD o.dst V) a' → MemOk cx.w0 cx.S m' w' → wpListIn (wr r) n cx.P ops Q rest a' w') : wpListIn (wr r) n cx.P ops Q (o :: rest) a w :=
 onIn hw (op_wr hd (fun _ _ h => h) (XO_ok ht he hm hx (fun v m1 w' hm' ⟨hv, hm1⟩ => by subst hv hm1; exact hk _ w' (he.put hds _) hm') (fun _ _ _ _ h => h.elim)))
theorem yieldIn {P : Program} {D : List Deferred} {nn : Nat} {o : Oper} {rest : List Oper} {l : Nat} {f : Operand} {args : Array Operand} {tys : Array Nat} {vs : List Value} {R : Ending → World → Prop} (he : EnvOk nn D e a) (hw : Region.wanted o (yielded ops a.tmps) = true)
  (ho : o.op = .call ⟨.value f, args, tys⟩) (hf : e.ev f = some (.func (.yield l) #[] #[])) (ha : Env.evs e args.toList = some vs) (hY : YieldAt Fence.wide 0 P l vs.toArray w R) (hds : o.dst.all (fun i => decide (i < nn)) = true) (hk : ∀ en w', R en w' → ∃ v, en = .returned v ∧ ∀ a', EnvOk nn D (e.putD o.dst v) a' → wpListIn (wr none) 1 P ops Q rest a' w') : wpListIn (wr none) 1 P ops Q (o :: rest) a w := by
 obtain ⟨fn, tmps, assign, body, hy, hR⟩ := hY
 refine onIn hw ⟨fun _ _ => trivial, ?_⟩
 rw [show (wr none).round = none from rfl, Oper.semAt_eq _ _ _ (by intro c h; rw [ho] at h; cases h), exec_yield he ho hf ha hy]
 refine ⟨fun h => (by cases h), hR.mono ?_⟩
 intro e w' h
 obtain ⟨v, rfl, hk⟩ := hk _ w' h
 exact hk _ (he.put hds _)
end
attribute [local irreducible] Br Rn RnU Cl RdG CpG Ld Rd Lp Dr Oth Cut fin Fits Eng.Enters Md NA
/-- Lines, all alike. -/
def flT : Nat → List UInt8
 | 0 => []
 | k + 1 => [102, 108, 117, 115, 104, 32, 97, 10] ++ flT k
theorem flT_len : ∀ k, (flT k).length = 8 * k
 | 0 => rfl
 | k + 1 => by rw [flT, List.length_append, flT_len k]; simp; omega
def lineA : List UInt8 := [102, 108, 117, 115, 104, 32, 97]
def actA : PAct := { nilAct 8 with name := Str [97] }
theorem actA_may : mayB actA = true := by decide
theorem actA_ok : actA.Ok := { nilAct_ok (k := 8) (by omega) with name := by decide }
theorem actA_line : lineL actA = lineA := by
 have : lineW actA = [wordL 8, letS 97 actA] := rfl
 rw [lineL, this]; rfl
theorem readAA : readF lineA = some actA := readF_some actA_ok actA_may actA_line
theorem wordsA : wordsL lineA = [[102, 108, 117, 115, 104], [97]] := by decide
theorem numA (w : World) : ∀ s ∈ wordsL lineA, NumW w s := by
 rw [wordsA]
 intro s hs
 rcases List.mem_cons.1 hs with rfl | hs
 ·exact numW_no (by decide)
 rcases List.mem_cons.1 hs with rfl | hs
 ·exact numW_no (by decide)
 ·cases hs
theorem okA : NumsOk (wordsL lineA) := by
 rw [wordsA]
 exact ⟨fun s hs => (by cases hs), fun h => absurd h (by decide)⟩
theorem cutA10 (k : Nat) : Lib.cut (flT (k + 1)) [10] = (lineA, flT k, true) := by
 have hi : Lib.index (flT (k + 1)) [10] = 7 := by
  simp [flT, Lib.index]
 rw [Lib.cut, hi]
 rfl
theorem all1_enters : Eng.Enters Tryz.prog 55 := enters_mk fun _ _ => by kernel_rfl
theorem scut_enters : Eng.Enters Tryz.prog 56 := enters_mk fun _ _ => by kernel_rfl
theorem bs_Str' (l : List UInt8) : (Str l).data.toList = l := rfl
attribute [local irreducible] flT
set_option maxRecDepth 100000 in
set_option maxHeartbeats 20000000 in
/-- All's function, over 65536 like lines: whatever the rounds keep, so each goes on. -/
theorem all1_any {γ : Type} (N : Nat) (hN : N = 65536) (J : Nat → γ → Mem) (g0 : γ) (l sB : Nat) (w : World) (hw : LW w) (hm : MemOk w (Foot (.blk sB (.cells #[.string (Str (flT N))] 9) :: J 0 g0)) (.blk sB (.cells #[.string (Str (flT N))] 9) :: J 0 g0) w)
  (hlw : ∀ w', Fr (Foot (.blk sB (.cells #[.string (Str (flT N))] 9) :: J 0 g0)) w w' → LW w')
  (hround : ∀ (i : Nat) (g : γ) (bA pA : Option Addr) (bc pc : Nat) (w' : World), i < N → MemOk w (Foot (.blk sB (.cells #[.string (Str (flT N))] 9) :: J 0 g0)) (J i g) w' →
   YieldAt Fence.wide 0 Tryz.prog l #[.int .i64 (i : Nat), .agg (actL actA bA bc pA pc).toArray] w' fun e w'' => e = .returned (.bool true) ∧ ∃ g', MemOk w (Foot (.blk sB (.cells #[.string (Str (flT N))] 9) :: J 0 g0)) (J (i + 1) g') w'') :
  Calls Tryz.prog 55 #[.func (.yield l) #[] #[], .pointer (some ⟨sB, 0, none⟩)] w fun e w' => (∃ v, e = .returned v) ∧ ∃ g, MemOk w (Foot (.blk sB (.cells #[.string (Str (flT N))] 9) :: J 0 g0)) (J N g) w' := by
 generalize hS : Foot (.blk sB (.cells #[.string (Str (flT N))] 9) :: J 0 g0) = S at hm hlw hround ⊢
 have hfl := flT_len
 refine enter (cx := ⟨Tryz.prog, 41, w, S, tab, [], [], [8], []⟩) [(0, .func (.yield l) #[] #[]), (1, .pointer (some ⟨sB, 0, none⟩))] tab_ok Tryz.func55 rfl rfl rfl rfl hm ?_
 conv => whnf
 (repeat ((first | refine stp (by (repeat constructor); first | done | fail) ?_ | refine stn (by (repeat constructor); first | done | fail) ?_ | refine sto (by (repeat constructor); first | done | fail) (by first | omega | (simp only; omega)) ?_ | refine .mk fun Ap capp => ?_ | refine ⟨?_, trivial⟩ | intro _); conv => whnf))
 have hsz := Str.size (flT N)
 have h65 := hfl N
 refine oth_scope tab_ok ?_
 conv => whnf
 (repeat ((first | refine stp (by (repeat constructor); first | done | fail) ?_ | refine stn (by (repeat constructor); first | done | fail) ?_ | refine sto (by (repeat constructor); first | done | fail) (by first | omega | (simp only; omega)) ?_ | refine .mk fun Ap capp => ?_ | refine ⟨?_, trivial⟩ | intro _); conv => whnf))
 refine br_f (decide_eq_false (by omega)) ?_
 conv => whnf
 (repeat ((first | refine stp (by (repeat constructor); first | done | fail) ?_ | refine stn (by (repeat constructor); first | done | fail) ?_ | refine sto (by (repeat constructor); first | done | fail) (by first | omega | (simp only; omega)) ?_ | refine .mk fun Ap capp => ?_ | refine ⟨?_, trivial⟩ | intro _); conv => whnf))
 refine lp tab_ok (γ := Nat × γ) (fun g => g.1 ≤ N) (fun g => [(14, .int .i64 g.1), (0, .func (.yield l) #[] #[]), (3, .string (Str (flT (N - g.1))))]) (fun g => J g.1 g.2) (fun g => N - g.1) (0, g0) (by simp) ⟨rfl, rfl, rfl, trivial⟩ (fun w hm => hm.tail) ?_
 rintro ⟨i, g⟩ hi
 simp only at hi
 change XC _ _ _ [(14, .int .i64 (i : Int)), (0, .func (.yield l) #[] #[]), (3, .string (Str (flT (N - i))))] (J i g)
 conv => whnf
 refine br_d (fun hlt => ?_) (fun hge => ?_)
 ·have hlt' : i < N := by omega
  obtain ⟨k, hk⟩ : ∃ k, N - i = k + 1 := ⟨N - i - 1, by omega⟩
  have hk2 : N - (i + 1) = k := by omega
  rw [hk]
  have hkl := hfl (k + 1)
  have hks := Str.size (flT (k + 1))
  conv => whnf
  (repeat ((first | refine stp (by (repeat constructor); first | done | fail) ?_ | refine stn (by (repeat constructor); first | done | fail) ?_ | refine sto (by (repeat constructor); first | done | fail) (by first | omega | (simp only; omega)) ?_ | refine .mk fun Ap capp => ?_ | refine ⟨?_, trivial⟩ | intro _); conv => whnf))
  refine ⟨scut_enters, cl_same (.tuple #[.string (Str lineA), .string (Str (flT k)), .bool true]) (fun w' hm' => ?_) ?_⟩
  ·obtain ⟨mx, hmx⟩ := (hlw w' hm'.fr).ml
   refine (Tryz.strings_Cut (Str (flT (k + 1))) (Str [10]) mx w' (by omega) hmx).mono ?_
   rintro e w2 ⟨he, n, rfl⟩
   rw [bs_Str', bs_Str', cutA10] at he
   exact ⟨he, (Fr.refl _ _).drewN n⟩
  conv => whnf
  (repeat ((first | refine stp (by (repeat constructor); first | done | fail) ?_ | refine stn (by (repeat constructor); first | done | fail) ?_ | refine sto (by (repeat constructor); first | done | fail) (by first | omega | (simp only; omega)) ?_ | refine .mk fun Ap capp => ?_ | refine ⟨?_, trivial⟩ | intro _); conv => whnf))
  refine br_f rfl ?_
  conv => whnf
  (repeat ((first | refine stp (by (repeat constructor); first | done | fail) ?_ | refine stn (by (repeat constructor); first | done | fail) ?_ | refine sto (by (repeat constructor); first | done | fail) (by first | omega | (simp only; omega)) ?_ | refine .mk fun Ap capp => ?_ | refine ⟨?_, trivial⟩ | intro _); conv => whnf))
  refine ⟨Read_enters, cl_mem (m1 := []) .nil (fun w' hm' => Read_any lineA w' (hlw w' hm'.fr) (numA w') (.inr okA) (by decide)) ?_⟩
  rintro e m' ⟨bA, pA, bc, pc, rfl, rfl⟩
  rw [show readA lineA = actA from by rw [readA, if_neg (by decide), readAA]; rfl, show readE lineA = 0 from by rw [readE, if_neg (by decide), readAA]; rfl]
  conv => whnf
  intro aB
  conv => whnf
  (repeat ((first | refine stp (by (repeat constructor); first | done | fail) ?_ | refine stn (by (repeat constructor); first | done | fail) ?_ | refine sto (by (repeat constructor); first | done | fail) (by first | omega | (simp only; omega)) ?_ | refine .mk fun Ap capp => ?_ | refine ⟨?_, trivial⟩ | intro _); conv => whnf))
  refine cutX2 tab_ok (γ := γ) (e' := [(38, .bool false), (0, .func (.yield l) #[] #[]), (6, .string (Str (flT k))), (14, .int .i64 (i : Int))]) (m' := fun g' => J (i + 1) g') ?_ (fun g' => ?_)
  ·intro a w1 he hm1
   have he := he.sub (e' := [(9, .int .i64 0), (0, .func (.yield l) #[] #[]), (4, .int .i64 (i : Int)), (8, .pointer (some ⟨aB, 0, none⟩)), (6, .string (Str (flT k))), (14, .int .i64 (i : Int))]) ⟨rfl, rfl, rfl, rfl, rfl, rfl, trivial⟩
   rw [← wpIn_wide (n := 1)]
   refine wpIn_region_list ?_
   refine stepIn (r := none) (V := .int .i64 0) tab_ok he hm1 (wanted_none rfl) (by intro c h; cases h) rfl (by (conv => whnf); exact ⟨rfl, rfl⟩) ?_
   intro a w1 he hm1
   refine stepIn (r := none) (V := .bool false) tab_ok he hm1 (wanted_none rfl) (by intro c h; cases h) rfl (by (conv => whnf); exact ⟨rfl, rfl⟩) ?_
   intro a w1 he hm1
   refine stepIn (r := none) (V := .bool false) tab_ok he hm1 (wanted_none rfl) (by intro c h; cases h) rfl (by (conv => whnf); exact ⟨rfl, rfl⟩) ?_
   intro a w1 he hm1
   refine stepIn (r := none) (V := .func (.yield l) #[] #[]) tab_ok he hm1 ((wanted_of he rfl rfl rfl).trans rfl) (by intro c h; cases h) rfl (by (conv => whnf); exact ⟨rfl, rfl⟩) ?_
   intro a w1 he hm1
   refine stepIn (r := none) (V := .int .i64 (i : Int)) tab_ok he hm1 ((wanted_of he rfl rfl rfl).trans rfl) (by intro c h; cases h) rfl (by (conv => whnf); exact ⟨rfl, rfl⟩) ?_
   intro a w1 he hm1
   refine stepIn (r := none) (V := .agg (actL actA bA bc pA pc).toArray) tab_ok he hm1 ((wanted_of he rfl rfl rfl).trans rfl) (by intro c h; cases h) rfl (by (conv => whnf); exact rn_load (ldN tab_ok .here rfl rfl rfl rfl) ⟨rfl, rfl⟩) ?_
   intro a w1 he hm1
   have hm7b : MemOk w S (J i g) w1 := (MemOk.tail hm1).sublist (List.sublist_append_right _ _)
   refine yieldIn (vs := [.int .i64 (i : Int), .agg (actL actA bA bc pA pc).toArray]) he ((wanted_of he rfl rfl rfl).trans rfl) rfl rfl rfl (hround i g bA pA bc pc w1 hlt' hm7b) rfl ?_
   rintro en w1 ⟨rfl, g', hm1⟩
   refine ⟨_, rfl, fun a he => ?_⟩
   refine stepIn (r := none) (cx := ⟨Tryz.prog, 41, w, S, tab, [], [], [8], []⟩) (m := J (i + 1) g') (V := .bool false) tab_ok he hm1 ((wanted_of he rfl rfl rfl).trans rfl) (by intro c h; cases h) rfl (by (conv => whnf); exact ⟨rfl, rfl⟩) ?_
   intro a w1 he hm1
   refine stepIn (r := none) (cx := ⟨Tryz.prog, 41, w, S, tab, [], [], [8], []⟩) (m := J (i + 1) g') (V := .bool false) tab_ok he hm1 (wanted_none rfl) (by intro c h; cases h) rfl (by (conv => whnf); exact ⟨rfl, rfl⟩) ?_
   intro a w1 he hm1
   exact ⟨rfl, he.sub ⟨rfl, rfl, rfl, rfl, trivial⟩, g', hm1⟩
  ·conv => whnf
   (repeat ((first | refine stp (by (repeat constructor); first | done | fail) ?_ | refine stn (by (repeat constructor); first | done | fail) ?_ | refine sto (by (repeat constructor); first | done | fail) (by first | omega | (simp only; omega)) ?_ | refine .mk fun Ap capp => ?_ | refine ⟨?_, trivial⟩ | intro _); conv => whnf))
   refine br_f rfl ?_
   conv => whnf
   (repeat ((first | refine stp (by (repeat constructor); first | done | fail) ?_ | refine stn (by (repeat constructor); first | done | fail) ?_ | refine sto (by (repeat constructor); first | done | fail) (by first | omega | (simp only; omega)) ?_ | refine .mk fun Ap capp => ?_ | refine ⟨?_, trivial⟩ | intro _); conv => whnf))
   exact ⟨(i + 1, g'), by simp only; omega, by simp only; omega, ⟨rfl, rfl, by rw [hk2]; rfl, trivial⟩, SubM.refl _ _⟩
 ·have hil : i = N := by omega
  subst hil
  conv => whnf
  (repeat ((first | refine stp (by (repeat constructor); first | done | fail) ?_ | refine stn (by (repeat constructor); first | done | fail) ?_ | refine sto (by (repeat constructor); first | done | fail) (by first | omega | (simp only; omega)) ?_ | refine .mk fun Ap capp => ?_ | refine ⟨?_, trivial⟩ | intro _); conv => whnf))
  exact fin0 rfl (fun w' hm => ⟨⟨_, rfl⟩, g, hm⟩) (by first | exact .inr rfl | exact .inl rfl)
end Go.Proofs.YtbfbjgakmnckbaaGreatDoor
namespace Go.Proofs.YtbfbjgakmnckbaaGreatDoor
open Go Go.RowKit Eng
attribute [local irreducible] Br Rn RnU Cl RdG CpG Ld Rd Lp Dr Oth Cut fin Fits Eng.Enters Md NA
/-- How many acts are of a kind. -/
def countK (k : Int) (L : List LA) : Nat := L.countP fun x => decide (x.a.kind = k)
theorem countK_succ {k : Int} {L : List LA} {i : Nat} {x : LA} (hi : L[i]? = some x) : countK k (L.take (i + 1)) = countK k (L.take i) + (if x.a.kind = k then 1 else 0) := by
 have hlt := (List.getElem?_eq_some_iff.1 hi).1
 have : L.take (i + 1) = L.take i ++ [x] := by rw [List.take_add_one, hi]; rfl
 unfold countK
 rw [this, List.countP_append]
 simp [List.countP_cons]
theorem count_enters : Eng.Enters Tryz.prog 30 := enters_mk fun _ _ => by kernel_rfl
set_option maxRecDepth 100000 in
theorem count_any (k : Int) (A : Option Addr) (c : Nat) (L : List LA) (w : World) (hL : ActsIn w A L) (hn : L.length ≤ 1048576) :
  Calls Tryz.prog 30 #[.int .i64 k, .slice A L.length c] w fun e w' => e = .returned (.int .i64 (countK k L : Nat)) ∧ Fr (fun _ => False) w w' := by
 refine enter (cx := CX 22 [] w) [(0, .int .i64 k), (1, .slice A L.length c)] tab_ok Tryz.func30 rfl rfl rfl rfl (MemOk.nil w _) ?_
 conv => whnf
 refine lp tab_ok (γ := Nat) (fun i => i ≤ L.length) (fun i => [(10, .int .i64 i), (8, .slice A L.length c), (9, .int .i64 L.length), (0, .int .i64 k), (5, .int .i64 (countK k (L.take i) : Nat))]) (fun _ => []) (fun i => L.length - i) 0 (by omega) ⟨rfl, rfl, rfl, rfl, rfl, trivial⟩ (SubM.refl _ _) ?_
 intro i hi
 change XC _ _ _ [(10, .int .i64 (i : Int)), (8, .slice A L.length c), (9, .int .i64 L.length), (0, .int .i64 k), (5, .int .i64 (countK k (L.take i) : Nat))] []
 conv => whnf
 refine br_d (fun hlt => ?_) (fun hge => ?_)
 ·have hlt' : i < L.length := by omega
  have hx := List.getElem?_eq_getElem hlt'
  have hpl := hL.plain (by omega)
  conv => whnf
  refine And.intro ⟨by omega, by omega, hpl⟩ ?_
  conv => whnf
  refine rn_load (hL.ld rfl rfl (fun _ h => h) hx) ?_
  conv => whnf
  intro xB
  conv => whnf
  (repeat ((first | refine stp (by (repeat constructor); first | done | fail) ?_ | refine stn (by (repeat constructor); first | done | fail) ?_ | refine sto (by (repeat constructor); first | done | fail) (by first | omega | (simp only; omega)) ?_ | refine .mk fun Ap capp => ?_ | refine ⟨?_, trivial⟩ | intro _); conv => whnf))
  have hc := (List.countP_le_length (p := fun x => decide (x.a.kind = k)) (l := L.take i))
  rw [List.length_take] at hc
  have hc : countK k (L.take i) ≤ min i L.length := hc
  refine br_d (fun hb => ?_) (fun hb => ?_)
  ·conv => whnf
   (repeat ((first | refine stp (by (repeat constructor); first | done | fail) ?_ | refine stn (by (repeat constructor); first | done | fail) ?_ | refine sto (by (repeat constructor); first | done | fail) (by first | omega | (simp only; omega)) ?_ | refine .mk fun Ap capp => ?_ | refine ⟨?_, trivial⟩ | intro _); conv => whnf))
   exact ⟨i + 1, by omega, by omega, ⟨rfl, rfl, rfl, rfl, by rw [countK_succ hx, if_pos hb]; rfl, trivial⟩, SubM.sub (List.nil_sublist _)⟩
  ·conv => whnf
   (repeat ((first | refine stp (by (repeat constructor); first | done | fail) ?_ | refine stn (by (repeat constructor); first | done | fail) ?_ | refine sto (by (repeat constructor); first | done | fail) (by first | omega | (simp only; omega)) ?_ | refine .mk fun Ap capp => ?_ | refine ⟨?_, trivial⟩ | intro _); conv => whnf))
   exact ⟨i + 1, by omega, by omega, ⟨rfl, rfl, rfl, rfl, by rw [countK_succ hx, if_neg hb]; rfl, trivial⟩, SubM.sub (List.nil_sublist _)⟩
 ·conv => whnf
  refine fin1 rfl rfl (fun w' hm => ⟨?_, hm.fr⟩)
  rw [show L.take i = L from List.take_of_length_le (by omega)]
theorem spoil_enters : Eng.Enters Tryz.prog 33 := enters_mk fun _ _ => by kernel_rfl
/-- The rows of an act that may be written over. -/
abbrev SpB (x : LA) (bs : List Value) : Res := .row x.bA x.bc x.a.bytes.length 5 1 bs
abbrev SpP (x : LA) (ps : List Value) : Res := .row x.pA x.pc x.a.picks.length 3 1 ps
set_option maxRecDepth 100000 in
theorem spoil_any (x : LA) (hx : x.a.Ok) (w : World) (m : Mem) (hm' : m = [SpB x ((numsOf x.a.bytes).map (.int .u8)), SpP x (x.a.picks.map (.int .i64))]) (hm : MemOk w (Foot m) m w) :
  Ctr Tryz.prog 33 [x.val] m (fun e m' => e = .returned (.tuple #[]) ∧ m' = []) w := by
 have hb := hx.bytes
 have hp := hx.picks
 subst hm'
 have hplB : 0 < x.a.bytes.length → Pl x.bA := fun h => by
  obtain ⟨b, e, _⟩ := row_cell (hm.ok _ (List.mem_cons_self ..)) (j := 0) (v := .int .u8 ((numsOf x.a.bytes).getD 0 0)) (by simp [List.getD, numsOf_length, h])
  exact ⟨b, 0, e⟩
 have hplP : 0 < x.a.picks.length → Pl x.pA := fun h => by
  obtain ⟨b, e, _⟩ := row_cell (hm.ok _ (List.mem_cons_of_mem _ (List.mem_cons_self ..))) (j := 0) (v := .int .i64 (x.a.picks.getD 0 0)) (by simp [List.getD, h])
  exact ⟨b, 0, e⟩
 refine enter (cx := CXS 29 [] w (Foot [SpB x ((numsOf x.a.bytes).map (.int .u8)), SpP x (x.a.picks.map (.int .i64))])) [(0, x.val)] tab_ok Tryz.func33 rfl rfl rfl rfl hm ?_
 conv => whnf
 intro xB
 conv => whnf
 refine lp tab_ok (γ := Nat × List Int) (fun g => g.1 ≤ x.a.bytes.length ∧ g.2.length = x.a.bytes.length) (fun g => [(2, .int .i64 g.1), (1, .pointer (some ⟨xB, 0, none⟩))]) (fun g => [SpB x (g.2.map (.int .u8)), .blk xB (.cells x.cells.toArray 29), SpP x (x.a.picks.map (.int .i64))]) (fun g => x.a.bytes.length - g.1) (0, numsOf x.a.bytes) ⟨by simp, by simp [numsOf_length]⟩ ⟨rfl, rfl, trivial⟩ (SubM.sel (by (repeat constructor); first | done | fail)) ?_
 ·rintro ⟨i, ns⟩ ⟨hi, hl⟩
  simp only at hi hl
  change XC _ _ _ [(2, .int .i64 (i : Int)), (1, .pointer (some ⟨xB, 0, none⟩))] [SpB x (ns.map (.int .u8)), .blk xB (.cells x.cells.toArray 29), SpP x (x.a.picks.map (.int .i64))]
  conv => whnf
  (repeat ((first | refine stp (by (repeat constructor); first | done | fail) ?_ | refine stn (by (repeat constructor); first | done | fail) ?_ | refine sto (by (repeat constructor); first | done | fail) (by first | omega | (simp only; omega)) ?_ | refine .mk fun Ap capp => ?_ | refine ⟨?_, trivial⟩ | intro _); conv => whnf))
  refine br_d (fun hlt => ?_) (fun hge => ?_)
  ·have hlt' : i < x.a.bytes.length := by omega
   have hg : (ns.map (Value.int .u8))[i]? = some (.int .u8 (ns.getD i 0)) := by simp [List.getD, List.getElem?_map, List.getElem?_eq_getElem (show i < ns.length by omega)]
   conv => whnf
   (repeat ((first | refine stp (by (repeat constructor); first | done | fail) ?_ | refine stn (by (repeat constructor); first | done | fail) ?_ | refine sto (by (repeat constructor); first | done | fail) (by first | omega | (simp only; omega)) ?_ | refine .mk fun Ap capp => ?_ | refine ⟨?_, trivial⟩ | intro _); conv => whnf))
   refine And.intro ⟨by omega, by omega, hplB (by omega)⟩ ?_
   conv => whnf
   refine rn_load (ldR tab_ok .here rfl rfl hg) ?_
   conv => whnf
   (repeat ((first | refine stp (by (repeat constructor); first | done | fail) ?_ | refine stn (by (repeat constructor); first | done | fail) ?_ | refine sto (by (repeat constructor); first | done | fail) (by first | omega | (simp only; omega)) ?_ | refine .mk fun Ap capp => ?_ | refine ⟨?_, trivial⟩ | intro _); conv => whnf))
   refine And.intro ⟨by omega, by omega, hplB (by omega)⟩ ?_
   conv => whnf
   refine rn_storeR (off := i) (xs' := (ns.set i (bits .xor .u8 (ns.getD i 0) 255)).map (.int .u8)) tab_ok rfl .here rfl rfl (by show i + 1 ≤ x.a.bytes.length * 1; omega) (Nat.one_pos) (by rw [List.map_set]; rfl) ?_
   conv => whnf
   (repeat ((first | refine stp (by (repeat constructor); first | done | fail) ?_ | refine stn (by (repeat constructor); first | done | fail) ?_ | refine sto (by (repeat constructor); first | done | fail) (by first | omega | (simp only; omega)) ?_ | refine .mk fun Ap capp => ?_ | refine ⟨?_, trivial⟩ | intro _); conv => whnf))
   exact ⟨(i + 1, ns.set i (bits .xor .u8 (ns.getD i 0) 255)), ⟨by simp; omega, by simp [hl]⟩, by simp; omega, ⟨rfl, rfl, trivial⟩, SubM.refl _ _⟩
  ·conv => whnf
   (repeat ((first | refine stp (by (repeat constructor); first | done | fail) ?_ | refine stn (by (repeat constructor); first | done | fail) ?_ | refine sto (by (repeat constructor); first | done | fail) (by first | omega | (simp only; omega)) ?_ | refine .mk fun Ap capp => ?_ | refine ⟨?_, trivial⟩ | intro _); conv => whnf))
   refine lp tab_ok (γ := Nat × List Int) (fun g => g.1 ≤ x.a.picks.length ∧ g.2.length = x.a.picks.length) (fun g => [(3, .int .i64 g.1), (1, .pointer (some ⟨xB, 0, none⟩))]) (fun g => [SpP x (g.2.map (.int .i64)), .blk xB (.cells x.cells.toArray 29)]) (fun g => x.a.picks.length - g.1) (0, x.a.picks) ⟨by simp, rfl⟩ ⟨rfl, rfl, trivial⟩ (SubM.sel (by (repeat constructor); first | done | fail)) ?_
   rintro ⟨j, ps⟩ ⟨hj, hpl⟩
   simp only at hj hpl
   change XC _ _ _ [(3, .int .i64 (j : Int)), (1, .pointer (some ⟨xB, 0, none⟩))] [SpP x (ps.map (.int .i64)), .blk xB (.cells x.cells.toArray 29)]
   conv => whnf
   (repeat ((first | refine stp (by (repeat constructor); first | done | fail) ?_ | refine stn (by (repeat constructor); first | done | fail) ?_ | refine sto (by (repeat constructor); first | done | fail) (by first | omega | (simp only; omega)) ?_ | refine .mk fun Ap capp => ?_ | refine ⟨?_, trivial⟩ | intro _); conv => whnf))
   refine br_d (fun hlt => ?_) (fun hge => ?_)
   ·conv => whnf
    (repeat ((first | refine stp (by (repeat constructor); first | done | fail) ?_ | refine stn (by (repeat constructor); first | done | fail) ?_ | refine sto (by (repeat constructor); first | done | fail) (by first | omega | (simp only; omega)) ?_ | refine .mk fun Ap capp => ?_ | refine ⟨?_, trivial⟩ | intro _); conv => whnf))
    refine And.intro ⟨by omega, by omega, hplP (by omega)⟩ ?_
    conv => whnf
    refine rn_storeR (off := j) (xs' := (ps.set j (-5)).map (.int .i64)) tab_ok rfl .here rfl rfl (by show j + 1 ≤ x.a.picks.length * 1; omega) (Nat.one_pos) (by rw [List.map_set]; rfl) ?_
    conv => whnf
    (repeat ((first | refine stp (by (repeat constructor); first | done | fail) ?_ | refine stn (by (repeat constructor); first | done | fail) ?_ | refine sto (by (repeat constructor); first | done | fail) (by first | omega | (simp only; omega)) ?_ | refine .mk fun Ap capp => ?_ | refine ⟨?_, trivial⟩ | intro _); conv => whnf))
    exact ⟨(j + 1, ps.set j (-5)), ⟨by simp; omega, by simp [hpl]⟩, by simp; omega, ⟨rfl, rfl, trivial⟩, SubM.refl _ _⟩
   ·conv => whnf
    exact fin0 rfl (fun w' hm => ⟨_, ⟨rfl, rfl⟩, hm.sel .nil⟩) (by first | exact .inr rfl | exact .inl rfl)
end Go.Proofs.YtbfbjgakmnckbaaGreatDoor
