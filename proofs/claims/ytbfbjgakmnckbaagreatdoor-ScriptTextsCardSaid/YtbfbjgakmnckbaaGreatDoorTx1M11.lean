/- The document's answer: Read. No statement of the seat is proved here. -/
import Derived.Test.YtbfbjgakmnckbaaGreatDoorTx1M10
namespace Go.Proofs.YtbfbjgakmnckbaaGreatDoor
open Go Go.RowKit Eng
attribute [local irreducible] Br Rn RnU Cl RdG CpG Ld Rd Lp Dr Oth Cut fin Fits Eng.Enters Md NA
abbrev WR (A : Option Addr) (cap : Nat) (ws : List (List UInt8)) : Res := .row A cap ws.length 9 1 (strsOf ws)
theorem WR.strs {cx : Cx} {m : Mem} {A : Option Addr} {cap : Nat} {ws : List (List UInt8)} (hh : Has m (WR A cap ws)) {w : World} (hm : MemOk cx.w0 cx.S m w) : StrsIn w A ws := by
 intro hn
 have h := hm.ok _ hh.mem
 obtain ⟨b, rfl, _⟩ := row_cell h (j := 0) (v := .string (Str (ws.getD 0 []))) (by simp [strsOf, List.getD, List.getElem?_eq_getElem hn])
 refine ⟨b, 0, rfl, fun j s hj => ?_⟩
 obtain ⟨b', hb', hc⟩ := row_cell h (j := j) (v := .string (Str s)) (by simp [strsOf, hj])
 injection hb' with hb'; injection hb' with hb'
 subst hb'
 simpa using hc
theorem form_some {k : Nat} (h1 : 1 ≤ k) (h2 : k < 26) : Str (formL k) ≠ Str [] := by
 have : ∀ i : Fin 26, 1 ≤ i.val → formL i.val ≠ [] := by decide
 exact fun h => this ⟨k, h2⟩ h1 (Str.inj.1 h)
set_option maxRecDepth 100000 in
set_option maxHeartbeats 2000000 in
theorem rRead_any (l : List UInt8) (w : World) (hP : ∀ n : Int, -9223372036854775808 ≤ n ∧ n ≤ 9223372036854775807 → NumOk w n) (hl : l.length ≤ 1073741820) :
  Ctr Tryz.prog 13 [.string (Str l)] [] (ReadR l) w := by
 have hsz := Str.size l
 refine enter (cx := ⟨Tryz.prog, 108, w, Foot [], tab, [], [], [10], []⟩) [(0, .string (Str l))] tab_ok Tryz.func13 rfl rfl rfl rfl (MemOk.nil w _) ?_
 have hF : ∀ w', Fr (Foot []) w w' → Fr (fun _ => False) w w' := fun w' hf => hf.mono (fun k _ ⟨r, hr, _⟩ => by cases hr)
 have hN : ∀ w', Fr (Foot []) w w' → ∀ n : Int, -9223372036854775808 ≤ n ∧ n ≤ 9223372036854775807 → NumOk w' n := fun w' hf n hn => (hP n hn).fr (hF w' hf)
 have hwl := wordsL_len l
 conv => whnf
 intro rB
 conv => whnf
 (repeat ((first | refine stp (by (repeat constructor); first | done | fail) ?_ | refine stn (by (repeat constructor); first | done | fail) ?_ | refine sto (by (repeat constructor); first | done | fail) (by first | omega | (simp only; omega)) ?_ | refine .mk fun Ap capp => ?_ | refine ⟨?_, trivial⟩ | intro _); conv => whnf))
 refine br_d (fun h0 => ?_) (fun h0 => ?_)
 ·have hlong : 1048576 < l.length := by omega
  conv => whnf
  (repeat ((first | refine stp (by (repeat constructor); first | done | fail) ?_ | refine stn (by (repeat constructor); first | done | fail) ?_ | refine sto (by (repeat constructor); first | done | fail) (by first | omega | (simp only; omega)) ?_ | refine .mk fun Ap capp => ?_ | refine ⟨?_, trivial⟩ | intro _); conv => whnf))
  refine finC2 rfl rfl (ldN tab_ok (by (repeat constructor); first | done | fail) rfl rfl rfl rfl) rfl (fun w' hm => ⟨_, ⟨none, none, 0, 0, ?_, rfl⟩, ?_⟩)
  ·rw [readA, readE, if_pos hlong, if_pos hlong]; rfl
  ·rw [readA, if_pos hlong]
   exact ((hm.nilRow 3 1).nilRow 5 1).sel (.cons .here (.cons .here .nil))
 ·have hshort : ¬ 1048576 < l.length := by omega
  conv => whnf
  (repeat ((first | refine stp (by (repeat constructor); first | done | fail) ?_ | refine stn (by (repeat constructor); first | done | fail) ?_ | refine sto (by (repeat constructor); first | done | fail) (by first | omega | (simp only; omega)) ?_ | refine .mk fun Ap capp => ?_ | refine ⟨?_, trivial⟩ | intro _); conv => whnf))
  have hww : ∀ w', Calls Tryz.prog 41 #[.string (Str l)] w' fun e w2 => ∃ A cap, e = .returned (.slice A (wordsL l).length cap) ∧ w2.ownsRow w'.heap.size 9 1 (.slice A (wordsL l).length cap) (wordsL l).length (strsOf (wordsL l)) ∧ Fr (fun _ => False) w' w2 := fun w' => by rw [← allWords_eq]; exact words_any l w' (by omega)
  refine ⟨words_enters, cl_ex (R := fun w' e w2 => ∃ A cap, e = .returned (.slice A (wordsL l).length cap) ∧ w2.ownsRow w'.heap.size 9 1 (.slice A (wordsL l).length cap) (wordsL l).length (strsOf (wordsL l)) ∧ Fr (fun _ => False) w' w2) (fun w' _ => hww w') ?_⟩
  rintro w1 e w2 hm' ⟨A, cap, rfl, hrow, hf2⟩
  refine ⟨_, hm'.fresh hf2 hrow, ?_⟩
  have hplA : Pl A := (WR.strs (ws := wordsL l) .here (hm'.fresh hf2 hrow)).pl (List.length_pos_iff.2 (wordsL_ne l))
  have hcap : (wordsL l).length ≤ cap := by
   rcases hrow.2 with ⟨e1, e2⟩ | ⟨g, c, cur, e1, _, _, e2, _⟩
   ·omega
   ·injection e1 with _ _ e1; omega
  clear hrow hf2 hm' hww
  have hcand := readF_cand (l := l)
  have hne := wordsL_ne l
  have hsome : ∀ k : Nat, 1 ≤ k → k < 26 → (candF k (wordsL l)).Ok → mayB (candF k (wordsL l)) = true → lineL (candF k (wordsL l)) = l → readF l = some (candF k (wordsL l)) := fun k h1 h2 h3 h4 h5 => readF_some h3 h4 h5
  generalize hwsl : wordsL l = ws at hcand hne hsome hwl hcap ⊢
  have hwn : 0 < ws.length := List.length_pos_iff.2 hne
  have hwl1 : ws.length ≤ 1073741821 := by omega
  have hwl2 : ∀ s ∈ ws, s.length ≤ 1099511627776 := fun s hs => by have := hwl.2 s hs; omega
  have hlj : ∀ j, (ws.getD j []).length ≤ 1099511627776 := by
   intro j
   rw [List.getD]
   cases h : ws[j]? with
   | none => simp
   | some s => exact hwl2 s (List.mem_of_getElem? h)
  conv => whnf
  (repeat ((first | refine stp (by (repeat constructor); first | done | fail) ?_ | refine stn (by (repeat constructor); first | done | fail) ?_ | refine sto (by (repeat constructor); first | done | fail) (by first | omega | (simp only; omega)) ?_ | refine .mk fun Ap capp => ?_ | refine ⟨?_, trivial⟩ | intro _); conv => whnf))
  refine lp tab_ok (γ := Nat) (fun k => 1 ≤ k ∧ k ≤ 26 ∧ ∀ j : Nat, 1 ≤ j → j < k → wordL j = ws.getD 0 [] → ¬ (mayB (candF j ws) = true ∧ lineL (candF j ws) = l))
   (fun k => [(5, .int .i64 (k : Int)), (4, .slice A ws.length cap), (0, .string (Str l)), (2, .pointer (some ⟨rB, 0, none⟩)), (3, .int .i64 0)])
   (fun _ => [WR A cap ws, .blk rB (.cells (actL (nilAct 0) none 0 none 0).toArray 29)]) (fun k => 26 - k) 1 ⟨by omega, by omega, fun j h1 h2 => by omega⟩ ⟨rfl, rfl, rfl, rfl, rfl, trivial⟩ (SubM.sel (by (repeat constructor); first | done | fail)) ?_
  rintro k ⟨hk1, hk2, hprev⟩
  change XC _ _ _ [(5, .int .i64 (k : Int)), (4, .slice A ws.length cap), (0, .string (Str l)), (2, .pointer (some ⟨rB, 0, none⟩)), (3, .int .i64 0)] [WR A cap ws, .blk rB (.cells (actL (nilAct 0) none 0 none 0).toArray 29)]
  conv => whnf
  (repeat ((first | refine stp (by (repeat constructor); first | done | fail) ?_ | refine stn (by (repeat constructor); first | done | fail) ?_ | refine sto (by (repeat constructor); first | done | fail) (by first | omega | (simp only; omega)) ?_ | refine .mk fun Ap capp => ?_ | refine ⟨?_, trivial⟩ | intro _); conv => whnf))
  refine ⟨form_enters, cl_same _ (fun w' _ => form_any _ w') ?_⟩
  conv => whnf
  refine br_n (br_d (fun hend => ?_) (fun hin => ?_))
  ·have hk : k = 26 := by
    rcases Nat.lt_or_ge k 26 with h | h
    ·exact absurd hend (form_some hk1 h)
    ·omega
   subst hk
   have hnone : readF l = none := hcand (fun j h1 h2 => hprev j h1 h2)
   obtain ⟨hA, hE⟩ := readR_none hnone hshort
   conv => whnf
   (repeat ((first | refine stp (by (repeat constructor); first | done | fail) ?_ | refine stn (by (repeat constructor); first | done | fail) ?_ | refine sto (by (repeat constructor); first | done | fail) (by first | omega | (simp only; omega)) ?_ | refine .mk fun Ap capp => ?_ | refine ⟨?_, trivial⟩ | intro _); conv => whnf))
   refine finC2 rfl rfl (ldN tab_ok (by (repeat constructor); first | done | fail) rfl rfl rfl rfl) rfl (fun w' hm => ⟨_, ⟨none, none, 0, 0, ?_, rfl⟩, ?_⟩)
   ·rw [hA, hE]; rfl
   ·rw [hA]
    exact ((hm.nilRow 3 1).nilRow 5 1).sel (.cons .here (.cons .here .nil))
  ·have hk : k < 26 := by
    rcases Nat.lt_or_ge k 26 with h | h
    ·exact h
    ·have : k = 26 := by omega
     subst this
     exact absurd rfl hin
   conv => whnf
   (repeat ((first | refine stp (by (repeat constructor); first | done | fail) ?_ | refine stn (by (repeat constructor); first | done | fail) ?_ | refine sto (by (repeat constructor); first | done | fail) (by first | omega | (simp only; omega)) ?_ | refine .mk fun Ap capp => ?_ | refine ⟨?_, trivial⟩ | intro _); conv => whnf))
   refine ⟨form_enters, cl_same _ (fun w' _ => form_any _ w') ?_⟩
   conv => whnf
   refine ⟨cut_enters, cl_same _ (fun w' _ => cut_any _ w' (by have := formL_len (k : Int); omega)) ?_⟩
   conv => whnf
   (repeat ((first | refine stp (by (repeat constructor); first | done | fail) ?_ | refine stn (by (repeat constructor); first | done | fail) ?_ | refine sto (by (repeat constructor); first | done | fail) (by first | omega | (simp only; omega)) ?_ | refine .mk fun Ap capp => ?_ | refine ⟨?_, trivial⟩ | intro _); conv => whnf))
   refine ⟨⟨by omega, by omega, hplA⟩, ?_⟩
   conv => whnf
   refine rn_load (StrsIn.ldj rfl rfl hwn (fun w hm => WR.strs (ws := ws) (by (repeat constructor); first | done | fail) hm)) ?_
   conv => whnf
   refine br_n (br_d (fun hd => ?_) (fun hd => ?_))
   ·have hword : wordL k = ws.getD 0 [] := Str.inj.1 hd
    have hkr : -9223372036854775808 ≤ (k : Int) ∧ (k : Int) ≤ 9223372036854775807 := by omega
    have hcok := candF_ok (k := (k : Int)) hkr hwl2 (by omega)
    have hfl : (lettersL (k : Int)).length ≤ 16 := Nat.le_trans (cutF_len _).2 (formL_len _)
    conv => whnf
    (repeat ((first | refine stp (by (repeat constructor); first | done | fail) ?_ | refine stn (by (repeat constructor); first | done | fail) ?_ | refine sto (by (repeat constructor); first | done | fail) (by first | omega | (simp only; omega)) ?_ | refine .mk fun Ap capp => ?_ | refine ⟨?_, trivial⟩ | intro _); conv => whnf))
    obtain ⟨w0, ws1, rfl⟩ : ∃ w0 ws1, ws = w0 :: ws1 := by
     cases ws with
     | nil => exact absurd rfl hne
     | cons w0 ws1 => exact ⟨w0, ws1, rfl⟩
    have hlc : (w0 :: ws1).length = ws1.length + 1 := rfl
    refine ⟨⟨by omega, by omega, by omega, .inr hplA⟩, ?_⟩
    conv => whnf
    refine ⟨fields_enters, cl_mem (m1 := []) .nil (fun w' hm' => fields_any (nilAct k) (lettersL k) ws1 (cutA A cap 1 1) (cap - 1) w' rfl rfl hfl (fun s hs => hwl2 s (List.mem_cons_of_mem _ hs)) ((WR.strs (ws := w0 :: ws1) (by (repeat constructor); first | done | fail) hm').tail (by omega))) ?_⟩
    rintro e m' ⟨bA, bc, rfl, rfl⟩
    conv => whnf
    intro aB
    conv => whnf
    (repeat ((first | refine stp (by (repeat constructor); first | done | fail) ?_ | refine stn (by (repeat constructor); first | done | fail) ?_ | refine sto (by (repeat constructor); first | done | fail) (by first | omega | (simp only; omega)) ?_ | refine .mk fun Ap capp => ?_ | refine ⟨?_, trivial⟩ | intro _); conv => whnf))
    generalize hX : fieldsF (lettersL (k : Int)) ws1 (nilAct (k : Int)) = X
    have hXp : X.picks = [] := by rw [← hX]; exact (fieldsF_rest _ _ _).2
    have hY : candY (k : Int) (w0 :: ws1) = if (k : Int) = 24 then fateF (w0 :: ws1) X else X := by rw [← hX]; rfl
    have hYb : (candY (k : Int) (w0 :: ws1)).bytes = X.bytes := by rw [← hX]; exact candY_bytes _ _
    have hYp := candY_picks (k : Int) (w0 :: ws1)
    change Cut _ _ _ _ _ [.blk aB (.cells (actL X bA bc none 0).toArray 29), BR bA bc X.bytes, WR A cap (w0 :: ws1), .blk rB (.cells (actL (nilAct 0) none 0 none 0).toArray 29)]
    refine cut (γ := Unit) [] [20] tab_ok (fun _ => True) (fun _ => [(5, .int .i64 (k : Int)), (4, .slice A (w0 :: ws1).length cap), (0, .string (Str l)), (2, .pointer (some ⟨rB, 0, none⟩)), (3, .int .i64 0), (8, .pointer (some ⟨aB, 0, none⟩))]) (fun _ => [.blk aB (.cells (actL (candY (k : Int) (w0 :: ws1)) bA bc none 0).toArray 29), BR bA bc (candY (k : Int) (w0 :: ws1)).bytes, WR A cap (w0 :: ws1), .blk rB (.cells (actL (nilAct 0) none 0 none 0).toArray 29)]) ?_ ?_
    ·conv => whnf
     (repeat ((first | refine stp (by (repeat constructor); first | done | fail) ?_ | refine stn (by (repeat constructor); first | done | fail) ?_ | refine sto (by (repeat constructor); first | done | fail) (by first | omega | (simp only; omega)) ?_ | refine .mk fun Ap capp => ?_ | refine ⟨?_, trivial⟩ | intro _); conv => whnf))
     refine br_d (fun h24 => ?_) (fun h24 => ?_)
     ·rw [if_pos h24] at hY
      rw [hY]
      conv => whnf
      (repeat ((first | refine stp (by (repeat constructor); first | done | fail) ?_ | refine stn (by (repeat constructor); first | done | fail) ?_ | refine sto (by (repeat constructor); first | done | fail) (by first | omega | (simp only; omega)) ?_ | refine .mk fun Ap capp => ?_ | refine ⟨?_, trivial⟩ | intro _); conv => whnf))
      refine lp tab_ok (γ := Nat × PAct) (fun g => 1 ≤ g.1 ∧ g.1 ≤ (w0 :: ws1).length ∧ g.2.picks = [] ∧ g.2.bytes = X.bytes ∧ fatePs g.1 ((w0 :: ws1).drop g.1) g.2 = fateF (w0 :: ws1) X)
       (fun g => (9, .int .i64 (g.1 : Int)) :: [(5, .int .i64 (k : Int)), (4, .slice A (w0 :: ws1).length cap), (0, .string (Str l)), (2, .pointer (some ⟨rB, 0, none⟩)), (3, .int .i64 0), (8, .pointer (some ⟨aB, 0, none⟩))])
       (fun g => [.blk aB (.cells (actL g.2 bA bc none 0).toArray 29), BR bA bc g.2.bytes, WR A cap (w0 :: ws1), .blk rB (.cells (actL (nilAct 0) none 0 none 0).toArray 29)]) (fun g => (w0 :: ws1).length - g.1) (1, X) ⟨by simp only; omega, by simp only; omega, hXp, rfl, fatePs_F _ _⟩ ⟨rfl, rfl, rfl, rfl, rfl, rfl, rfl, trivial⟩ (SubM.sel (by (repeat constructor); first | done | fail)) ?_
      rintro ⟨i, y⟩ ⟨hi1, hi2, hyp, hyb, hfy⟩
      simp only at hi1 hi2 hyp hyb hfy
      change XC _ _ _ ((9, .int .i64 (i : Int)) :: [(5, .int .i64 (k : Int)), (4, .slice A (w0 :: ws1).length cap), (0, .string (Str l)), (2, .pointer (some ⟨rB, 0, none⟩)), (3, .int .i64 0), (8, .pointer (some ⟨aB, 0, none⟩))]) [.blk aB (.cells (actL y bA bc none 0).toArray 29), BR bA bc y.bytes, WR A cap (w0 :: ws1), .blk rB (.cells (actL (nilAct 0) none 0 none 0).toArray 29)]
      conv => whnf
      (repeat ((first | refine stp (by (repeat constructor); first | done | fail) ?_ | refine stn (by (repeat constructor); first | done | fail) ?_ | refine sto (by (repeat constructor); first | done | fail) (by first | omega | (simp only; omega)) ?_ | refine .mk fun Ap capp => ?_ | refine ⟨?_, trivial⟩ | intro _); conv => whnf))
      refine br_d (fun hlt => ?_) (fun hge => ?_)
      ·have hin : i < (w0 :: ws1).length := by omega
       have hstep := fatePs_step (y := y) hin
       rw [hfy] at hstep
       have hstep := hstep.symm
       have hsl := hlj i
       generalize hs0 : (w0 :: ws1).getD i [] = s at hstep hsl
       have hld : ∀ (m : Mem), Has m (WR A cap (w0 :: ws1)) → Ld ⟨Tryz.prog, 108, w, Foot [], tab, [], [], [], []⟩ m 9 (.pointer (pl A i)) (.string (Str s)) := fun m hh => hs0 ▸ StrsIn.ldj rfl rfl hin (fun w hm => WR.strs (ws := (w0 :: ws1)) hh hm)
       rcases (by omega : i = 1 ∨ i = 2 ∨ 3 ≤ i) with h1 | h2 | h3
       ·have hi : (i : Int) = 1 := by omega
        have hi2 : ¬ (i : Int) = 2 := by omega
        have hne : wFull ≠ wFail := by decide
        by_cases hA1 : s = wFail
        ·have hB1 : s ≠ wFull := fun h => hne (h.symm.trans hA1)
         conv => whnf
         (repeat ((first | refine stp (by (repeat constructor); first | done | fail) ?_ | refine stn (by (repeat constructor); first | done | fail) ?_ | refine sto (by (repeat constructor); first | done | fail) (by first | omega | (simp only; omega)) ?_ | refine .mk fun Ap capp => ?_ | refine ⟨?_, trivial⟩ | intro _); conv => whnf))
         refine ⟨⟨by omega, by omega, hplA⟩, ?_⟩
         conv => whnf
         refine rn_load (hld _ (by (repeat constructor); first | done | fail)) ?_
         conv => whnf
         (repeat ((first | refine stp (by (repeat constructor); first | done | fail) ?_ | refine stn (by (repeat constructor); first | done | fail) ?_ | refine sto (by (repeat constructor); first | done | fail) (by first | omega | (simp only; omega)) ?_ | refine .mk fun Ap capp => ?_ | refine ⟨?_, trivial⟩ | intro _); conv => whnf))
         refine br_t (show (decide (Str s = Str wFail) && decide ((i : Int) = 1)) = true by simp [Str.inj, hi, hA1, Ne.symm hne]) ?_
         conv => whnf
         (repeat ((first | refine stp (by (repeat constructor); first | done | fail) ?_ | refine stn (by (repeat constructor); first | done | fail) ?_ | refine sto (by (repeat constructor); first | done | fail) (by first | omega | (simp only; omega)) ?_ | refine .mk fun Ap capp => ?_ | refine ⟨?_, trivial⟩ | intro _); conv => whnf))
         refine ⟨⟨by omega, by omega, hplA⟩, ?_⟩
         conv => whnf
         refine rn_load (hld _ (by (repeat constructor); first | done | fail)) ?_
         conv => whnf
         (repeat ((first | refine stp (by (repeat constructor); first | done | fail) ?_ | refine stn (by (repeat constructor); first | done | fail) ?_ | refine sto (by (repeat constructor); first | done | fail) (by first | omega | (simp only; omega)) ?_ | refine .mk fun Ap capp => ?_ | refine ⟨?_, trivial⟩ | intro _); conv => whnf))
         refine br_f (show (decide (Str s = Str wFull) && decide ((i : Int) = 1)) = false by simp [Str.inj, hi, hA1, Ne.symm hne]) ?_
         conv => whnf
         (repeat ((first | refine stp (by (repeat constructor); first | done | fail) ?_ | refine stn (by (repeat constructor); first | done | fail) ?_ | refine sto (by (repeat constructor); first | done | fail) (by first | omega | (simp only; omega)) ?_ | refine .mk fun Ap capp => ?_ | refine ⟨?_, trivial⟩ | intro _); conv => whnf))
         refine br_f (show (decide ((i : Int) = 2)) = false by simp [Str.inj, hi, hA1, Ne.symm hne]) ?_
         conv => whnf
         (repeat ((first | refine stp (by (repeat constructor); first | done | fail) ?_ | refine stn (by (repeat constructor); first | done | fail) ?_ | refine sto (by (repeat constructor); first | done | fail) (by first | omega | (simp only; omega)) ?_ | refine .mk fun Ap capp => ?_ | refine ⟨?_, trivial⟩ | intro _); conv => whnf))
         rw [show fateP1 i s y = { y with fk := 1 } from by rw [fateP1, if_pos h1, if_pos hA1]] at hstep
         exact ⟨(i + 1, { y with fk := 1 }), ⟨by simp only; omega, by simp only; omega, hyp, hyb, hstep⟩, by simp only; omega, ⟨rfl, rfl, rfl, rfl, rfl, rfl, rfl, trivial⟩, SubM.sel (by (repeat constructor); first | done | fail)⟩
        ·by_cases hB1 : s = wFull
         ·skip
          conv => whnf
          (repeat ((first | refine stp (by (repeat constructor); first | done | fail) ?_ | refine stn (by (repeat constructor); first | done | fail) ?_ | refine sto (by (repeat constructor); first | done | fail) (by first | omega | (simp only; omega)) ?_ | refine .mk fun Ap capp => ?_ | refine ⟨?_, trivial⟩ | intro _); conv => whnf))
          refine ⟨⟨by omega, by omega, hplA⟩, ?_⟩
          conv => whnf
          refine rn_load (hld _ (by (repeat constructor); first | done | fail)) ?_
          conv => whnf
          (repeat ((first | refine stp (by (repeat constructor); first | done | fail) ?_ | refine stn (by (repeat constructor); first | done | fail) ?_ | refine sto (by (repeat constructor); first | done | fail) (by first | omega | (simp only; omega)) ?_ | refine .mk fun Ap capp => ?_ | refine ⟨?_, trivial⟩ | intro _); conv => whnf))
          refine br_f (show (decide (Str s = Str wFail) && decide ((i : Int) = 1)) = false by simp [Str.inj, hi, hB1, hne]) ?_
          conv => whnf
          (repeat ((first | refine stp (by (repeat constructor); first | done | fail) ?_ | refine stn (by (repeat constructor); first | done | fail) ?_ | refine sto (by (repeat constructor); first | done | fail) (by first | omega | (simp only; omega)) ?_ | refine .mk fun Ap capp => ?_ | refine ⟨?_, trivial⟩ | intro _); conv => whnf))
          refine ⟨⟨by omega, by omega, hplA⟩, ?_⟩
          conv => whnf
          refine rn_load (hld _ (by (repeat constructor); first | done | fail)) ?_
          conv => whnf
          (repeat ((first | refine stp (by (repeat constructor); first | done | fail) ?_ | refine stn (by (repeat constructor); first | done | fail) ?_ | refine sto (by (repeat constructor); first | done | fail) (by first | omega | (simp only; omega)) ?_ | refine .mk fun Ap capp => ?_ | refine ⟨?_, trivial⟩ | intro _); conv => whnf))
          refine br_t (show (decide (Str s = Str wFull) && decide ((i : Int) = 1)) = true by simp [Str.inj, hi, hB1, hne]) ?_
          conv => whnf
          (repeat ((first | refine stp (by (repeat constructor); first | done | fail) ?_ | refine stn (by (repeat constructor); first | done | fail) ?_ | refine sto (by (repeat constructor); first | done | fail) (by first | omega | (simp only; omega)) ?_ | refine .mk fun Ap capp => ?_ | refine ⟨?_, trivial⟩ | intro _); conv => whnf))
          refine br_f (show (decide ((i : Int) = 2)) = false by simp [Str.inj, hi, hB1, hne]) ?_
          conv => whnf
          (repeat ((first | refine stp (by (repeat constructor); first | done | fail) ?_ | refine stn (by (repeat constructor); first | done | fail) ?_ | refine sto (by (repeat constructor); first | done | fail) (by first | omega | (simp only; omega)) ?_ | refine .mk fun Ap capp => ?_ | refine ⟨?_, trivial⟩ | intro _); conv => whnf))
          rw [show fateP1 i s y = { y with fk := 2 } from by rw [fateP1, if_pos h1, if_neg hA1, if_pos hB1]] at hstep
          exact ⟨(i + 1, { y with fk := 2 }), ⟨by simp only; omega, by simp only; omega, hyp, hyb, hstep⟩, by simp only; omega, ⟨rfl, rfl, rfl, rfl, rfl, rfl, rfl, trivial⟩, SubM.sel (by (repeat constructor); first | done | fail)⟩
         ·skip
          conv => whnf
          (repeat ((first | refine stp (by (repeat constructor); first | done | fail) ?_ | refine stn (by (repeat constructor); first | done | fail) ?_ | refine sto (by (repeat constructor); first | done | fail) (by first | omega | (simp only; omega)) ?_ | refine .mk fun Ap capp => ?_ | refine ⟨?_, trivial⟩ | intro _); conv => whnf))
          refine ⟨⟨by omega, by omega, hplA⟩, ?_⟩
          conv => whnf
          refine rn_load (hld _ (by (repeat constructor); first | done | fail)) ?_
          conv => whnf
          (repeat ((first | refine stp (by (repeat constructor); first | done | fail) ?_ | refine stn (by (repeat constructor); first | done | fail) ?_ | refine sto (by (repeat constructor); first | done | fail) (by first | omega | (simp only; omega)) ?_ | refine .mk fun Ap capp => ?_ | refine ⟨?_, trivial⟩ | intro _); conv => whnf))
          refine br_f (show (decide (Str s = Str wFail) && decide ((i : Int) = 1)) = false by simp [Str.inj, hi, hA1, hB1]) ?_
          conv => whnf
          (repeat ((first | refine stp (by (repeat constructor); first | done | fail) ?_ | refine stn (by (repeat constructor); first | done | fail) ?_ | refine sto (by (repeat constructor); first | done | fail) (by first | omega | (simp only; omega)) ?_ | refine .mk fun Ap capp => ?_ | refine ⟨?_, trivial⟩ | intro _); conv => whnf))
          refine ⟨⟨by omega, by omega, hplA⟩, ?_⟩
          conv => whnf
          refine rn_load (hld _ (by (repeat constructor); first | done | fail)) ?_
          conv => whnf
          (repeat ((first | refine stp (by (repeat constructor); first | done | fail) ?_ | refine stn (by (repeat constructor); first | done | fail) ?_ | refine sto (by (repeat constructor); first | done | fail) (by first | omega | (simp only; omega)) ?_ | refine .mk fun Ap capp => ?_ | refine ⟨?_, trivial⟩ | intro _); conv => whnf))
          refine br_f (show (decide (Str s = Str wFull) && decide ((i : Int) = 1)) = false by simp [Str.inj, hi, hA1, hB1]) ?_
          conv => whnf
          (repeat ((first | refine stp (by (repeat constructor); first | done | fail) ?_ | refine stn (by (repeat constructor); first | done | fail) ?_ | refine sto (by (repeat constructor); first | done | fail) (by first | omega | (simp only; omega)) ?_ | refine .mk fun Ap capp => ?_ | refine ⟨?_, trivial⟩ | intro _); conv => whnf))
          refine br_f (show (decide ((i : Int) = 2)) = false by simp [Str.inj, hi, hA1, hB1]) ?_
          conv => whnf
          (repeat ((first | refine stp (by (repeat constructor); first | done | fail) ?_ | refine stn (by (repeat constructor); first | done | fail) ?_ | refine sto (by (repeat constructor); first | done | fail) (by first | omega | (simp only; omega)) ?_ | refine .mk fun Ap capp => ?_ | refine ⟨?_, trivial⟩ | intro _); conv => whnf))
          rw [show fateP1 i s y = y from by rw [fateP1, if_pos h1, if_neg hA1, if_neg hB1]] at hstep
          exact ⟨(i + 1, y), ⟨by simp only; omega, by simp only; omega, hyp, hyb, hstep⟩, by simp only; omega, ⟨rfl, rfl, rfl, rfl, rfl, rfl, rfl, trivial⟩, SubM.sel (by (repeat constructor); first | done | fail)⟩
       ·have hi : (i : Int) = 2 := by omega
        have hi1q : ¬ (i : Int) = 1 := by omega
        conv => whnf
        (repeat ((first | refine stp (by (repeat constructor); first | done | fail) ?_ | refine stn (by (repeat constructor); first | done | fail) ?_ | refine sto (by (repeat constructor); first | done | fail) (by first | omega | (simp only; omega)) ?_ | refine .mk fun Ap capp => ?_ | refine ⟨?_, trivial⟩ | intro _); conv => whnf))
        refine ⟨⟨by omega, by omega, hplA⟩, ?_⟩
        conv => whnf
        refine rn_load (hld _ (by (repeat constructor); first | done | fail)) ?_
        conv => whnf
        (repeat ((first | refine stp (by (repeat constructor); first | done | fail) ?_ | refine stn (by (repeat constructor); first | done | fail) ?_ | refine sto (by (repeat constructor); first | done | fail) (by first | omega | (simp only; omega)) ?_ | refine .mk fun Ap capp => ?_ | refine ⟨?_, trivial⟩ | intro _); conv => whnf))
        refine br_f (show (decide (Str s = Str wFail) && decide ((i : Int) = 1)) = false by simp [hi]) ?_
        conv => whnf
        (repeat ((first | refine stp (by (repeat constructor); first | done | fail) ?_ | refine stn (by (repeat constructor); first | done | fail) ?_ | refine sto (by (repeat constructor); first | done | fail) (by first | omega | (simp only; omega)) ?_ | refine .mk fun Ap capp => ?_ | refine ⟨?_, trivial⟩ | intro _); conv => whnf))
        refine ⟨⟨by omega, by omega, hplA⟩, ?_⟩
        conv => whnf
        refine rn_load (hld _ (by (repeat constructor); first | done | fail)) ?_
        conv => whnf
        (repeat ((first | refine stp (by (repeat constructor); first | done | fail) ?_ | refine stn (by (repeat constructor); first | done | fail) ?_ | refine sto (by (repeat constructor); first | done | fail) (by first | omega | (simp only; omega)) ?_ | refine .mk fun Ap capp => ?_ | refine ⟨?_, trivial⟩ | intro _); conv => whnf))
        refine br_f (show (decide (Str s = Str wFull) && decide ((i : Int) = 1)) = false by simp [hi]) ?_
        conv => whnf
        (repeat ((first | refine stp (by (repeat constructor); first | done | fail) ?_ | refine stn (by (repeat constructor); first | done | fail) ?_ | refine sto (by (repeat constructor); first | done | fail) (by first | omega | (simp only; omega)) ?_ | refine .mk fun Ap capp => ?_ | refine ⟨?_, trivial⟩ | intro _); conv => whnf))
        refine br_t (show (decide ((i : Int) = 2)) = true by simp [hi]) ?_
        conv => whnf
        (repeat ((first | refine stp (by (repeat constructor); first | done | fail) ?_ | refine stn (by (repeat constructor); first | done | fail) ?_ | refine sto (by (repeat constructor); first | done | fail) (by first | omega | (simp only; omega)) ?_ | refine .mk fun Ap capp => ?_ | refine ⟨?_, trivial⟩ | intro _); conv => whnf))
        refine ⟨⟨by omega, by omega, hplA⟩, ?_⟩
        conv => whnf
        refine rn_load (hld _ (by (repeat constructor); first | done | fail)) ?_
        conv => whnf
        (repeat ((first | refine stp (by (repeat constructor); first | done | fail) ?_ | refine stn (by (repeat constructor); first | done | fail) ?_ | refine sto (by (repeat constructor); first | done | fail) (by first | omega | (simp only; omega)) ?_ | refine .mk fun Ap capp => ?_ | refine ⟨?_, trivial⟩ | intro _); conv => whnf))
        refine ⟨number_enters, cl_same _ (fun w' _ => number_any s w' (by omega)) ?_⟩
        conv => whnf
        (repeat ((first | refine stp (by (repeat constructor); first | done | fail) ?_ | refine stn (by (repeat constructor); first | done | fail) ?_ | refine sto (by (repeat constructor); first | done | fail) (by first | omega | (simp only; omega)) ?_ | refine .mk fun Ap capp => ?_ | refine ⟨?_, trivial⟩ | intro _); conv => whnf))
        rw [show fateP1 i s y = { y with keep := numF s } from by rw [fateP1, if_neg (by omega), if_pos h2]] at hstep
        exact ⟨(i + 1, { y with keep := numF s }), ⟨by simp only; omega, by simp only; omega, hyp, hyb, hstep⟩, by simp only; omega, ⟨rfl, rfl, rfl, rfl, rfl, rfl, rfl, trivial⟩, SubM.sel (by (repeat constructor); first | done | fail)⟩
       ·have hi : ¬ (i : Int) = 2 := by omega
        have hi1q : ¬ (i : Int) = 1 := by omega
        conv => whnf
        (repeat ((first | refine stp (by (repeat constructor); first | done | fail) ?_ | refine stn (by (repeat constructor); first | done | fail) ?_ | refine sto (by (repeat constructor); first | done | fail) (by first | omega | (simp only; omega)) ?_ | refine .mk fun Ap capp => ?_ | refine ⟨?_, trivial⟩ | intro _); conv => whnf))
        refine ⟨⟨by omega, by omega, hplA⟩, ?_⟩
        conv => whnf
        refine rn_load (hld _ (by (repeat constructor); first | done | fail)) ?_
        conv => whnf
        (repeat ((first | refine stp (by (repeat constructor); first | done | fail) ?_ | refine stn (by (repeat constructor); first | done | fail) ?_ | refine sto (by (repeat constructor); first | done | fail) (by first | omega | (simp only; omega)) ?_ | refine .mk fun Ap capp => ?_ | refine ⟨?_, trivial⟩ | intro _); conv => whnf))
        refine br_f (show (decide (Str s = Str wFail) && decide ((i : Int) = 1)) = false by simp [hi, hi1q]) ?_
        conv => whnf
        (repeat ((first | refine stp (by (repeat constructor); first | done | fail) ?_ | refine stn (by (repeat constructor); first | done | fail) ?_ | refine sto (by (repeat constructor); first | done | fail) (by first | omega | (simp only; omega)) ?_ | refine .mk fun Ap capp => ?_ | refine ⟨?_, trivial⟩ | intro _); conv => whnf))
        refine ⟨⟨by omega, by omega, hplA⟩, ?_⟩
        conv => whnf
        refine rn_load (hld _ (by (repeat constructor); first | done | fail)) ?_
        conv => whnf
        (repeat ((first | refine stp (by (repeat constructor); first | done | fail) ?_ | refine stn (by (repeat constructor); first | done | fail) ?_ | refine sto (by (repeat constructor); first | done | fail) (by first | omega | (simp only; omega)) ?_ | refine .mk fun Ap capp => ?_ | refine ⟨?_, trivial⟩ | intro _); conv => whnf))
        refine br_f (show (decide (Str s = Str wFull) && decide ((i : Int) = 1)) = false by simp [hi, hi1q]) ?_
        conv => whnf
        (repeat ((first | refine stp (by (repeat constructor); first | done | fail) ?_ | refine stn (by (repeat constructor); first | done | fail) ?_ | refine sto (by (repeat constructor); first | done | fail) (by first | omega | (simp only; omega)) ?_ | refine .mk fun Ap capp => ?_ | refine ⟨?_, trivial⟩ | intro _); conv => whnf))
        refine br_f (show (decide ((i : Int) = 2)) = false by simp [hi, hi1q]) ?_
        conv => whnf
        (repeat ((first | refine stp (by (repeat constructor); first | done | fail) ?_ | refine stn (by (repeat constructor); first | done | fail) ?_ | refine sto (by (repeat constructor); first | done | fail) (by first | omega | (simp only; omega)) ?_ | refine .mk fun Ap capp => ?_ | refine ⟨?_, trivial⟩ | intro _); conv => whnf))
        rw [show fateP1 i s y = y from by rw [fateP1, if_neg (by omega), if_neg (by omega)]] at hstep
        exact ⟨(i + 1, y), ⟨by simp only; omega, by simp only; omega, hyp, hyb, hstep⟩, by simp only; omega, ⟨rfl, rfl, rfl, rfl, rfl, rfl, rfl, trivial⟩, SubM.sel (by (repeat constructor); first | done | fail)⟩
      ·have hiL : i = (w0 :: ws1).length := by omega
       subst hiL
       rw [List.drop_of_length_le (Nat.le_refl _)] at hfy
       have hfy : y = fateF (w0 :: ws1) X := hfy
       subst hfy
       conv => whnf
       (repeat ((first | refine stp (by (repeat constructor); first | done | fail) ?_ | refine stn (by (repeat constructor); first | done | fail) ?_ | refine sto (by (repeat constructor); first | done | fail) (by first | omega | (simp only; omega)) ?_ | refine .mk fun Ap capp => ?_ | refine ⟨?_, trivial⟩ | intro _); conv => whnf))
       exact ⟨(), trivial, ⟨rfl, rfl, rfl, rfl, rfl, rfl, trivial⟩, SubM.sel (by (repeat constructor); first | done | fail)⟩
     ·rw [if_neg h24] at hY
      rw [hY]
      conv => whnf
      (repeat ((first | refine stp (by (repeat constructor); first | done | fail) ?_ | refine stn (by (repeat constructor); first | done | fail) ?_ | refine sto (by (repeat constructor); first | done | fail) (by first | omega | (simp only; omega)) ?_ | refine .mk fun Ap capp => ?_ | refine ⟨?_, trivial⟩ | intro _); conv => whnf))
      exact ⟨(), trivial, ⟨rfl, rfl, rfl, rfl, rfl, rfl, trivial⟩, SubM.sel (by (repeat constructor); first | done | fail)⟩
    ·rintro ⟨⟩ _
     generalize hYg : candY (k : Int) (w0 :: ws1) = Y at hYp ⊢
     change XC _ _ _ [(5, .int .i64 (k : Int)), (4, .slice A (w0 :: ws1).length cap), (0, .string (Str l)), (2, .pointer (some ⟨rB, 0, none⟩)), (3, .int .i64 0), (8, .pointer (some ⟨aB, 0, none⟩))] [.blk aB (.cells (actL Y bA bc none 0).toArray 29), BR bA bc Y.bytes, WR A cap (w0 :: ws1), .blk rB (.cells (actL (nilAct 0) none 0 none 0).toArray 29)]
     generalize hps : ((if (k : Int) = 25 then ws1.map numF else []) : List Int) = ps
     have hcY : candF (k : Int) (w0 :: ws1) = { Y with picks := ps } := by
      rw [candF_eq, hYg, ← hps]
      split
      ·rfl
      ·rw [← hYp]
     have hps25 : (k : Int) = 25 → ws1.map numF = ps := fun h => by rw [← hps, if_pos h]
     have hps0 : (k : Int) ≠ 25 → ps = [] := fun h => by rw [← hps, if_neg h]
     have eY : { Y with picks := [] } = Y := by rw [← hYp]
     clear hps hYg hYb hY hX hXp
     refine cut (γ := Option Addr × Nat) [] [] tab_ok (fun _ => True) (fun _ => [(5, .int .i64 (k : Int)), (4, .slice A (w0 :: ws1).length cap), (0, .string (Str l)), (2, .pointer (some ⟨rB, 0, none⟩)), (3, .int .i64 0), (8, .pointer (some ⟨aB, 0, none⟩))]) (fun g => [.blk aB (.cells (actL { Y with picks := ps } bA bc g.1 g.2).toArray 29), BR bA bc Y.bytes, PR g.1 g.2 ({ Y with picks := ps }).picks, WR A cap (w0 :: ws1), .blk rB (.cells (actL (nilAct 0) none 0 none 0).toArray 29)]) ?_ ?_
     ·conv => whnf
      (repeat ((first | refine stp (by (repeat constructor); first | done | fail) ?_ | refine stn (by (repeat constructor); first | done | fail) ?_ | refine sto (by (repeat constructor); first | done | fail) (by first | omega | (simp only; omega)) ?_ | refine .mk fun Ap capp => ?_ | refine ⟨?_, trivial⟩ | intro _); conv => whnf))
      refine lp tab_ok (γ := Nat × List Int × Option Addr × Nat) (fun g => 1 ≤ g.1 ∧ g.1 ≤ (w0 :: ws1).length ∧ g.2.1.length + 1 = g.1 ∧ ((k : Int) = 25 → g.2.1 ++ ((w0 :: ws1).drop g.1).map numF = ps) ∧ ((k : Int) ≠ 25 → g.2.1 = []))
       (fun g => (10, .int .i64 (g.1 : Int)) :: [(5, .int .i64 (k : Int)), (4, .slice A (w0 :: ws1).length cap), (0, .string (Str l)), (2, .pointer (some ⟨rB, 0, none⟩)), (3, .int .i64 0), (8, .pointer (some ⟨aB, 0, none⟩))])
       (fun g => [.blk aB (.cells (actL { Y with picks := g.2.1 } bA bc g.2.2.1 g.2.2.2).toArray 29), BR bA bc Y.bytes, PR g.2.2.1 g.2.2.2 ({ Y with picks := g.2.1 }).picks, WR A cap (w0 :: ws1), .blk rB (.cells (actL (nilAct 0) none 0 none 0).toArray 29)]) (fun g => (w0 :: ws1).length - g.1) (1, [], none, 0) ⟨by simp only; omega, by simp only; omega, rfl, hps25, fun _ => rfl⟩ ⟨rfl, rfl, rfl, rfl, rfl, rfl, rfl, trivial⟩ (by
        simp only [eY]
        exact fun w hm => (hm.nilRow 3 1).sel (by (repeat constructor); first | done | fail)) ?_
      rintro ⟨i, qs, pA, pc⟩ ⟨hi1, hi2, hqs, hq25, hq0⟩
      simp only at hi1 hi2 hqs hq25 hq0
      change XC _ _ _ ((10, .int .i64 (i : Int)) :: [(5, .int .i64 (k : Int)), (4, .slice A (w0 :: ws1).length cap), (0, .string (Str l)), (2, .pointer (some ⟨rB, 0, none⟩)), (3, .int .i64 0), (8, .pointer (some ⟨aB, 0, none⟩))]) [.blk aB (.cells (actL { Y with picks := qs } bA bc pA pc).toArray 29), BR bA bc Y.bytes, PR pA pc ({ Y with picks := qs }).picks, WR A cap (w0 :: ws1), .blk rB (.cells (actL (nilAct 0) none 0 none 0).toArray 29)]
      conv => whnf
      (repeat ((first | refine stp (by (repeat constructor); first | done | fail) ?_ | refine stn (by (repeat constructor); first | done | fail) ?_ | refine sto (by (repeat constructor); first | done | fail) (by first | omega | (simp only; omega)) ?_ | refine .mk fun Ap capp => ?_ | refine ⟨?_, trivial⟩ | intro _); conv => whnf))
      refine br (fun hgo => ?_) (fun hstop => ?_)
      ·simp only [Bool.and_eq_true, decide_eq_true_eq] at hgo
       obtain ⟨hlt, h25⟩ := hgo
       have hin : i < (w0 :: ws1).length := by omega
       have hq := hq25 h25
       rw [List.drop_eq_getElem_cons hin, List.map_cons] at hq
       have hsl := hlj i
       have hgd : (w0 :: ws1).getD i [] = (w0 :: ws1)[i] := by rw [List.getD, List.getElem?_eq_getElem hin]; rfl
       rw [← hgd] at hq
       generalize hs0 : (w0 :: ws1).getD i [] = s at hq hsl
       have hld : ∀ (m : Mem), Has m (WR A cap (w0 :: ws1)) → Ld ⟨Tryz.prog, 108, w, Foot [], tab, [], [], [], []⟩ m 9 (.pointer (pl A i)) (.string (Str s)) := fun m hh => hs0 ▸ StrsIn.ldj rfl rfl hin (fun w hm => WR.strs (ws := (w0 :: ws1)) hh hm)
       conv => whnf
       refine dr_any (γ := Option Addr × Nat) (Tr.hs [0, 2, 3, 4, 5] (.alts 1 (Tr.sq [6, 7] (Tr.sq [8] (Tr.hs [9] (Tr.sq [10] .done)))) (.alts 6 (.alts 1 (Tr.sq [7] (Tr.sq [8] (Tr.hs [9] (Tr.sq [10] .done)))) (.alts 7 (Tr.sq [1] (Tr.sq [8] (Tr.hs [9] (Tr.sq [10] .done)))) .stop)) .stop))) [WR A cap (w0 :: ws1), .blk rB (.cells (actL (nilAct 0) none 0 none 0).toArray 29)] tab_ok mixed (by kernel_rfl) rfl (fun _ => True) (fun _ => (10, .int .i64 (i : Int)) :: [(5, .int .i64 (k : Int)), (4, .slice A (w0 :: ws1).length cap), (0, .string (Str l)), (2, .pointer (some ⟨rB, 0, none⟩)), (3, .int .i64 0), (8, .pointer (some ⟨aB, 0, none⟩))]) (fun g => [.blk aB (.cells (actL { Y with picks := qs ++ [numF s] } bA bc g.1 g.2).toArray 29), BR bA bc Y.bytes, PR g.1 g.2 ({ Y with picks := qs ++ [numF s] }).picks, WR A cap (w0 :: ws1), .blk rB (.cells (actL (nilAct 0) none 0 none 0).toArray 29)]) (SubM.sel (by (repeat constructor); first | done | fail)) ?_ ?_
       ·conv => whnf
        (repeat ((first | refine stp (by (repeat constructor); first | done | fail) ?_ | refine stn (by (repeat constructor); first | done | fail) ?_ | refine sto (by (repeat constructor); first | done | fail) (by first | omega | (simp only; omega)) ?_ | refine .mk fun Ap capp => ?_ | refine ⟨?_, trivial⟩ | intro _); conv => whnf))
        refine ⟨⟨by omega, by omega, hplA⟩, ?_⟩
        conv => whnf
        refine ⟨_, Ld.g (hld _ (by (repeat constructor); first | done | fail)), ?_⟩
        conv => whnf
        (repeat ((first | refine stp (by (repeat constructor); first | done | fail) ?_ | refine stn (by (repeat constructor); first | done | fail) ?_ | refine sto (by (repeat constructor); first | done | fail) (by first | omega | (simp only; omega)) ?_ | refine .mk fun Ap capp => ?_ | refine ⟨?_, trivial⟩ | intro _); conv => whnf))
        refine ⟨?_, ?_, trivial⟩
        ·conv => whnf
         (repeat ((first | refine g_sub (And.intro (SubM.sel (by (repeat constructor); first | done | fail)) ?_) | (refine g_cl ?_; refine ⟨number_enters, cl_same _ (fun w' _ => number_any s w' (by omega)) ?_⟩) | refine stp (by (repeat constructor); first | done | fail) ?_ | refine stn (by (repeat constructor); first | done | fail) ?_ | refine sto (by (repeat constructor); first | done | fail) (by first | omega | (simp only; omega)) ?_ | refine .mk fun Ap capp => ?_ | refine ⟨?_, trivial⟩ | intro _); conv => whnf))
         exact ⟨(Ap, capp), trivial, ⟨rfl, rfl, rfl, rfl, rfl, rfl, rfl, trivial⟩, by simp only [RM, PR, actL, List.length_append, List.length_cons, List.length_nil, List.map_append, List.map_cons, List.map_nil]; exact SubM.sel (by (repeat constructor); first | done | fail)⟩
        ·conv => whnf
         (repeat ((first | refine g_sub (And.intro (SubM.sel (by (repeat constructor); first | done | fail)) ?_) | (refine g_cl ?_; refine ⟨number_enters, cl_same _ (fun w' _ => number_any s w' (by omega)) ?_⟩) | refine stp (by (repeat constructor); first | done | fail) ?_ | refine stn (by (repeat constructor); first | done | fail) ?_ | refine sto (by (repeat constructor); first | done | fail) (by first | omega | (simp only; omega)) ?_ | refine .mk fun Ap capp => ?_ | refine ⟨?_, trivial⟩ | intro _); conv => whnf))
         refine ⟨?_, ?_, trivial⟩
         ·conv => whnf
          (repeat ((first | refine g_sub (And.intro (SubM.sel (by (repeat constructor); first | done | fail)) ?_) | (refine g_cl ?_; refine ⟨number_enters, cl_same _ (fun w' _ => number_any s w' (by omega)) ?_⟩) | refine stp (by (repeat constructor); first | done | fail) ?_ | refine stn (by (repeat constructor); first | done | fail) ?_ | refine sto (by (repeat constructor); first | done | fail) (by first | omega | (simp only; omega)) ?_ | refine .mk fun Ap capp => ?_ | refine ⟨?_, trivial⟩ | intro _); conv => whnf))
          exact ⟨(Ap, capp), trivial, ⟨rfl, rfl, rfl, rfl, rfl, rfl, rfl, trivial⟩, by simp only [RM, PR, actL, List.length_append, List.length_cons, List.length_nil, List.map_append, List.map_cons, List.map_nil]; exact SubM.sel (by (repeat constructor); first | done | fail)⟩
         ·conv => whnf
          (repeat ((first | refine g_sub (And.intro (SubM.sel (by (repeat constructor); first | done | fail)) ?_) | (refine g_cl ?_; refine ⟨number_enters, cl_same _ (fun w' _ => number_any s w' (by omega)) ?_⟩) | refine stp (by (repeat constructor); first | done | fail) ?_ | refine stn (by (repeat constructor); first | done | fail) ?_ | refine sto (by (repeat constructor); first | done | fail) (by first | omega | (simp only; omega)) ?_ | refine .mk fun Ap capp => ?_ | refine ⟨?_, trivial⟩ | intro _); conv => whnf))
          exact ⟨(Ap, capp), trivial, ⟨rfl, rfl, rfl, rfl, rfl, rfl, rfl, trivial⟩, by simp only [RM, PR, actL, List.length_append, List.length_cons, List.length_nil, List.map_append, List.map_cons, List.map_nil]; exact SubM.sel (by (repeat constructor); first | done | fail)⟩
       ·rintro ⟨Ap, capp⟩ _
        conv => whnf
        (repeat ((first | refine stp (by (repeat constructor); first | done | fail) ?_ | refine stn (by (repeat constructor); first | done | fail) ?_ | refine sto (by (repeat constructor); first | done | fail) (by first | omega | (simp only; omega)) ?_ | refine .mk fun Ap capp => ?_ | refine ⟨?_, trivial⟩ | intro _); conv => whnf))
        exact ⟨(i + 1, qs ++ [numF s], Ap, capp), ⟨by simp only; omega, by simp only; omega, by simp [hqs], fun _ => by rw [← hq]; simp, fun h => absurd h25 h⟩, by simp only; omega, ⟨rfl, rfl, rfl, rfl, rfl, rfl, rfl, trivial⟩, SubM.sel (by (repeat constructor); first | done | fail)⟩
      ·have hqp : qs = ps := by
        by_cases h25 : (k : Int) = 25
        ·have := hq25 h25
         simp only [h25, decide_true, Bool.and_true, decide_eq_false_iff_not] at hstop
         rw [List.drop_of_length_le (by omega)] at this
         simpa using this
        ·rw [hq0 h25, hps0 h25]
       subst hqp
       conv => whnf
       (repeat ((first | refine stp (by (repeat constructor); first | done | fail) ?_ | refine stn (by (repeat constructor); first | done | fail) ?_ | refine sto (by (repeat constructor); first | done | fail) (by first | omega | (simp only; omega)) ?_ | refine .mk fun Ap capp => ?_ | refine ⟨?_, trivial⟩ | intro _); conv => whnf))
       exact ⟨(pA, pc), trivial, ⟨rfl, rfl, rfl, rfl, rfl, rfl, trivial⟩, SubM.sel (by (repeat constructor); first | done | fail)⟩
     ·rintro ⟨pA, pc⟩ _
      change XC _ _ _ [(5, .int .i64 (k : Int)), (4, .slice A (w0 :: ws1).length cap), (0, .string (Str l)), (2, .pointer (some ⟨rB, 0, none⟩)), (3, .int .i64 0), (8, .pointer (some ⟨aB, 0, none⟩))] [.blk aB (.cells (actL { Y with picks := ps } bA bc pA pc).toArray 29), BR bA bc Y.bytes, PR pA pc ({ Y with picks := ps }).picks, WR A cap (w0 :: ws1), .blk rB (.cells (actL (nilAct 0) none 0 none 0).toArray 29)]
      rw [← hcY]
      have hYc : Y.bytes = (candF (k : Int) (w0 :: ws1)).bytes := by rw [hcY]
      rw [hYc]
      have hrd := hsome k hk1 hk hcok
      generalize hZ : candF (k : Int) (w0 :: ws1) = Z at hcok hrd ⊢
      conv => whnf
      (repeat ((first | refine stp (by (repeat constructor); first | done | fail) ?_ | refine stn (by (repeat constructor); first | done | fail) ?_ | refine sto (by (repeat constructor); first | done | fail) (by first | omega | (simp only; omega)) ?_ | refine .mk fun Ap capp => ?_ | refine ⟨?_, trivial⟩ | intro _); conv => whnf))
      refine ⟨may_enters, cl_same _ (fun w' hm' => may_any Z bA pA bc pc w' ⟨hcok, BR.in_ (by (repeat constructor); first | done | fail) hm', PR.in_ (by (repeat constructor); first | done | fail) hm'⟩) ?_⟩
      conv => whnf
      (repeat ((first | refine stp (by (repeat constructor); first | done | fail) ?_ | refine stn (by (repeat constructor); first | done | fail) ?_ | refine sto (by (repeat constructor); first | done | fail) (by first | omega | (simp only; omega)) ?_ | refine .mk fun Ap capp => ?_ | refine ⟨?_, trivial⟩ | intro _); conv => whnf))
      refine br (fun hmay => ?_) (fun hmay => ?_)
      ·conv => whnf
       (repeat ((first | refine stp (by (repeat constructor); first | done | fail) ?_ | refine stn (by (repeat constructor); first | done | fail) ?_ | refine sto (by (repeat constructor); first | done | fail) (by first | omega | (simp only; omega)) ?_ | refine .mk fun Ap capp => ?_ | refine ⟨?_, trivial⟩ | intro _); conv => whnf))
       refine ⟨rline_enters, cl_same _ (fun w' hm' => rline_any Z bA pA bc pc w' ⟨⟨hcok, BR.in_ (by (repeat constructor); first | done | fail) hm', PR.in_ (by (repeat constructor); first | done | fail) hm'⟩, act_num hcok (hN w' hm'.fr)⟩ hmay) ?_⟩
       conv => whnf
       (repeat ((first | refine stp (by (repeat constructor); first | done | fail) ?_ | refine stn (by (repeat constructor); first | done | fail) ?_ | refine sto (by (repeat constructor); first | done | fail) (by first | omega | (simp only; omega)) ?_ | refine .mk fun Ap capp => ?_ | refine ⟨?_, trivial⟩ | intro _); conv => whnf))
       refine br_d (fun heq => ?_) (fun hne2 => ?_)
       ·have hr := hrd hmay (Str.inj.1 heq)
        conv => whnf
        (repeat ((first | refine stp (by (repeat constructor); first | done | fail) ?_ | refine stn (by (repeat constructor); first | done | fail) ?_ | refine sto (by (repeat constructor); first | done | fail) (by first | omega | (simp only; omega)) ?_ | refine .mk fun Ap capp => ?_ | refine ⟨?_, trivial⟩ | intro _); conv => whnf))
        refine finC2 rfl rfl (ldN tab_ok (by (repeat constructor); first | done | fail) rfl rfl rfl rfl) rfl (fun w' hm => ⟨_, ⟨bA, pA, bc, pc, ?_, rfl⟩, ?_⟩)
        ·rw [readA, readE, if_neg hshort, if_neg hshort, hr]; rfl
        ·rw [readA, if_neg hshort, hr]; exact hm.sel (by (repeat constructor); first | done | fail)
       ·have hbad : ¬ (mayB Z = true ∧ lineL Z = l) := fun h => hne2 (congrArg Str h.2)
        conv => whnf
        (repeat ((first | refine stp (by (repeat constructor); first | done | fail) ?_ | refine stn (by (repeat constructor); first | done | fail) ?_ | refine sto (by (repeat constructor); first | done | fail) (by first | omega | (simp only; omega)) ?_ | refine .mk fun Ap capp => ?_ | refine ⟨?_, trivial⟩ | intro _); conv => whnf))
        exact ⟨k + 1, ⟨by omega, by omega, fun j h1 h2 h3 => (Nat.lt_succ_iff_lt_or_eq.1 h2).elim (fun h => hprev j h1 h h3) (fun e => by rw [e, hZ]; exact hbad)⟩, by omega, ⟨rfl, rfl, rfl, rfl, rfl, trivial⟩, SubM.sel (by (repeat constructor); first | done | fail)⟩
      ·have hbad : ¬ (mayB Z = true ∧ lineL Z = l) := fun h => by rw [hmay] at h; exact absurd h.1 (by decide)
       conv => whnf
       (repeat ((first | refine stp (by (repeat constructor); first | done | fail) ?_ | refine stn (by (repeat constructor); first | done | fail) ?_ | refine sto (by (repeat constructor); first | done | fail) (by first | omega | (simp only; omega)) ?_ | refine .mk fun Ap capp => ?_ | refine ⟨?_, trivial⟩ | intro _); conv => whnf))
       refine br_f rfl ?_
       conv => whnf
       (repeat ((first | refine stp (by (repeat constructor); first | done | fail) ?_ | refine stn (by (repeat constructor); first | done | fail) ?_ | refine sto (by (repeat constructor); first | done | fail) (by first | omega | (simp only; omega)) ?_ | refine .mk fun Ap capp => ?_ | refine ⟨?_, trivial⟩ | intro _); conv => whnf))
       exact ⟨k + 1, ⟨by omega, by omega, fun j h1 h2 h3 => (Nat.lt_succ_iff_lt_or_eq.1 h2).elim (fun h => hprev j h1 h h3) (fun e => by rw [e, hZ]; exact hbad)⟩, by omega, ⟨rfl, rfl, rfl, rfl, rfl, trivial⟩, SubM.sel (by (repeat constructor); first | done | fail)⟩
   ·conv => whnf
    (repeat ((first | refine stp (by (repeat constructor); first | done | fail) ?_ | refine stn (by (repeat constructor); first | done | fail) ?_ | refine sto (by (repeat constructor); first | done | fail) (by first | omega | (simp only; omega)) ?_ | refine .mk fun Ap capp => ?_ | refine ⟨?_, trivial⟩ | intro _); conv => whnf))
    exact ⟨k + 1, ⟨by omega, by omega, fun j h1 h2 h3 => (Nat.lt_succ_iff_lt_or_eq.1 h2).elim (fun h => hprev j h1 h h3) (fun e => absurd (congrArg Str (e ▸ h3)) hd)⟩, by omega, ⟨rfl, rfl, rfl, rfl, rfl, trivial⟩, SubM.sel (by (repeat constructor); first | done | fail)⟩
theorem rRead_enters : Eng.Enters Tryz.prog 13 := enters_mk fun _ _ => by kernel_rfl
end Go.Proofs.YtbfbjgakmnckbaaGreatDoor
namespace Go.Proofs.YtbfbjgakmnckbaaGreatDoor
open Go Go.RowKit Eng
attribute [local irreducible] Br Rn RnU Cl RdG CpG Ld Rd Lp Dr Oth Cut fin Fits Eng.Enters Md NA
theorem rtext_enters : Eng.Enters Tryz.prog 29 := enters_mk fun _ _ => by kernel_rfl
theorem firstBad_le (l : List PAct) : firstBad l ≤ l.length := (List.takeWhile_sublist mayB (l := l)).length_le
theorem firstBad_all {l : List PAct} (h : ∀ x ∈ l, mayB x = true) : firstBad l = l.length := tw_all mayB l h
set_option maxRecDepth 100000 in
set_option maxHeartbeats 1000000 in
theorem rtext_any (A : Option Addr) (c : Nat) (L : List LA) (w : World) (hL : ActsW w A L) (hn : L.length ≤ 1048576) (hB : ∀ x ∈ L, mayB x.a = true → (lineL x.a).length ≤ 1099511627776) :
  Calls Tryz.prog 29 #[.slice A L.length c] w fun e w' => e = .returned (.tuple #[.string (Str (textR (L.map LA.a)).1), .int .i64 (textR (L.map LA.a)).2.1, .int .i64 (textR (L.map LA.a)).2.2]) ∧ Fr (fun _ => False) w w' := by
 refine enter (cx := CX 44 [] w) [(0, .slice A L.length c)] tab_ok Tryz.func29 rfl rfl rfl rfl (MemOk.nil w _) ?_
 conv => whnf
 (repeat ((first | refine stp (by (repeat constructor); first | done | fail) ?_ | refine stn (by (repeat constructor); first | done | fail) ?_ | refine sto (by (repeat constructor); first | done | fail) (by first | omega | (simp only; omega)) ?_ | refine .mk fun Ap capp => ?_ | refine ⟨?_, trivial⟩ | intro _); conv => whnf))
 refine br_d (fun hbig => ?_) (fun hbig => ?_)
 ·conv => whnf
  refine fin3 rfl rfl rfl rfl (fun w' hm => ⟨?_, hm.fr⟩)
  rw [textR, List.length_map, if_pos (by omega)]
 conv => whnf
 (repeat ((first | refine stp (by (repeat constructor); first | done | fail) ?_ | refine stn (by (repeat constructor); first | done | fail) ?_ | refine sto (by (repeat constructor); first | done | fail) (by first | omega | (simp only; omega)) ?_ | refine .mk fun Ap capp => ?_ | refine ⟨?_, trivial⟩ | intro _); conv => whnf))
 refine lp tab_ok (γ := Nat) (fun i => i ≤ L.length ∧ ∀ x ∈ (L.map LA.a).take i, mayB x = true) (fun i => [(5, .int .i64 i), (0, .slice A L.length c)]) (fun _ => []) (fun i => L.length - i) 0 ⟨by omega, fun x h => by simp at h⟩ ⟨rfl, rfl, trivial⟩ (SubM.refl _ _) ?_
 rintro i ⟨hi, hok⟩
 change XC _ _ _ [(5, .int .i64 (i : Int)), (0, .slice A L.length c)] []
 conv => whnf
 refine br_d (fun hlt => ?_) (fun hge => ?_)
 ·have hlt' : i < L.length := by omega
  have hx := List.getElem?_eq_getElem hlt'
  have hpl := hL.acts.plain (by omega)
  generalize L[i] = x at hx
  have hxm := List.mem_of_getElem? hx
  have hxa : (L.map LA.a)[i]? = some x.a := by rw [List.getElem?_map, hx]; rfl
  conv => whnf
  (repeat ((first | refine stp (by (repeat constructor); first | done | fail) ?_ | refine stn (by (repeat constructor); first | done | fail) ?_ | refine sto (by (repeat constructor); first | done | fail) (by first | omega | (simp only; omega)) ?_ | refine .mk fun Ap capp => ?_ | refine ⟨?_, trivial⟩ | intro _); conv => whnf))
  refine And.intro ⟨by omega, by omega, hpl⟩ ?_
  conv => whnf
  refine rn_load (hL.acts.ld rfl rfl (fun _ h => h) hx) ?_
  conv => whnf
  refine ⟨may_enters, cl_same _ (fun w' hm' => may_any x.a x.bA x.pA x.bc x.pc w' ((hL.acts.act x hxm).stb hm'.fr)) ?_⟩
  cases hmay : mayB x.a with
  | false =>
   conv => whnf
   (repeat ((first | refine stp (by (repeat constructor); first | done | fail) ?_ | refine stn (by (repeat constructor); first | done | fail) ?_ | refine sto (by (repeat constructor); first | done | fail) (by first | omega | (simp only; omega)) ?_ | refine .mk fun Ap capp => ?_ | refine ⟨?_, trivial⟩ | intro _); conv => whnf))
   refine br_t rfl ?_
   conv => whnf
   (repeat ((first | refine stp (by (repeat constructor); first | done | fail) ?_ | refine stn (by (repeat constructor); first | done | fail) ?_ | refine sto (by (repeat constructor); first | done | fail) (by first | omega | (simp only; omega)) ?_ | refine .mk fun Ap capp => ?_ | refine ⟨?_, trivial⟩ | intro _); conv => whnf))
   refine fin3 rfl rfl rfl rfl (fun w' hm => ⟨?_, hm.fr⟩)
   have hfb : firstBad (L.map LA.a) = i := tw_at mayB _ i x.a hxa hok hmay
   rw [textR, List.length_map, if_neg (by omega), hfb, if_pos hlt']
  | true =>
   conv => whnf
   (repeat ((first | refine stp (by (repeat constructor); first | done | fail) ?_ | refine stn (by (repeat constructor); first | done | fail) ?_ | refine sto (by (repeat constructor); first | done | fail) (by first | omega | (simp only; omega)) ?_ | refine .mk fun Ap capp => ?_ | refine ⟨?_, trivial⟩ | intro _); conv => whnf))
   refine br_f rfl ?_
   conv => whnf
   (repeat ((first | refine stp (by (repeat constructor); first | done | fail) ?_ | refine stn (by (repeat constructor); first | done | fail) ?_ | refine sto (by (repeat constructor); first | done | fail) (by first | omega | (simp only; omega)) ?_ | refine .mk fun Ap capp => ?_ | refine ⟨?_, trivial⟩ | intro _); conv => whnf))
   refine ⟨i + 1, ⟨by omega, fun y hy => ?_⟩, by omega, ⟨rfl, rfl, trivial⟩, SubM.refl _ _⟩
   rw [List.take_add_one, hxa] at hy
   rcases List.mem_append.1 hy with hy | hy
   ·exact hok y hy
   ·simp at hy; subst hy; exact hmay
 ·have hil : i = L.length := by omega
  rw [List.take_of_length_le (by simp; omega)] at hok
  have hall : ∀ x ∈ L, mayB x.a = true := fun x hx => hok x.a (List.mem_map.2 ⟨x, hx, rfl⟩)
  have hfb := firstBad_all hok
  rw [List.length_map] at hfb
  clear hil hge hi
  conv => whnf
  (repeat ((first | refine stp (by (repeat constructor); first | done | fail) ?_ | refine stn (by (repeat constructor); first | done | fail) ?_ | refine sto (by (repeat constructor); first | done | fail) (by first | omega | (simp only; omega)) ?_ | refine .mk fun Ap capp => ?_ | refine ⟨?_, trivial⟩ | intro _); conv => whnf))
  refine lp tab_ok (γ := Nat) (fun i => i ≤ L.length ∧ (textL ((L.map LA.a).take i)).length ≤ 1048576) (fun i => [(7, .int .i64 i), (0, .slice A L.length c), (6, .string (Str (textL ((L.map LA.a).take i))))]) (fun _ => []) (fun i => L.length - i) 0 ⟨by omega, by simp [textL]⟩ ⟨rfl, rfl, rfl, trivial⟩ (SubM.refl _ _) ?_
  rintro i ⟨hi, hlen⟩
  change XC _ _ _ [(7, .int .i64 (i : Int)), (0, .slice A L.length c), (6, .string (Str (textL ((L.map LA.a).take i))))] []
  conv => whnf
  refine br_d (fun hlt => ?_) (fun hge => ?_)
  ·have hlt' : i < L.length := by omega
   have hx := List.getElem?_eq_getElem hlt'
   have hpl := hL.acts.plain (by omega)
   generalize L[i] = x at hx
   have hxm := List.mem_of_getElem? hx
   have hxa : (L.map LA.a)[i]? = some x.a := by rw [List.getElem?_map, hx]; rfl
   have hlx := hB x hxm (hall x hxm)
   conv => whnf
   (repeat ((first | refine stp (by (repeat constructor); first | done | fail) ?_ | refine stn (by (repeat constructor); first | done | fail) ?_ | refine sto (by (repeat constructor); first | done | fail) (by first | omega | (simp only; omega)) ?_ | refine .mk fun Ap capp => ?_ | refine ⟨?_, trivial⟩ | intro _); conv => whnf))
   refine And.intro ⟨by omega, by omega, hpl⟩ ?_
   conv => whnf
   refine rn_load (hL.acts.ld rfl rfl (fun _ h => h) hx) ?_
   conv => whnf
   refine ⟨rline_enters, cl_same _ (fun w' hm' => rline_any x.a x.bA x.pA x.bc x.pc w' ((hL.get hxm).stb hm'.fr) (hall x hxm)) ?_⟩
   conv => whnf
   (repeat ((first | refine stp (by (repeat constructor); first | done | fail) ?_ | refine stn (by (repeat constructor); first | done | fail) ?_ | refine sto (by (repeat constructor); first | done | fail) (by first | omega | (simp only; omega)) ?_ | refine .mk fun Ap capp => ?_ | refine ⟨?_, trivial⟩ | intro _); conv => whnf))
   have hs1 : (Str (textL ((L.map LA.a).take i))).size + (Str (lineL x.a)).size ≤ 9223372036854775807 := by rw [Str.size, Str.size]; omega
   refine And.intro hs1 ?_
   rw [Str.append]
   conv => whnf
   have hs2 : (Str (textL ((L.map LA.a).take i) ++ lineL x.a)).size + (⟨#[10]⟩ : ByteArray).size ≤ 9223372036854775807 := by rw [Str.size, List.length_append]; show _ + 1 ≤ _; omega
   refine And.intro hs2 ?_
   rw [show (Str (textL ((L.map LA.a).take i) ++ lineL x.a) ++ ⟨#[10]⟩ : ByteArray) = Str (textL ((L.map LA.a).take i) ++ lineL x.a ++ [10]) from Str.append _ [10], List.append_assoc, ← textL_take hxa]
   have hsz := Str.size (textL ((L.map LA.a).take (i + 1)))
   conv => whnf
   (repeat ((first | refine stp (by (repeat constructor); first | done | fail) ?_ | refine stn (by (repeat constructor); first | done | fail) ?_ | refine sto (by (repeat constructor); first | done | fail) (by first | omega | (simp only; omega)) ?_ | refine .mk fun Ap capp => ?_ | refine ⟨?_, trivial⟩ | intro _); conv => whnf))
   refine br_d (fun hb => ?_) (fun hb => ?_)
   ·conv => whnf
    refine fin3 rfl rfl rfl rfl (fun w' hm => ⟨?_, hm.fr⟩)
    have := textL_le (L.map LA.a) (i + 1)
    rw [textR, List.length_map, if_neg (by omega), if_neg (by omega), if_pos (by omega)]
   ·conv => whnf
    (repeat ((first | refine stp (by (repeat constructor); first | done | fail) ?_ | refine stn (by (repeat constructor); first | done | fail) ?_ | refine sto (by (repeat constructor); first | done | fail) (by first | omega | (simp only; omega)) ?_ | refine .mk fun Ap capp => ?_ | refine ⟨?_, trivial⟩ | intro _); conv => whnf))
    exact ⟨i + 1, ⟨by omega, by omega⟩, by omega, ⟨rfl, rfl, rfl, trivial⟩, SubM.refl _ _⟩
  ·have hil : i = L.length := by omega
   conv => whnf
   (repeat ((first | refine stp (by (repeat constructor); first | done | fail) ?_ | refine stn (by (repeat constructor); first | done | fail) ?_ | refine sto (by (repeat constructor); first | done | fail) (by first | omega | (simp only; omega)) ?_ | refine .mk fun Ap capp => ?_ | refine ⟨?_, trivial⟩ | intro _); conv => whnf))
   refine fin3 rfl rfl rfl rfl (fun w' hm => ⟨?_, hm.fr⟩)
   rw [List.take_of_length_le (by simp; omega)] at hlen ⊢
   rw [textR, List.length_map, if_neg (by omega), if_neg (by omega), if_neg (by omega)]
end Go.Proofs.YtbfbjgakmnckbaaGreatDoor
namespace Go.Proofs.YtbfbjgakmnckbaaGreatDoor
open Go Go.RowKit Eng
section
variable {cx : Cx}
/-- append onto a row that is owned, of a slice whose cells are known. -/
theorem rn_appV {m m' : Mem} {t e ty len : Nat} {i ti : TyI} {A : Option Addr} {cap n : Nat} {xs : List Value} {p : Option Addr} {c : Nat} (ys : List Value) (hlen : ys.length = len) (ht : TabOk cx.P cx.tab) {K : Value → Mem → Prop}
  (hi : cx.tab.get t = some i) (hk : i.kind = .slice e) (hti : cx.tab.get e = some ti) (hz : ti.zero.length = ti.cells) (hs : ti.cells = 1) (hp : (Nat.ble 1 ti.cells && Nat.ble ti.bytes 4096) = true)
  (hu : Out m (.row A cap n e 1 xs) m') (hy : ∀ w, MemOk cx.w0 cx.S m w → 0 < len → ∃ b o, p = some ⟨b, o, none⟩ ∧ ∀ j u, ys[j]? = some u → w.cell? ⟨b, o + j, none⟩ = some u) (h1 : allOne ys = true)
  (hb : n + len ≤ 34359738368) (hK : ∀ A' cap', K (.slice A' (n + len) cap') (.row A' cap' (n + len) e 1 (xs ++ ys) :: m')) :
  Rn cx m (Builtin.append_ #[t, t] ty #[.slice A n cap, .slice p len c]) K := by
 subst hlen
 by_cases h0 : ys = []
 ·subst h0
  intro w hm
  obtain ⟨inf, z, g1, g2, g3, g4, g5⟩ := TyI.zeroOf (ht _ _ hti)
  have hm1 := hm.perm hu.perm
  have hown : w.ownsRow 0 e 1 (.slice A n cap) n xs := hm1.ok _ (List.mem_cons_self ..)
  have hr := run_append_zero (P := cx.P) 0 t ty e inf 1 (TyI.sliceOf (ht _ _ hi) hk) g1 _ n xs hown p c
  have := hK A cap
  simp only [List.length_nil, Nat.add_zero, List.append_nil] at this
  exact ⟨_, w, _, hr, hm1, this⟩
 ·intro w hm
  have hpos : 0 < ys.length := List.length_pos_iff.2 h0
  obtain ⟨b, o, rfl, _⟩ := hy w hm hpos
  refine rn_app (cx := cx) (news := ys) (a := ⟨b, o, none⟩) (k := ys.length) (size := 1) ht hi hk hti hz hs hp hu (by simp) (fun w' hm' j u hj => ?_) h1 hb hK w hm
  obtain ⟨b', o', hbo, hc⟩ := hy w' hm' hpos
  injection hbo with hbo; injection hbo with e1 e2; subst e1 e2
  rw [Addr.add_lit]
  exact hc j u hj
end
theorem allOne_strs : ∀ l : List (List UInt8), allOne (strsOf l) = true
 | [] => rfl
 | _ :: r => allOne_strs r
/-- A part of a row of strings, where its slice begins. -/
theorem strs_part {w : World} {A : Option Addr} {cap : Nat} {l : List (List UInt8)} (hr : (Res.row A cap l.length 9 1 (strsOf l)).ok w) (hcap : l.length ≤ cap) (i k : Nat) (hik : i + k ≤ l.length) (h0 : 0 < k) :
  ∃ b o, cutA A cap i 1 = some ⟨b, o, none⟩ ∧ ∀ j u, (strsOf ((l.drop i).take k))[j]? = some u → w.cell? ⟨b, o + j, none⟩ = some u := by
 obtain ⟨b, rfl, _⟩ := row_cell hr (j := 0) (v := .string (Str (l.getD 0 []))) (by rw [strsOf, List.getElem?_map, List.getD, List.getElem?_eq_getElem (by omega)]; rfl)
 refine ⟨b, i, ?_, fun j u hj => ?_⟩
 ·unfold cutA
  rw [if_neg (by omega), mulC_eq, Nat.mul_one]
  show some (⟨b, 0 + i, none⟩ : Addr) = _
  rw [Nat.zero_add]
 ·have hjk : j < k := by
   have := (List.getElem?_eq_some_iff.1 hj).1
   rw [strsOf, List.length_map, List.length_take] at this
   omega
  have hj2 : (strsOf l)[i + j]? = some u := by
   rw [strsOf, List.getElem?_map] at hj ⊢
   rw [List.getElem?_take_of_lt hjk, List.getElem?_drop] at hj
   exact hj
  obtain ⟨b', e, hc⟩ := row_cell hr hj2
  injection e with e; injection e with e; subst e
  exact hc
attribute [local irreducible] Br Rn RnU Cl RdG CpG Ld Rd Lp Dr Oth Cut fin Fits Eng.Enters Md NA
theorem with_enters : Eng.Enters Tryz.prog 68 := enters_mk fun _ _ => by kernel_rfl
/-- How many names stand before a name. -/
def insK (l : List (List UInt8)) (s : List UInt8) : Nat := (l.takeWhile fun x => Op.bytesLess x s).length
/-- A rising list with a name that is not empty. -/
def insL (l : List (List UInt8)) (s : List UInt8) : List (List UInt8) := if s = [] then l else if l[insK l s]? = some s then l else l.take (insK l s) ++ (s :: l.drop (insK l s))
abbrev StM (A : Option Addr) (cap : Nat) (l : List (List UInt8)) : Mem := [.row A cap l.length 9 1 (strsOf l)]
theorem strs_get {l : List (List UInt8)} {i : Nat} (h : i < l.length) : (strsOf l)[i]? = some (.string (Str (l.getD i []))) := by
 rw [strsOf, List.getElem?_map, List.getD, List.getElem?_eq_getElem h]; rfl
set_option maxRecDepth 100000 in
set_option maxHeartbeats 1000000 in
theorem with_any (A : Option Addr) (cap : Nat) (l : List (List UInt8)) (s : List UInt8) (w : World) (hn : l.length ≤ 1048576) (hm : MemOk w (Foot (StM A cap l)) (StM A cap l) w) :
  Ctr Tryz.prog 68 [.slice A l.length cap, .string (Str s)] (StM A cap l) (fun e m' => ∃ A' cap', e = .returned (.slice A' (insL l s).length cap') ∧ m' = StM A' cap' (insL l s)) w := by
 have hplA : 0 < l.length → Pl A := fun h => by
  obtain ⟨b, e, _⟩ := row_cell (hm.ok _ (List.mem_cons_self ..)) (strs_get h)
  exact ⟨b, 0, e⟩
 have hcap : l.length ≤ cap := by
  have hr : w.ownsRow 0 9 1 (.slice A l.length cap) l.length (strsOf l) := hm.ok _ (List.mem_cons_self ..)
  rcases hr.2 with ⟨_, h0⟩ | ⟨g, c', cur, e, _, _, h, _⟩
  ·omega
  ·injection e with _ _ e; omega
 have hA : A = none ∨ Pl A := by
  have hr : w.ownsRow 0 9 1 (.slice A l.length cap) l.length (strsOf l) := hm.ok _ (List.mem_cons_self ..)
  rcases hr.2 with ⟨e, h0⟩ | ⟨g, c', cur, e, _⟩
  ·injection e with e; exact .inl e
  ·injection e with e; exact .inr ⟨g, 0, e⟩
 refine enter (cx := CXS 51 [] w (Foot (StM A cap l))) [(0, .slice A l.length cap), (1, .string (Str s))] tab_ok Tryz.func68 rfl rfl rfl rfl hm ?_
 conv => whnf
 refine lp tab_ok (γ := Nat) (fun i => i ≤ l.length ∧ ∀ x ∈ l.take i, Op.bytesLess x s = true) (fun i => [(5, .int .i64 i), (0, .slice A l.length cap), (1, .string (Str s))]) (fun _ => StM A cap l) (fun i => l.length - i) 0 ⟨by omega, fun x h => by simp at h⟩ ⟨rfl, rfl, rfl, trivial⟩ (SubM.refl _ _) ?_
 rintro i ⟨hi, hlt⟩
 change XC _ _ _ [(5, .int .i64 (i : Int)), (0, .slice A l.length cap), (1, .string (Str s))] (StM A cap l)
 conv => whnf
 (repeat ((first | refine stp (by (repeat constructor); first | done | fail) ?_ | refine stn (by (repeat constructor); first | done | fail) ?_ | refine sto (by (repeat constructor); first | done | fail) (by first | omega | (simp only; omega)) ?_ | refine .mk fun Ap capp => ?_ | refine ⟨?_, trivial⟩ | intro _); conv => whnf))
 refine And.intro (fun hg => ⟨by omega, of_decide_eq_true hg, hplA (by have := of_decide_eq_true hg; omega)⟩) ?_
 conv => whnf
 refine ⟨.string (Str (l.getD i [])), ldg (fun hg => ldR tab_ok .here rfl rfl (strs_get (i := i) (by have := of_decide_eq_true hg; omega))), ?_⟩
 conv => whnf
 (repeat ((first | refine stp (by (repeat constructor); first | done | fail) ?_ | refine stn (by (repeat constructor); first | done | fail) ?_ | refine sto (by (repeat constructor); first | done | fail) (by first | omega | (simp only; omega)) ?_ | refine .mk fun Ap capp => ?_ | refine ⟨?_, trivial⟩ | intro _); conv => whnf))
 refine br (fun hb => ?_) (fun hb => ?_)
 ·rw [Bool.and_eq_true] at hb
  have hlt' : i < l.length := by have := of_decide_eq_true hb.1; omega
  conv => whnf
  (repeat ((first | refine stp (by (repeat constructor); first | done | fail) ?_ | refine stn (by (repeat constructor); first | done | fail) ?_ | refine sto (by (repeat constructor); first | done | fail) (by first | omega | (simp only; omega)) ?_ | refine .mk fun Ap capp => ?_ | refine ⟨?_, trivial⟩ | intro _); conv => whnf))
  refine ⟨i + 1, ⟨by omega, fun y hy => ?_⟩, by omega, ⟨rfl, rfl, rfl, trivial⟩, SubM.refl _ _⟩
  rw [List.take_add_one, List.getElem?_eq_getElem hlt'] at hy
  rcases List.mem_append.1 hy with hy | hy
  ·exact hlt y hy
  ·simp only [Option.toList_some, List.mem_singleton] at hy
   subst hy
   have := hb.2
   rw [List.getD, List.getElem?_eq_getElem hlt'] at this
   exact this
 ·have hk : insK l s = i := by
   by_cases hl : i < l.length
   ·refine tw_at _ l i l[i] (List.getElem?_eq_getElem hl) hlt ?_
    have h1 : decide ((i : Int) < (l.length : Int)) = true := decide_eq_true (by omega)
    rw [h1, Bool.true_and, List.getD, List.getElem?_eq_getElem hl] at hb
    exact hb
   ·rw [show i = l.length by omega]
    exact tw_all _ l (fun x hx => hlt x (by rw [List.take_of_length_le (by omega)]; exact hx))
  clear hb hlt
  conv => whnf
  (repeat ((first | refine stp (by (repeat constructor); first | done | fail) ?_ | refine stn (by (repeat constructor); first | done | fail) ?_ | refine sto (by (repeat constructor); first | done | fail) (by first | omega | (simp only; omega)) ?_ | refine .mk fun Ap capp => ?_ | refine ⟨?_, trivial⟩ | intro _); conv => whnf))
  refine br_d (fun hs => ?_) (fun hs => ?_)
  ·have hs0 : s = [] := Str.inj.1 hs
   conv => whnf
   (repeat ((first | refine stp (by (repeat constructor); first | done | fail) ?_ | refine stn (by (repeat constructor); first | done | fail) ?_ | refine sto (by (repeat constructor); first | done | fail) (by first | omega | (simp only; omega)) ?_ | refine .mk fun Ap capp => ?_ | refine ⟨?_, trivial⟩ | intro _); conv => whnf))
   refine br_t rfl ?_
   conv => whnf
   (repeat ((first | refine stp (by (repeat constructor); first | done | fail) ?_ | refine stn (by (repeat constructor); first | done | fail) ?_ | refine sto (by (repeat constructor); first | done | fail) (by first | omega | (simp only; omega)) ?_ | refine .mk fun Ap capp => ?_ | refine ⟨?_, trivial⟩ | intro _); conv => whnf))
   refine fin1 rfl rfl (fun w' hm => ⟨_, ⟨A, cap, ?_, ?_⟩, hm⟩)
   ·rw [insL, if_pos hs0]
   ·rw [insL, if_pos hs0]
  ·have hs0 : ¬ s = [] := fun h => hs (Str.inj.2 h)
   conv => whnf
   (repeat ((first | refine stp (by (repeat constructor); first | done | fail) ?_ | refine stn (by (repeat constructor); first | done | fail) ?_ | refine sto (by (repeat constructor); first | done | fail) (by first | omega | (simp only; omega)) ?_ | refine .mk fun Ap capp => ?_ | refine ⟨?_, trivial⟩ | intro _); conv => whnf))
   refine br_d (fun hl => ?_) (fun hl => ?_)
   ·have hl' : i < l.length := by omega
    have hget : l[i]? = some (l.getD i []) := by rw [List.getD, List.getElem?_eq_getElem hl']; rfl
    conv => whnf
    (repeat ((first | refine stp (by (repeat constructor); first | done | fail) ?_ | refine stn (by (repeat constructor); first | done | fail) ?_ | refine sto (by (repeat constructor); first | done | fail) (by first | omega | (simp only; omega)) ?_ | refine .mk fun Ap capp => ?_ | refine ⟨?_, trivial⟩ | intro _); conv => whnf))
    refine And.intro ⟨by omega, by omega, hplA (by omega)⟩ ?_
    conv => whnf
    refine rn_load (v := .string (Str (l.getD i []))) (ldR tab_ok .here rfl rfl (strs_get (i := i) hl')) ?_
    conv => whnf
    (repeat ((first | refine stp (by (repeat constructor); first | done | fail) ?_ | refine stn (by (repeat constructor); first | done | fail) ?_ | refine sto (by (repeat constructor); first | done | fail) (by first | omega | (simp only; omega)) ?_ | refine .mk fun Ap capp => ?_ | refine ⟨?_, trivial⟩ | intro _); conv => whnf))
    refine br_d (fun he => ?_) (fun he => ?_)
    ·have he' : l.getD i [] = s := Str.inj.1 he
     conv => whnf
     (repeat ((first | refine stp (by (repeat constructor); first | done | fail) ?_ | refine stn (by (repeat constructor); first | done | fail) ?_ | refine sto (by (repeat constructor); first | done | fail) (by first | omega | (simp only; omega)) ?_ | refine .mk fun Ap capp => ?_ | refine ⟨?_, trivial⟩ | intro _); conv => whnf))
     have hin : insL l s = l := by rw [insL, if_neg hs0, hk, hget, if_pos (by rw [he'])]
     refine fin1 rfl rfl (fun w' hm => ⟨_, ⟨A, cap, ?_, ?_⟩, hm⟩)
     ·rw [hin]
     ·rw [hin]
    ·have hin : insL l s = l.take i ++ (s :: l.drop i) := by rw [insL, if_neg hs0, hk, hget, if_neg (fun h => he (Str.inj.2 (Option.some.inj h)))]
     conv => whnf
     (repeat ((first | refine stp (by (repeat constructor); first | done | fail) ?_ | refine stn (by (repeat constructor); first | done | fail) ?_ | refine sto (by (repeat constructor); first | done | fail) (by first | omega | (simp only; omega)) ?_ | refine .mk fun Ap capp => ?_ | refine ⟨?_, trivial⟩ | intro _); conv => whnf))
     refine And.intro ⟨by omega, by omega, by omega, hA⟩ ?_
     conv => whnf
     refine rn_subm (SubM.row0 (SubM.refl _ _) 9 1) ?_
     refine rn_appV (strsOf (l.take i)) (by rw [strsOf, List.length_map, List.length_take]; show min i l.length = i - 0; omega) tab_ok rfl rfl rfl rfl rfl rfl .here (fun w' hm' h0 => ?_) (allOne_strs _) (by show 0 + (i - 0) ≤ _; omega) (fun A1 c1 => ?_)
     ·have := strs_part (hm'.ok _ (List.mem_cons_of_mem _ (List.mem_cons_self ..))) hcap 0 i (by omega) (by have : 0 < i - 0 := h0; omega)
      rw [List.drop_zero] at this
      exact this
     conv => whnf
     (repeat ((first | refine stp (by (repeat constructor); first | done | fail) ?_ | refine stn (by (repeat constructor); first | done | fail) ?_ | refine sto (by (repeat constructor); first | done | fail) (by first | omega | (simp only; omega)) ?_ | refine .mk fun Ap capp => ?_ | refine ⟨?_, trivial⟩ | intro _); conv => whnf))
     refine And.intro ⟨by omega, by omega, by omega, hA⟩ ?_
     conv => whnf
     refine rn_appV (strsOf (l.drop i)) (by rw [strsOf, List.length_map, List.length_drop]; rfl) tab_ok rfl rfl rfl rfl rfl rfl .here (fun w' hm' h0 => ?_) (allOne_strs _) (by show 0 + (i - 0) + 1 + (l.length - i) ≤ _; omega) (fun A2 c2 => ?_)
     ·have h0 : 0 < l.length - i := h0
      have := strs_part (hm'.ok (.row A cap l.length 9 1 (strsOf l)) (by simp)) hcap i (l.length - i) (by omega) h0
      rw [List.take_of_length_le (by simp)] at this
      exact this
     conv => whnf
     (repeat ((first | refine stp (by (repeat constructor); first | done | fail) ?_ | refine stn (by (repeat constructor); first | done | fail) ?_ | refine sto (by (repeat constructor); first | done | fail) (by first | omega | (simp only; omega)) ?_ | refine .mk fun Ap capp => ?_ | refine ⟨?_, trivial⟩ | intro _); conv => whnf))
     have e1 : (insL l s).length = 0 + (i - 0) + 1 + (l.length - i) := by rw [hin]; simp; omega
     have e2 : strsOf (insL l s) = [] ++ strsOf (l.take i) ++ [.string (Str s)] ++ strsOf (l.drop i) := by rw [hin]; simp [strsOf]
     refine fin1 rfl rfl (fun w' hm => ⟨_, ⟨A2, c2, by rw [e1]; rfl, rfl⟩, ?_⟩)
     show MemOk _ _ [.row A2 c2 (insL l s).length 9 1 (strsOf (insL l s))] _
     rw [e1, e2]
     exact hm.sel (by (repeat constructor); first | done | fail)
   ·have hin : insL l s = l.take i ++ (s :: l.drop i) := by rw [insL, if_neg hs0, hk, List.getElem?_eq_none (by omega), if_neg (by simp)]
    conv => whnf
    (repeat ((first | refine stp (by (repeat constructor); first | done | fail) ?_ | refine stn (by (repeat constructor); first | done | fail) ?_ | refine sto (by (repeat constructor); first | done | fail) (by first | omega | (simp only; omega)) ?_ | refine .mk fun Ap capp => ?_ | refine ⟨?_, trivial⟩ | intro _); conv => whnf))
    refine br_f rfl ?_
    conv => whnf
    (repeat ((first | refine stp (by (repeat constructor); first | done | fail) ?_ | refine stn (by (repeat constructor); first | done | fail) ?_ | refine sto (by (repeat constructor); first | done | fail) (by first | omega | (simp only; omega)) ?_ | refine .mk fun Ap capp => ?_ | refine ⟨?_, trivial⟩ | intro _); conv => whnf))
    refine And.intro ⟨by omega, by omega, by omega, hA⟩ ?_
    conv => whnf
    refine rn_subm (SubM.row0 (SubM.refl _ _) 9 1) ?_
    refine rn_appV (strsOf (l.take i)) (by rw [strsOf, List.length_map, List.length_take]; show min i l.length = i - 0; omega) tab_ok rfl rfl rfl rfl rfl rfl .here (fun w' hm' h0 => ?_) (allOne_strs _) (by show 0 + (i - 0) ≤ _; omega) (fun A1 c1 => ?_)
    ·have := strs_part (hm'.ok _ (List.mem_cons_of_mem _ (List.mem_cons_self ..))) hcap 0 i (by omega) (by have : 0 < i - 0 := h0; omega)
     rw [List.drop_zero] at this
     exact this
    conv => whnf
    (repeat ((first | refine stp (by (repeat constructor); first | done | fail) ?_ | refine stn (by (repeat constructor); first | done | fail) ?_ | refine sto (by (repeat constructor); first | done | fail) (by first | omega | (simp only; omega)) ?_ | refine .mk fun Ap capp => ?_ | refine ⟨?_, trivial⟩ | intro _); conv => whnf))
    refine And.intro ⟨by omega, by omega, by omega, hA⟩ ?_
    conv => whnf
    refine rn_appV (strsOf (l.drop i)) (by rw [strsOf, List.length_map, List.length_drop]; rfl) tab_ok rfl rfl rfl rfl rfl rfl .here (fun w' hm' h0 => ?_) (allOne_strs _) (by show 0 + (i - 0) + 1 + (l.length - i) ≤ _; omega) (fun A2 c2 => ?_)
    ·have h0 : 0 < l.length - i := h0
     have := strs_part (hm'.ok (.row A cap l.length 9 1 (strsOf l)) (by simp)) hcap i (l.length - i) (by omega) h0
     rw [List.take_of_length_le (by simp)] at this
     exact this
    conv => whnf
    (repeat ((first | refine stp (by (repeat constructor); first | done | fail) ?_ | refine stn (by (repeat constructor); first | done | fail) ?_ | refine sto (by (repeat constructor); first | done | fail) (by first | omega | (simp only; omega)) ?_ | refine .mk fun Ap capp => ?_ | refine ⟨?_, trivial⟩ | intro _); conv => whnf))
    have e1 : (insL l s).length = 0 + (i - 0) + 1 + (l.length - i) := by rw [hin]; simp; omega
    have e2 : strsOf (insL l s) = [] ++ strsOf (l.take i) ++ [.string (Str s)] ++ strsOf (l.drop i) := by rw [hin]; simp [strsOf]
    refine fin1 rfl rfl (fun w' hm => ⟨_, ⟨A2, c2, by rw [e1]; rfl, rfl⟩, ?_⟩)
    show MemOk _ _ [.row A2 c2 (insL l s).length 9 1 (strsOf (insL l s))] _
    rw [e1, e2]
    exact hm.sel (by (repeat constructor); first | done | fail)
end Go.Proofs.YtbfbjgakmnckbaaGreatDoor
namespace Go.Proofs.YtbfbjgakmnckbaaGreatDoor
open Go Go.RowKit Eng
attribute [local irreducible] Br Rn RnU Cl RdG CpG Ld Rd Lp Dr Oth Cut fin Fits Eng.Enters Md NA
theorem rnames_enters : Eng.Enters Tryz.prog 32 := enters_mk fun _ _ => by kernel_rfl
/-- Has an act of this kind a second image? -/
def twoK (k : Int) : Bool := decide (k = 1) || (decide (k = 19) || (decide (k = 20) || decide (k = 21)))
def namesStep (l : List (List UInt8)) (a : PAct) : List (List UInt8) := if twoK a.kind then insL (insL l (bs a.name)) (bs a.other) else insL l (bs a.name)
/-- The images' names, rising. -/
def namesR (l : List PAct) : List (List UInt8) := l.foldl namesStep []
theorem namesR_take {l : List PAct} {i : Nat} {a : PAct} (h : l[i]? = some a) : namesR (l.take (i + 1)) = namesStep (namesR (l.take i)) a := by
 rw [List.take_add_one, h]; simp [namesR]
theorem insL_len (l : List (List UInt8)) (s : List UInt8) : (insL l s).length ≤ l.length + 1 := by
 unfold insL
 split
 ·omega
 ·split
  ·omega
  ·simp only [List.length_append, List.length_take, List.length_cons, List.length_drop]; omega
theorem namesStep_len (l : List (List UInt8)) (a : PAct) : (namesStep l a).length ≤ l.length + 2 := by
 unfold namesStep
 have h1 := insL_len l (bs a.name)
 have h2 := insL_len (insL l (bs a.name)) (bs a.other)
 split <;> omega
set_option maxRecDepth 100000 in
set_option maxHeartbeats 1000000 in
theorem rnames_any (A : Option Addr) (c : Nat) (L : List LA) (w : World) (hL : ActsIn w A L) (hn : L.length ≤ 65536) :
  Ctr Tryz.prog 32 [.slice A L.length c] [] (fun e m' => ∃ A' c', e = .returned (.slice A' (namesR (L.map LA.a)).length c') ∧ m' = StM A' c' (namesR (L.map LA.a))) w := by
 have hF : ∀ w', Fr (Foot []) w w' → Fr (fun _ => False) w w' := fun w' hf => hf.mono (fun k _ ⟨r, hr, _⟩ => by cases hr)
 refine enter (cx := CXS 36 [] w (Foot [])) [(0, .slice A L.length c)] tab_ok Tryz.func32 rfl rfl rfl rfl (MemOk.nil w _) ?_
 conv => whnf
 (repeat ((first | refine stp (by (repeat constructor); first | done | fail) ?_ | refine stn (by (repeat constructor); first | done | fail) ?_ | refine sto (by (repeat constructor); first | done | fail) (by first | omega | (simp only; omega)) ?_ | refine .mk fun Ap capp => ?_ | refine ⟨?_, trivial⟩ | intro _); conv => whnf))
 refine lp tab_ok (γ := Nat × Option Addr × Nat) (fun g => g.1 ≤ L.length ∧ (namesR ((L.map LA.a).take g.1)).length ≤ 2 * g.1) (fun g => [(4, .int .i64 g.1), (0, .slice A L.length c), (3, .slice g.2.1 (namesR ((L.map LA.a).take g.1)).length g.2.2)]) (fun g => StM g.2.1 g.2.2 (namesR ((L.map LA.a).take g.1))) (fun g => L.length - g.1) (0, none, 0) ⟨by omega, by simp [namesR]⟩ ⟨rfl, rfl, rfl, trivial⟩ (SubM.row0 (SubM.refl _ _) 9 1) ?_
 rintro ⟨i, oA, oc⟩ ⟨hi, hlen⟩
 simp only at hi hlen
 change XC _ _ _ [(4, .int .i64 (i : Int)), (0, .slice A L.length c), (3, .slice oA (namesR ((L.map LA.a).take i)).length oc)] (StM oA oc (namesR ((L.map LA.a).take i)))
 conv => whnf
 refine br_d (fun hlt => ?_) (fun hge => ?_)
 ·have hlt' : i < L.length := by omega
  have hx := List.getElem?_eq_getElem hlt'
  have hpl := hL.plain (by omega)
  generalize L[i] = x at hx
  have hxa : (L.map LA.a)[i]? = some x.a := by rw [List.getElem?_map, hx]; rfl
  have hstep := namesR_take hxa
  have hsl := namesStep_len (namesR ((L.map LA.a).take i)) x.a
  generalize namesR ((L.map LA.a).take i) = l at hlen hstep hsl
  have hi1 := insL_len l (bs x.a.name)
  conv => whnf
  (repeat ((first | refine stp (by (repeat constructor); first | done | fail) ?_ | refine stn (by (repeat constructor); first | done | fail) ?_ | refine sto (by (repeat constructor); first | done | fail) (by first | omega | (simp only; omega)) ?_ | refine .mk fun Ap capp => ?_ | refine ⟨?_, trivial⟩ | intro _); conv => whnf))
  refine And.intro ⟨by omega, by omega, hpl⟩ ?_
  conv => whnf
  refine And.intro (hpl.pl _) ?_
  conv => whnf
  (repeat ((first | refine stp (by (repeat constructor); first | done | fail) ?_ | refine stn (by (repeat constructor); first | done | fail) ?_ | refine sto (by (repeat constructor); first | done | fail) (by first | omega | (simp only; omega)) ?_ | refine .mk fun Ap capp => ?_ | refine ⟨?_, trivial⟩ | intro _); conv => whnf))
  refine rn_load (v := .string x.a.name) (hL.ldF rfl rfl foot_no (j := 1) hx rfl rfl rfl) ?_
  rw [← Str_bs x.a.name]
  conv => whnf
  refine ⟨with_enters, cl_mem (m1 := StM oA oc l) (by (repeat constructor); first | done | fail) (fun w' hm' => with_any oA oc l (bs x.a.name) w' (by omega) hm'.part) ?_⟩
  rintro e m' ⟨oA1, oc1, rfl, rfl⟩
  conv => whnf
  (repeat ((first | refine stp (by (repeat constructor); first | done | fail) ?_ | refine stn (by (repeat constructor); first | done | fail) ?_ | refine sto (by (repeat constructor); first | done | fail) (by first | omega | (simp only; omega)) ?_ | refine .mk fun Ap capp => ?_ | refine ⟨?_, trivial⟩ | intro _); conv => whnf))
  refine And.intro ⟨by omega, by omega, hpl⟩ ?_
  conv => whnf
  refine And.intro (hpl.pl _) ?_
  conv => whnf
  (repeat ((first | refine stp (by (repeat constructor); first | done | fail) ?_ | refine stn (by (repeat constructor); first | done | fail) ?_ | refine sto (by (repeat constructor); first | done | fail) (by first | omega | (simp only; omega)) ?_ | refine .mk fun Ap capp => ?_ | refine ⟨?_, trivial⟩ | intro _); conv => whnf))
  refine rn_load (v := .int .i64 x.a.kind) (hL.ldF rfl rfl foot_no (j := 0) hx rfl rfl rfl) ?_
  conv => whnf
  (repeat ((first | refine stp (by (repeat constructor); first | done | fail) ?_ | refine stn (by (repeat constructor); first | done | fail) ?_ | refine sto (by (repeat constructor); first | done | fail) (by first | omega | (simp only; omega)) ?_ | refine .mk fun Ap capp => ?_ | refine ⟨?_, trivial⟩ | intro _); conv => whnf))
  refine br_d (fun h1 => ?_) (fun h1 => ?_)
  ·conv => whnf
   (repeat ((first | refine stp (by (repeat constructor); first | done | fail) ?_ | refine stn (by (repeat constructor); first | done | fail) ?_ | refine sto (by (repeat constructor); first | done | fail) (by first | omega | (simp only; omega)) ?_ | refine .mk fun Ap capp => ?_ | refine ⟨?_, trivial⟩ | intro _); conv => whnf))
   refine br_t (decide_eq_true h1) ?_
   conv => whnf
   (repeat ((first | refine stp (by (repeat constructor); first | done | fail) ?_ | refine stn (by (repeat constructor); first | done | fail) ?_ | refine sto (by (repeat constructor); first | done | fail) (by first | omega | (simp only; omega)) ?_ | refine .mk fun Ap capp => ?_ | refine ⟨?_, trivial⟩ | intro _); conv => whnf))
   refine And.intro ⟨by omega, by omega, hpl⟩ ?_
   conv => whnf
   refine And.intro (hpl.pl _) ?_
   conv => whnf
   (repeat ((first | refine stp (by (repeat constructor); first | done | fail) ?_ | refine stn (by (repeat constructor); first | done | fail) ?_ | refine sto (by (repeat constructor); first | done | fail) (by first | omega | (simp only; omega)) ?_ | refine .mk fun Ap capp => ?_ | refine ⟨?_, trivial⟩ | intro _); conv => whnf))
   refine rn_load (v := .string x.a.other) (hL.ldF rfl rfl foot_no (j := 2) hx rfl rfl rfl) ?_
   rw [← Str_bs x.a.other]
   conv => whnf
   refine ⟨with_enters, cl_mem (m1 := StM oA1 oc1 (insL l (bs x.a.name))) (by (repeat constructor); first | done | fail) (fun w' hm' => with_any oA1 oc1 (insL l (bs x.a.name)) (bs x.a.other) w' (by omega) hm'.part) ?_⟩
   rintro e m' ⟨oA2, oc2, rfl, rfl⟩
   conv => whnf
   (repeat ((first | refine stp (by (repeat constructor); first | done | fail) ?_ | refine stn (by (repeat constructor); first | done | fail) ?_ | refine sto (by (repeat constructor); first | done | fail) (by first | omega | (simp only; omega)) ?_ | refine .mk fun Ap capp => ?_ | refine ⟨?_, trivial⟩ | intro _); conv => whnf))
   have hst : namesR ((L.map LA.a).take (i + 1)) = insL (insL l (bs x.a.name)) (bs x.a.other) := by rw [hstep, namesStep, if_pos (by simp [twoK, h1])]
   rw [← hst]
   rw [← hstep] at hsl
   exact ⟨(i + 1, oA2, oc2), ⟨by simp only; omega, by simp only; omega⟩, by simp only; omega, ⟨rfl, rfl, rfl, trivial⟩, SubM.sel (by (repeat constructor); first | done | fail)⟩
  ·conv => whnf
   (repeat ((first | refine stp (by (repeat constructor); first | done | fail) ?_ | refine stn (by (repeat constructor); first | done | fail) ?_ | refine sto (by (repeat constructor); first | done | fail) (by first | omega | (simp only; omega)) ?_ | refine .mk fun Ap capp => ?_ | refine ⟨?_, trivial⟩ | intro _); conv => whnf))
   refine br_d (fun h19 => ?_) (fun h19 => ?_)
   ·conv => whnf
    (repeat ((first | refine stp (by (repeat constructor); first | done | fail) ?_ | refine stn (by (repeat constructor); first | done | fail) ?_ | refine sto (by (repeat constructor); first | done | fail) (by first | omega | (simp only; omega)) ?_ | refine .mk fun Ap capp => ?_ | refine ⟨?_, trivial⟩ | intro _); conv => whnf))
    refine br_t (decide_eq_true h19) ?_
    conv => whnf
    (repeat ((first | refine stp (by (repeat constructor); first | done | fail) ?_ | refine stn (by (repeat constructor); first | done | fail) ?_ | refine sto (by (repeat constructor); first | done | fail) (by first | omega | (simp only; omega)) ?_ | refine .mk fun Ap capp => ?_ | refine ⟨?_, trivial⟩ | intro _); conv => whnf))
    refine And.intro ⟨by omega, by omega, hpl⟩ ?_
    conv => whnf
    refine And.intro (hpl.pl _) ?_
    conv => whnf
    (repeat ((first | refine stp (by (repeat constructor); first | done | fail) ?_ | refine stn (by (repeat constructor); first | done | fail) ?_ | refine sto (by (repeat constructor); first | done | fail) (by first | omega | (simp only; omega)) ?_ | refine .mk fun Ap capp => ?_ | refine ⟨?_, trivial⟩ | intro _); conv => whnf))
    refine rn_load (v := .string x.a.other) (hL.ldF rfl rfl foot_no (j := 2) hx rfl rfl rfl) ?_
    rw [← Str_bs x.a.other]
    conv => whnf
    refine ⟨with_enters, cl_mem (m1 := StM oA1 oc1 (insL l (bs x.a.name))) (by (repeat constructor); first | done | fail) (fun w' hm' => with_any oA1 oc1 (insL l (bs x.a.name)) (bs x.a.other) w' (by omega) hm'.part) ?_⟩
    rintro e m' ⟨oA2, oc2, rfl, rfl⟩
    conv => whnf
    (repeat ((first | refine stp (by (repeat constructor); first | done | fail) ?_ | refine stn (by (repeat constructor); first | done | fail) ?_ | refine sto (by (repeat constructor); first | done | fail) (by first | omega | (simp only; omega)) ?_ | refine .mk fun Ap capp => ?_ | refine ⟨?_, trivial⟩ | intro _); conv => whnf))
    have hst : namesR ((L.map LA.a).take (i + 1)) = insL (insL l (bs x.a.name)) (bs x.a.other) := by rw [hstep, namesStep, if_pos (by simp [twoK, h19])]
    rw [← hst]
    rw [← hstep] at hsl
    exact ⟨(i + 1, oA2, oc2), ⟨by simp only; omega, by simp only; omega⟩, by simp only; omega, ⟨rfl, rfl, rfl, trivial⟩, SubM.sel (by (repeat constructor); first | done | fail)⟩
   ·conv => whnf
    (repeat ((first | refine stp (by (repeat constructor); first | done | fail) ?_ | refine stn (by (repeat constructor); first | done | fail) ?_ | refine sto (by (repeat constructor); first | done | fail) (by first | omega | (simp only; omega)) ?_ | refine .mk fun Ap capp => ?_ | refine ⟨?_, trivial⟩ | intro _); conv => whnf))
    refine br_d (fun h20 => ?_) (fun h20 => ?_)
    ·conv => whnf
     (repeat ((first | refine stp (by (repeat constructor); first | done | fail) ?_ | refine stn (by (repeat constructor); first | done | fail) ?_ | refine sto (by (repeat constructor); first | done | fail) (by first | omega | (simp only; omega)) ?_ | refine .mk fun Ap capp => ?_ | refine ⟨?_, trivial⟩ | intro _); conv => whnf))
     refine br_t (decide_eq_true h20) ?_
     conv => whnf
     (repeat ((first | refine stp (by (repeat constructor); first | done | fail) ?_ | refine stn (by (repeat constructor); first | done | fail) ?_ | refine sto (by (repeat constructor); first | done | fail) (by first | omega | (simp only; omega)) ?_ | refine .mk fun Ap capp => ?_ | refine ⟨?_, trivial⟩ | intro _); conv => whnf))
     refine And.intro ⟨by omega, by omega, hpl⟩ ?_
     conv => whnf
     refine And.intro (hpl.pl _) ?_
     conv => whnf
     (repeat ((first | refine stp (by (repeat constructor); first | done | fail) ?_ | refine stn (by (repeat constructor); first | done | fail) ?_ | refine sto (by (repeat constructor); first | done | fail) (by first | omega | (simp only; omega)) ?_ | refine .mk fun Ap capp => ?_ | refine ⟨?_, trivial⟩ | intro _); conv => whnf))
     refine rn_load (v := .string x.a.other) (hL.ldF rfl rfl foot_no (j := 2) hx rfl rfl rfl) ?_
     rw [← Str_bs x.a.other]
     conv => whnf
     refine ⟨with_enters, cl_mem (m1 := StM oA1 oc1 (insL l (bs x.a.name))) (by (repeat constructor); first | done | fail) (fun w' hm' => with_any oA1 oc1 (insL l (bs x.a.name)) (bs x.a.other) w' (by omega) hm'.part) ?_⟩
     rintro e m' ⟨oA2, oc2, rfl, rfl⟩
     conv => whnf
     (repeat ((first | refine stp (by (repeat constructor); first | done | fail) ?_ | refine stn (by (repeat constructor); first | done | fail) ?_ | refine sto (by (repeat constructor); first | done | fail) (by first | omega | (simp only; omega)) ?_ | refine .mk fun Ap capp => ?_ | refine ⟨?_, trivial⟩ | intro _); conv => whnf))
     have hst : namesR ((L.map LA.a).take (i + 1)) = insL (insL l (bs x.a.name)) (bs x.a.other) := by rw [hstep, namesStep, if_pos (by simp [twoK, h20])]
     rw [← hst]
     rw [← hstep] at hsl
     exact ⟨(i + 1, oA2, oc2), ⟨by simp only; omega, by simp only; omega⟩, by simp only; omega, ⟨rfl, rfl, rfl, trivial⟩, SubM.sel (by (repeat constructor); first | done | fail)⟩
    ·conv => whnf
     (repeat ((first | refine stp (by (repeat constructor); first | done | fail) ?_ | refine stn (by (repeat constructor); first | done | fail) ?_ | refine sto (by (repeat constructor); first | done | fail) (by first | omega | (simp only; omega)) ?_ | refine .mk fun Ap capp => ?_ | refine ⟨?_, trivial⟩ | intro _); conv => whnf))
     refine br_d (fun h21 => ?_) (fun h21 => ?_)
     ·conv => whnf
      (repeat ((first | refine stp (by (repeat constructor); first | done | fail) ?_ | refine stn (by (repeat constructor); first | done | fail) ?_ | refine sto (by (repeat constructor); first | done | fail) (by first | omega | (simp only; omega)) ?_ | refine .mk fun Ap capp => ?_ | refine ⟨?_, trivial⟩ | intro _); conv => whnf))
      refine And.intro ⟨by omega, by omega, hpl⟩ ?_
      conv => whnf
      refine And.intro (hpl.pl _) ?_
      conv => whnf
      (repeat ((first | refine stp (by (repeat constructor); first | done | fail) ?_ | refine stn (by (repeat constructor); first | done | fail) ?_ | refine sto (by (repeat constructor); first | done | fail) (by first | omega | (simp only; omega)) ?_ | refine .mk fun Ap capp => ?_ | refine ⟨?_, trivial⟩ | intro _); conv => whnf))
      refine rn_load (v := .string x.a.other) (hL.ldF rfl rfl foot_no (j := 2) hx rfl rfl rfl) ?_
      rw [← Str_bs x.a.other]
      conv => whnf
      refine ⟨with_enters, cl_mem (m1 := StM oA1 oc1 (insL l (bs x.a.name))) (by (repeat constructor); first | done | fail) (fun w' hm' => with_any oA1 oc1 (insL l (bs x.a.name)) (bs x.a.other) w' (by omega) hm'.part) ?_⟩
      rintro e m' ⟨oA2, oc2, rfl, rfl⟩
      conv => whnf
      (repeat ((first | refine stp (by (repeat constructor); first | done | fail) ?_ | refine stn (by (repeat constructor); first | done | fail) ?_ | refine sto (by (repeat constructor); first | done | fail) (by first | omega | (simp only; omega)) ?_ | refine .mk fun Ap capp => ?_ | refine ⟨?_, trivial⟩ | intro _); conv => whnf))
      have hst : namesR ((L.map LA.a).take (i + 1)) = insL (insL l (bs x.a.name)) (bs x.a.other) := by rw [hstep, namesStep, if_pos (by simp [twoK, h21])]
      rw [← hst]
      rw [← hstep] at hsl
      exact ⟨(i + 1, oA2, oc2), ⟨by simp only; omega, by simp only; omega⟩, by simp only; omega, ⟨rfl, rfl, rfl, trivial⟩, SubM.sel (by (repeat constructor); first | done | fail)⟩
     ·conv => whnf
      (repeat ((first | refine stp (by (repeat constructor); first | done | fail) ?_ | refine stn (by (repeat constructor); first | done | fail) ?_ | refine sto (by (repeat constructor); first | done | fail) (by first | omega | (simp only; omega)) ?_ | refine .mk fun Ap capp => ?_ | refine ⟨?_, trivial⟩ | intro _); conv => whnf))
      have hst : namesR ((L.map LA.a).take (i + 1)) = insL l (bs x.a.name) := by rw [hstep, namesStep, if_neg (by simp [twoK, h1, h19, h20, h21])]
      rw [← hst]
      rw [← hstep] at hsl
      exact ⟨(i + 1, oA1, oc1), ⟨by simp only; omega, by simp only; omega⟩, by simp only; omega, ⟨rfl, rfl, rfl, trivial⟩, SubM.sel (by (repeat constructor); first | done | fail)⟩
 ·have hil : i = L.length := by omega
  conv => whnf
  (repeat ((first | refine stp (by (repeat constructor); first | done | fail) ?_ | refine stn (by (repeat constructor); first | done | fail) ?_ | refine sto (by (repeat constructor); first | done | fail) (by first | omega | (simp only; omega)) ?_ | refine .mk fun Ap capp => ?_ | refine ⟨?_, trivial⟩ | intro _); conv => whnf))
  rw [List.take_of_length_le (by simp; omega)]
  exact fin1 rfl rfl (fun w' hm => ⟨_, ⟨oA, oc, rfl, rfl⟩, hm⟩)
end Go.Proofs.YtbfbjgakmnckbaaGreatDoor
namespace Go.Proofs.YtbfbjgakmnckbaaGreatDoor
open Go Go.RowKit Eng

/-- A row of strings whose cells are written anew. -/
theorem put_mem {w0 w w' : World} {S : Nat → Prop} {m : Mem} {b n cap : Nat} {xs : List Value} {d : List (List UInt8)} {k : Nat} {os : Array Obj} (hm : MemOk w0 S (.row (some ⟨b, 0, none⟩) cap n 9 1 xs :: m) w) (hd : d.length = n) (hn : 0 < n)
  (hw : w' = Sort.grow (Sort.putRow encStr (Sort.ahead w k) b 0 d.toArray) os) : MemOk w0 S (.row (some ⟨b, 0, none⟩) cap n 9 1 (strsOf d) :: m) w' := by
 have hr : w.ownsRow 0 9 1 (.slice (some ⟨b, 0, none⟩) n cap) n xs := hm.ok _ (List.mem_cons_self ..)
 rcases hr.2 with ⟨e, _⟩ | ⟨g, c', cur, e, _, hb, hc, hmax, hsz, hcur⟩
 ·cases e
 injection e with e1 _ e3
 injection e1 with e1
 injection e1 with e1
 subst e1 e3
 have hlt : b < w.heap.size := (Array.getElem?_eq_some_iff.1 hb).1
 have hblk : ∀ j, j < w.heap.size → j ≠ b → w'.heap[j]? = w.heap[j]? := by
  intro j hj hne
  rw [hw]
  show ((w.heap.modify b (Sort.onCells (Sort.putCells encStr 0 d.toArray))) ++ os)[j]? = _
  rw [Array.getElem?_append_left (by simpa using hj), Array.getElem?_modify, if_neg (fun h => hne h.symm)]
 have hnew : w'.heap[b]? = some (.cells (Sort.putCells encStr 0 d.toArray cur) 9 (0, 0)) := by
  rw [hw]
  show ((w.heap.modify b (Sort.onCells (Sort.putCells encStr 0 d.toArray))) ++ os)[b]? = _
  rw [Array.getElem?_append_left (by simpa using hlt), Array.getElem?_modify, if_pos rfl, hb]
  rfl
 have hfr : Fr (fun j => some j = some b) w w' := by
  refine ⟨by rw [hw]; rfl, by rw [hw]; rfl, by rw [hw]; rfl, ?_, fun j hj hs => hblk j hj (fun e => hs (by rw [e]))⟩
  rw [hw]
  show w.heap.size ≤ ((w.heap.modify b (Sort.onCells (Sort.putCells encStr 0 d.toArray))) ++ os).size
  simp
 have hapart := (List.pairwise_cons.1 hm.apart).1
 have hown := hm.own _ (List.mem_cons_self ..) b rfl
 have hmt : MemOk w0 S m w' := hm.tail.step hfr (fun b' hb' hT => by cases hT; exact hown.elim (fun h => absurd hb' (by omega)) id) (fun r hr b' hb' hT => by cases hT; exact hapart r hr b rfl hb')
 refine hmt.cons ⟨by rw [strsOf, List.length_map, hd, Nat.mul_one], .inr ⟨b, cap, _, rfl, Nat.zero_le _, hnew, hc, hmax, ?_, ?_⟩⟩ (fun b' e => by cases e; exact hown) (fun b' e s hs => by cases e; exact hapart s hs b rfl)
 ·rw [Sort.putCells, Array.size_mapIdx]; exact hsz
 ·apply List.ext_getElem?
  intro j
  by_cases hj : j < n
  ·rw [Nat.mul_one, List.getElem?_take_of_lt hj, Array.getElem?_toList, Sort.putCells, Array.getElem?_mapIdx]
   have hjc : j < cur.size := by rw [hsz]; omega
   rw [Array.getElem?_eq_getElem hjc, strsOf, List.getElem?_map, List.getElem?_eq_getElem (by omega)]
   simp only [Option.map_some, Nat.zero_le, true_and, Nat.zero_add, List.size_toArray, Nat.sub_zero]
   rw [if_pos (by omega), getElem!_pos _ j (by simp; omega)]
   simp [encStr, Str]
  ·rw [List.getElem?_eq_none (by simp [hsz]; omega), List.getElem?_eq_none (by rw [strsOf, List.length_map]; omega)]
theorem holds_row {w0 w : World} {S : Nat → Prop} {m : Mem} {b cap : Nat} {d : List (List UInt8)} (hm : MemOk w0 S (.row (some ⟨b, 0, none⟩) cap d.length 9 1 (strsOf d) :: m) w) : Sort.Holds encStr w b 0 d.toArray ∧ b < w.heap.size ∧ d.length ≤ cap := by
 have hr : w.ownsRow 0 9 1 (.slice (some ⟨b, 0, none⟩) d.length cap) d.length (strsOf d) := hm.ok _ (List.mem_cons_self ..)
 rcases hr.2 with ⟨e, _⟩ | ⟨g, c', cur, e, _, hb, hc, hmax, hsz, hcur⟩
 ·cases e
 injection e with e1 _ e3
 injection e1 with e1
 injection e1 with e1
 subst e1 e3
 refine ⟨fun j hj => ⟨?_, ?_⟩, (Array.getElem?_eq_some_iff.1 hb).1, hc⟩
 ·have hj' : j < d.length := by simpa using hj
  obtain ⟨b', e, hcell⟩ := row_cell (hm.ok _ (List.mem_cons_self ..)) (strs_get hj')
  injection e with e; injection e with e; subst e
  rw [Nat.zero_add, hcell, getElem!_pos _ j (by simpa using hj)]
  simp [encStr, Str, List.getD, List.getElem?_eq_getElem hj']
 ·simp [World.frozen?, hb]
/-- Names sorted. -/
def sortL (l : List (List UInt8)) : List (List UInt8) := l.mergeSort fun x y => decide (x ≤ y)
theorem sortL_length (l : List (List UInt8)) : (sortL l).length = l.length := List.length_mergeSort l
section
variable {cx : Cx} (hP : cx.P = Tryz.prog)
include hP
theorem cl_sort {m m' : Mem} {A : Option Addr} {cap : Nat} {ss : List (List UInt8)} {K : Value → Mem → Prop} {KP : List PanicEntry → Mem → Prop} (ho : Out m (.row A cap ss.length 9 1 (strsOf ss)) m') (hn : ss.length ≤ 1048576)
  (hk : K (.tuple #[]) (.row A cap (sortL ss).length 9 1 (strsOf (sortL ss)) :: m')) : Cl cx m 64 [.slice A ss.length cap] K KP := by
 intro w hm
 have hm1 := hm.perm ho.perm
 have hr : w.ownsRow 0 9 1 (.slice A ss.length cap) ss.length (strsOf ss) := hm1.ok _ (List.mem_cons_self ..)
 rw [hP]
 by_cases h0 : ss = []
 ·subst h0
  refine (Tryz.slices_Sort_string_none A cap w).mono ?_
  rintro e w' ⟨rfl, rfl⟩
  refine ⟨_, hm1, ?_⟩
  have e0 : sortL [] = [] := by simp [sortL]
  rw [e0] at hk
  exact hk
 ·have hpos : 0 < ss.length := List.length_pos_iff.2 h0
  obtain ⟨b, rfl, _⟩ := row_cell (hm1.ok _ (List.mem_cons_self ..)) (strs_get hpos)
  obtain ⟨hH, hblk, _⟩ := holds_row hm1
  refine (Tryz.slices_Sort_string b 0 cap ss w hH hblk (by omega)).mono ?_
  rintro e w' ⟨rfl, k, os, hw⟩
  refine ⟨_, ?_, hk⟩
  have := put_mem hm1 (d := sortL ss) (sortL_length ss) hpos hw
  rw [sortL_length]
  exact this
theorem cl_compact {m m' : Mem} {A : Option Addr} {cap : Nat} {ss : List (List UInt8)} {K : Value → Mem → Prop} {KP : List PanicEntry → Mem → Prop} (ho : Out m (.row A cap ss.length 9 1 (strsOf ss)) m') (hn : ss.length ≤ 1048576)
  (hk : K (.slice A (Lib.compact ss).length cap) (.row A cap (Lib.compact ss).length 9 1 (strsOf (Lib.compact ss)) :: m')) : Cl cx m 65 [.slice A ss.length cap] K KP := by
 intro w hm
 have hm1 := hm.perm ho.perm
 rw [hP]
 by_cases h0 : ss = []
 ·subst h0
  refine (Tryz.slices_Compact_string_empty A cap w).mono ?_
  rintro e w' ⟨rfl, rfl⟩
  refine ⟨_, hm1, ?_⟩
  have e0 : Lib.compact ([] : List (List UInt8)) = [] := rfl
  rw [e0] at hk
  exact hk
 ·have hpos : 0 < ss.length := List.length_pos_iff.2 h0
  obtain ⟨b, rfl, _⟩ := row_cell (hm1.ok _ (List.mem_cons_self ..)) (strs_get hpos)
  obtain ⟨hH, hblk, hcap⟩ := holds_row hm1
  have hle := Lib.compact_length_le ss
  refine (Tryz.slices_Compact_string b 0 cap ss w hH (by omega) hcap).mono ?_
  rintro e w' ⟨rfl, k, hw⟩
  refine ⟨_, ?_, hk⟩
  have := put_mem hm1 (d := Lib.compact ss ++ List.replicate (ss.length - (Lib.compact ss).length) []) (os := #[]) (w' := w') (k := k) (by simp; omega) hpos (by rw [hw]; simp)
  refine (this.tail).cons ?_ (fun b' e => this.own _ (List.mem_cons_self ..) b' e) (fun b' e s hs => (List.pairwise_cons.1 this.apart).1 s hs b' e)
  have hr : w'.ownsRow 0 9 1 (.slice (some ⟨b, 0, none⟩) ss.length cap) ss.length _ := this.ok _ (List.mem_cons_self ..)
  rcases hr.2 with ⟨e, _⟩ | ⟨g, c', cur, e, _, hb, hc, hmax, hsz, hcur⟩
  ·cases e
  injection e with e1 _ e3
  injection e1 with e1
  injection e1 with e1
  subst e1 e3
  refine ⟨by rw [strsOf, List.length_map, Nat.mul_one], .inr ⟨b, cap, cur, rfl, Nat.zero_le _, hb, by omega, hmax, hsz, ?_⟩⟩
  have h2 := congrArg (List.take (Lib.compact ss).length) hcur
  rw [List.take_take, Nat.mul_one, Nat.min_eq_left hle] at h2
  rw [Nat.mul_one, h2, strsOf, List.map_append]
  exact List.take_left' (by simp)
end
theorem sort_enters : Eng.Enters Tryz.prog 64 := enters_mk fun _ _ => by kernel_rfl
theorem compact_enters : Eng.Enters Tryz.prog 65 := enters_mk fun _ _ => by kernel_rfl
end Go.Proofs.YtbfbjgakmnckbaaGreatDoor
