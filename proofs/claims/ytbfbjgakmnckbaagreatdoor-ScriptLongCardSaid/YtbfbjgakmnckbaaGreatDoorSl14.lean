/- The law's own functions: copied. Written by program (gen/gencop.py). No statement of the seat is proved here. -/
import Derived.Test.YtbfbjgakmnckbaaGreatDoorSl13
namespace Go.Proofs.YtbfbjgakmnckbaaGreatDoor
open Go Go.RowKit Eng
section
variable {cx : Cx}
theorem rn_appN {m m' : Mem} {t e ty len : Nat} {i ti : TyI} {A : Option Addr} {cap n : Nat} {xs : List Value} {p : Option Addr} {c : Nat} {k : IntKind} (ys : List Int) (hlen : ys.length = len) (ht : TabOk cx.P cx.tab) {K : Value → Mem → Prop}
  (hi : cx.tab.get t = some i) (hk : i.kind = .slice e) (hti : cx.tab.get e = some ti) (hz : ti.zero.length = ti.cells) (hs : ti.cells = 1) (hp : (Nat.ble 1 ti.cells && Nat.ble ti.bytes 4096) = true)
  (hu : Out m (.row A cap n e 1 xs) m') (hy : ∀ w, MemOk cx.w0 cx.S m w → IntsIn k w p ys)
  (hb : n + len ≤ 34359738368) (hK : ∀ A' cap', K (.slice A' (n + len) cap') (.row A' cap' (n + len) e 1 (xs ++ ys.map (.int k)) :: m')) :
  Rn cx m (Builtin.append_ #[t, t] ty #[.slice A n cap, .slice p len c]) K := by
 subst hlen
 exact rn_appI ht hi hk hti hz hs hp hu hy hb hK
theorem g_cut {a b c : Int} {p K : Prop} (h : (0 ≤ a ∧ a ≤ b ∧ b ≤ c ∧ p) ∧ K) : (0 ≤ a ∧ a ≤ b ∧ b ≤ c ∧ p) ∧ K := h
end
attribute [local irreducible] Br Rn RnU Cl RdG CpG Ld Rd Lp Dr Oth Cut fin Fits Eng.Enters Md NA
abbrev CopB (g c : Nat) (bs : List UInt8) : Res := .row (some ⟨g, 0, none⟩) c (bs.length + 1) 5 1 ((numsOf bs).map (.int .u8) ++ [.int .u8 165])
abbrev CopP (g c : Nat) (ps : List Int) : Res := .row (some ⟨g, 0, none⟩) c (ps.length + 1) 3 1 (ps.map (.int .i64) ++ [.int .i64 77])
/-- A copy, in memory of its own, with a mark behind. -/
def CopR (a : PAct) (e : Ending) (m' : Mem) : Prop := ∃ g c g' c' : Nat, a.bytes.length + 1 ≤ c ∧ a.picks.length + 1 ≤ c' ∧ e = .returned (.agg (actL a (some ⟨g, 0, none⟩) c (some ⟨g', 0, none⟩) c').toArray) ∧ m' = [CopB g c a.bytes, CopP g' c' a.picks]
set_option maxRecDepth 100000 in
set_option maxHeartbeats 40000000 in
theorem copied_any (a : PAct) (bA pA : Option Addr) (bc pc : Nat) (w : World) (ha : ActIn w a bA pA) (hb : a.bytes.length ≤ 1048576) (hp : a.picks.length ≤ 1048576) :
  Ctr Tryz.prog 10 [.agg (actL a bA bc pA pc).toArray] [] (CopR a) w := by
 refine enter (cx := CXS 26 [] w (Foot [])) [(0, .agg (actL a bA bc pA pc).toArray)] tab_ok Tryz.func10 rfl rfl rfl rfl (MemOk.nil w _) ?_
 have hF : ∀ w', Fr (Foot []) w w' → Fr (fun _ => False) w w' := fun w' hf => hf.mono (fun k _ ⟨r, hr, _⟩ => by cases hr)
 have hBy : ∀ m w', MemOk w (Foot []) m w' → IntsIn .u8 w' bA (numsOf a.bytes) := fun m w' hm => (ha.stb (hF w' hm.fr)).bytes
 have hPk : ∀ m w', MemOk w (Foot []) m w' → IntsIn .i64 w' pA a.picks := fun m w' hm => (ha.stb (hF w' hm.fr)).picks
 have hnl := numsOf_length a.bytes
 have hcut8 : ∀ g c, cutA (some ⟨g, 0, none⟩) c (Int.toNat 0) ty5.cells = some ⟨g, 0, none⟩ := fun g c => by unfold cutA; split <;> rfl
 have hcutI : ∀ g c, cutA (some ⟨g, 0, none⟩) c (Int.toNat 0) ty3.cells = some ⟨g, 0, none⟩ := fun g c => by unfold cutA; split <;> rfl
 conv => whnf
 intro b1
 conv => whnf
 intro b2
 conv => whnf
 refine dr_any (γ := Nat × Nat) (Tr.hs [1, 6] (.alts 0 (.alts 2 (.alts 3 (.alts 4 (.alts 5 (.alts 7 (Tr.hs [8] (Tr.hs [9, 10] (Tr.sq [11] .done))) .stop) (.alts 7 (Tr.hs [8] (.alts 5 (Tr.hs [9, 10] (Tr.sq [11] .done)) .stop)) .stop)) (.alts 7 (Tr.hs [8] (.alts 4 (.alts 5 (Tr.hs [9, 10] (Tr.sq [11] .done)) .stop) .stop)) .stop)) (.alts 4 (.alts 3 (.alts 5 (.alts 7 (Tr.hs [8] (Tr.hs [9, 10] (Tr.sq [11] .done))) .stop) (.alts 7 (Tr.hs [8] (.alts 5 (Tr.hs [9, 10] (Tr.sq [11] .done)) .stop)) .stop)) (.alts 7 (Tr.hs [8] (.alts 3 (.alts 5 (Tr.hs [9, 10] (Tr.sq [11] .done)) .stop) .stop)) .stop)) (.alts 7 (Tr.hs [8] (.alts 3 (.alts 4 (.alts 5 (Tr.hs [9, 10] (Tr.sq [11] .done)) .stop) .stop) (.alts 4 (.alts 3 (.alts 5 (Tr.hs [9, 10] (Tr.sq [11] .done)) .stop) .stop) .stop))) .stop))) (.alts 4 (.alts 2 (.alts 3 (.alts 5 (.alts 7 (Tr.hs [8] (Tr.hs [9, 10] (Tr.sq [11] .done))) .stop) (.alts 7 (Tr.hs [8] (.alts 5 (Tr.hs [9, 10] (Tr.sq [11] .done)) .stop)) .stop)) (.alts 7 (Tr.hs [8] (.alts 3 (.alts 5 (Tr.hs [9, 10] (Tr.sq [11] .done)) .stop) .stop)) .stop)) (.alts 7 (Tr.hs [8] (.alts 2 (.alts 3 (.alts 5 (Tr.hs [9, 10] (Tr.sq [11] .done)) .stop) .stop) .stop)) .stop)) (.alts 7 (Tr.hs [8] (.alts 2 (.alts 3 (.alts 4 (.alts 5 (Tr.hs [9, 10] (Tr.sq [11] .done)) .stop) .stop) (.alts 4 (.alts 3 (.alts 5 (Tr.hs [9, 10] (Tr.sq [11] .done)) .stop) .stop) .stop)) (.alts 4 (.alts 2 (.alts 3 (.alts 5 (Tr.hs [9, 10] (Tr.sq [11] .done)) .stop) .stop) .stop) .stop))) .stop))) (.alts 2 (.alts 0 (.alts 3 (.alts 4 (.alts 5 (.alts 7 (Tr.hs [8] (Tr.hs [9, 10] (Tr.sq [11] .done))) .stop) (.alts 7 (Tr.hs [8] (.alts 5 (Tr.hs [9, 10] (Tr.sq [11] .done)) .stop)) .stop)) (.alts 7 (Tr.hs [8] (.alts 4 (.alts 5 (Tr.hs [9, 10] (Tr.sq [11] .done)) .stop) .stop)) .stop)) (.alts 4 (.alts 3 (.alts 5 (.alts 7 (Tr.hs [8] (Tr.hs [9, 10] (Tr.sq [11] .done))) .stop) (.alts 7 (Tr.hs [8] (.alts 5 (Tr.hs [9, 10] (Tr.sq [11] .done)) .stop)) .stop)) (.alts 7 (Tr.hs [8] (.alts 3 (.alts 5 (Tr.hs [9, 10] (Tr.sq [11] .done)) .stop) .stop)) .stop)) (.alts 7 (Tr.hs [8] (.alts 3 (.alts 4 (.alts 5 (Tr.hs [9, 10] (Tr.sq [11] .done)) .stop) .stop) (.alts 4 (.alts 3 (.alts 5 (Tr.hs [9, 10] (Tr.sq [11] .done)) .stop) .stop) .stop))) .stop))) (.alts 4 (.alts 0 (.alts 3 (.alts 5 (.alts 7 (Tr.hs [8] (Tr.hs [9, 10] (Tr.sq [11] .done))) .stop) (.alts 7 (Tr.hs [8] (.alts 5 (Tr.hs [9, 10] (Tr.sq [11] .done)) .stop)) .stop)) (.alts 7 (Tr.hs [8] (.alts 3 (.alts 5 (Tr.hs [9, 10] (Tr.sq [11] .done)) .stop) .stop)) .stop)) (.alts 7 (Tr.hs [8] (.alts 0 (.alts 3 (.alts 5 (Tr.hs [9, 10] (Tr.sq [11] .done)) .stop) .stop) .stop)) .stop)) (.alts 7 (Tr.hs [8] (.alts 0 (.alts 3 (.alts 4 (.alts 5 (Tr.hs [9, 10] (Tr.sq [11] .done)) .stop) .stop) (.alts 4 (.alts 3 (.alts 5 (Tr.hs [9, 10] (Tr.sq [11] .done)) .stop) .stop) .stop)) (.alts 4 (.alts 0 (.alts 3 (.alts 5 (Tr.hs [9, 10] (Tr.sq [11] .done)) .stop) .stop) .stop) .stop))) .stop))) (.alts 4 (.alts 0 (.alts 2 (.alts 3 (.alts 5 (.alts 7 (Tr.hs [8] (Tr.hs [9, 10] (Tr.sq [11] .done))) .stop) (.alts 7 (Tr.hs [8] (.alts 5 (Tr.hs [9, 10] (Tr.sq [11] .done)) .stop)) .stop)) (.alts 7 (Tr.hs [8] (.alts 3 (.alts 5 (Tr.hs [9, 10] (Tr.sq [11] .done)) .stop) .stop)) .stop)) (.alts 7 (Tr.hs [8] (.alts 2 (.alts 3 (.alts 5 (Tr.hs [9, 10] (Tr.sq [11] .done)) .stop) .stop) .stop)) .stop)) (.alts 2 (.alts 0 (.alts 3 (.alts 5 (.alts 7 (Tr.hs [8] (Tr.hs [9, 10] (Tr.sq [11] .done))) .stop) (.alts 7 (Tr.hs [8] (.alts 5 (Tr.hs [9, 10] (Tr.sq [11] .done)) .stop)) .stop)) (.alts 7 (Tr.hs [8] (.alts 3 (.alts 5 (Tr.hs [9, 10] (Tr.sq [11] .done)) .stop) .stop)) .stop)) (.alts 7 (Tr.hs [8] (.alts 0 (.alts 3 (.alts 5 (Tr.hs [9, 10] (Tr.sq [11] .done)) .stop) .stop) .stop)) .stop)) (.alts 7 (Tr.hs [8] (.alts 0 (.alts 2 (.alts 3 (.alts 5 (Tr.hs [9, 10] (Tr.sq [11] .done)) .stop) .stop) .stop) (.alts 2 (.alts 0 (.alts 3 (.alts 5 (Tr.hs [9, 10] (Tr.sq [11] .done)) .stop) .stop) .stop) .stop))) .stop))) (.alts 7 (Tr.hs [8] (.alts 0 (.alts 2 (.alts 3 (.alts 4 (.alts 5 (Tr.hs [9, 10] (Tr.sq [11] .done)) .stop) .stop) (.alts 4 (.alts 3 (.alts 5 (Tr.hs [9, 10] (Tr.sq [11] .done)) .stop) .stop) .stop)) (.alts 4 (.alts 2 (.alts 3 (.alts 5 (Tr.hs [9, 10] (Tr.sq [11] .done)) .stop) .stop) .stop) .stop)) (.alts 2 (.alts 0 (.alts 3 (.alts 4 (.alts 5 (Tr.hs [9, 10] (Tr.sq [11] .done)) .stop) .stop) (.alts 4 (.alts 3 (.alts 5 (Tr.hs [9, 10] (Tr.sq [11] .done)) .stop) .stop) .stop)) (.alts 4 (.alts 0 (.alts 3 (.alts 5 (Tr.hs [9, 10] (Tr.sq [11] .done)) .stop) .stop) .stop) .stop)) (.alts 4 (.alts 0 (.alts 2 (.alts 3 (.alts 5 (Tr.hs [9, 10] (Tr.sq [11] .done)) .stop) .stop) .stop) (.alts 2 (.alts 0 (.alts 3 (.alts 5 (Tr.hs [9, 10] (Tr.sq [11] .done)) .stop) .stop) .stop) .stop)) .stop)))) .stop))))) [] tab_ok mixed (by kernel_rfl) rfl (fun g => a.bytes.length + 1 ≤ g.2) (fun _ => [(1, .pointer (some ⟨b1, 0, none⟩)), (2, .pointer (some ⟨b2, 0, none⟩))]) (fun g => [.blk b1 (.cells (actL a (some ⟨g.1, 0, none⟩) g.2 pA pc).toArray 29), CopB g.1 g.2 a.bytes, .blk b2 (.cells (actL (nilAct 0) none 0 none 0).toArray 29)]) (SubM.sub (List.nil_sublist _)) ?_ ?_
 ·conv => whnf
  (repeat ((first | refine stp (by (repeat constructor); first | done | fail) ?_ | refine stn (by (repeat constructor); first | done | fail) ?_ | refine sto (by (repeat constructor); first | done | fail) (by first | omega | (simp only; omega)) ?_ | refine .mk fun Ap capp => ?_ | refine ⟨?_, trivial⟩ | intro _); conv => whnf))
  refine ⟨?_, ?_, ?_, ?_, trivial⟩
  ·intro z0
   conv => whnf
   refine ⟨SubM.sub (List.nil_sublist _), ?_⟩
   conv => whnf
   refine ⟨?_, ?_, ?_, trivial⟩
   ·refine rn_load (ld1 tab_ok (by (repeat constructor); first | done | fail) rfl rfl rfl) ?_
    conv => whnf
    refine ⟨SubM.sub (List.nil_sublist _), ?_⟩
    conv => whnf
    refine ⟨?_, ?_, ?_, trivial⟩
    ·refine rn_subm (SubM.torow (xs := []) (n := 0) (b := z0) (by (repeat constructor); first | done | fail) rfl rfl) (rn_appN (k := .u8) (numsOf a.bytes) hnl tab_ok rfl rfl rfl rfl rfl rfl .here (fun w hm => hBy _ w hm) (by omega) (fun A1 c1 => ?_))
     conv => whnf
     refine ⟨SubM.sub (List.nil_sublist _), ?_⟩
     conv => whnf
     refine ⟨?_, ?_, trivial⟩
     ·intro z4
      conv => whnf
      refine ⟨SubM.sub (List.nil_sublist _), ?_⟩
      conv => whnf
      refine ⟨?_, ?_, trivial⟩
      ·refine rn_appP tab_ok rfl rfl rfl rfl rfl rfl (by (repeat constructor); first | done | fail) rfl (news_blk (by (repeat constructor); first | done | fail)) rfl (by omega) (by omega) (fun g1 c1 hc1 => ?_)
       conv => whnf
       refine ⟨SubM.sub (List.nil_sublist _), ?_⟩
       conv => whnf
       refine ⟨?_, trivial⟩
       ·refine rn_load (ld1 tab_ok (by (repeat constructor); first | done | fail) rfl rfl rfl) ?_
        conv => whnf
        refine ⟨SubM.sub (List.nil_sublist _), ?_⟩
        conv => whnf
        refine ⟨⟨by omega, by omega, by omega, .inr (Pl.mk _ _)⟩, ?_⟩
        conv => whnf
        (repeat ((first | refine stp (by (repeat constructor); first | done | fail) ?_ | refine stn (by (repeat constructor); first | done | fail) ?_ | refine sto (by (repeat constructor); first | done | fail) (by first | omega | (simp only; omega)) ?_ | refine .mk fun Ap capp => ?_ | refine ⟨?_, trivial⟩ | intro _); conv => whnf))
        refine ⟨(g1, c1), by simp only; omega, ⟨rfl, rfl, trivial⟩, ?_⟩
        simp only [Nat.zero_add, List.nil_append, hcut8]
        exact SubM.sel (by (repeat constructor); first | done | fail)
      ·refine rn_load (ld1 tab_ok (by (repeat constructor); first | done | fail) rfl rfl rfl) ?_
       conv => whnf
       refine ⟨SubM.sub (List.nil_sublist _), ?_⟩
       conv => whnf
       refine ⟨?_, trivial⟩
       ·refine rn_appP tab_ok rfl rfl rfl rfl rfl rfl (by (repeat constructor); first | done | fail) rfl (news_blk (by (repeat constructor); first | done | fail)) rfl (by omega) (by omega) (fun g1 c1 hc1 => ?_)
        conv => whnf
        refine ⟨SubM.sub (List.nil_sublist _), ?_⟩
        conv => whnf
        refine ⟨⟨by omega, by omega, by omega, .inr (Pl.mk _ _)⟩, ?_⟩
        conv => whnf
        (repeat ((first | refine stp (by (repeat constructor); first | done | fail) ?_ | refine stn (by (repeat constructor); first | done | fail) ?_ | refine sto (by (repeat constructor); first | done | fail) (by first | omega | (simp only; omega)) ?_ | refine .mk fun Ap capp => ?_ | refine ⟨?_, trivial⟩ | intro _); conv => whnf))
        refine ⟨(g1, c1), by simp only; omega, ⟨rfl, rfl, trivial⟩, ?_⟩
        simp only [Nat.zero_add, List.nil_append, hcut8]
        exact SubM.sel (by (repeat constructor); first | done | fail)
     ·refine rn_load (ld1 tab_ok (by (repeat constructor); first | done | fail) rfl rfl rfl) ?_
      conv => whnf
      refine ⟨SubM.sub (List.nil_sublist _), ?_⟩
      conv => whnf
      refine ⟨?_, trivial⟩
      ·intro z4
       conv => whnf
       refine ⟨SubM.sub (List.nil_sublist _), ?_⟩
       conv => whnf
       refine ⟨?_, trivial⟩
       ·refine rn_appP tab_ok rfl rfl rfl rfl rfl rfl (by (repeat constructor); first | done | fail) rfl (news_blk (by (repeat constructor); first | done | fail)) rfl (by omega) (by omega) (fun g1 c1 hc1 => ?_)
        conv => whnf
        refine ⟨SubM.sub (List.nil_sublist _), ?_⟩
        conv => whnf
        refine ⟨⟨by omega, by omega, by omega, .inr (Pl.mk _ _)⟩, ?_⟩
        conv => whnf
        (repeat ((first | refine stp (by (repeat constructor); first | done | fail) ?_ | refine stn (by (repeat constructor); first | done | fail) ?_ | refine sto (by (repeat constructor); first | done | fail) (by first | omega | (simp only; omega)) ?_ | refine .mk fun Ap capp => ?_ | refine ⟨?_, trivial⟩ | intro _); conv => whnf))
        refine ⟨(g1, c1), by simp only; omega, ⟨rfl, rfl, trivial⟩, ?_⟩
        simp only [Nat.zero_add, List.nil_append, hcut8]
        exact SubM.sel (by (repeat constructor); first | done | fail)
    ·intro z4
     conv => whnf
     refine ⟨SubM.sub (List.nil_sublist _), ?_⟩
     conv => whnf
     refine ⟨?_, ?_, trivial⟩
     ·refine rn_subm (SubM.torow (xs := []) (n := 0) (b := z0) (by (repeat constructor); first | done | fail) rfl rfl) (rn_appN (k := .u8) (numsOf a.bytes) hnl tab_ok rfl rfl rfl rfl rfl rfl .here (fun w hm => hBy _ w hm) (by omega) (fun A1 c1 => ?_))
      conv => whnf
      refine ⟨SubM.sub (List.nil_sublist _), ?_⟩
      conv => whnf
      refine ⟨?_, ?_, trivial⟩
      ·refine rn_appP tab_ok rfl rfl rfl rfl rfl rfl (by (repeat constructor); first | done | fail) rfl (news_blk (by (repeat constructor); first | done | fail)) rfl (by omega) (by omega) (fun g1 c1 hc1 => ?_)
       conv => whnf
       refine ⟨SubM.sub (List.nil_sublist _), ?_⟩
       conv => whnf
       refine ⟨?_, trivial⟩
       ·refine rn_load (ld1 tab_ok (by (repeat constructor); first | done | fail) rfl rfl rfl) ?_
        conv => whnf
        refine ⟨SubM.sub (List.nil_sublist _), ?_⟩
        conv => whnf
        refine ⟨⟨by omega, by omega, by omega, .inr (Pl.mk _ _)⟩, ?_⟩
        conv => whnf
        (repeat ((first | refine stp (by (repeat constructor); first | done | fail) ?_ | refine stn (by (repeat constructor); first | done | fail) ?_ | refine sto (by (repeat constructor); first | done | fail) (by first | omega | (simp only; omega)) ?_ | refine .mk fun Ap capp => ?_ | refine ⟨?_, trivial⟩ | intro _); conv => whnf))
        refine ⟨(g1, c1), by simp only; omega, ⟨rfl, rfl, trivial⟩, ?_⟩
        simp only [Nat.zero_add, List.nil_append, hcut8]
        exact SubM.sel (by (repeat constructor); first | done | fail)
      ·refine rn_load (ld1 tab_ok (by (repeat constructor); first | done | fail) rfl rfl rfl) ?_
       conv => whnf
       refine ⟨SubM.sub (List.nil_sublist _), ?_⟩
       conv => whnf
       refine ⟨?_, trivial⟩
       ·refine rn_appP tab_ok rfl rfl rfl rfl rfl rfl (by (repeat constructor); first | done | fail) rfl (news_blk (by (repeat constructor); first | done | fail)) rfl (by omega) (by omega) (fun g1 c1 hc1 => ?_)
        conv => whnf
        refine ⟨SubM.sub (List.nil_sublist _), ?_⟩
        conv => whnf
        refine ⟨⟨by omega, by omega, by omega, .inr (Pl.mk _ _)⟩, ?_⟩
        conv => whnf
        (repeat ((first | refine stp (by (repeat constructor); first | done | fail) ?_ | refine stn (by (repeat constructor); first | done | fail) ?_ | refine sto (by (repeat constructor); first | done | fail) (by first | omega | (simp only; omega)) ?_ | refine .mk fun Ap capp => ?_ | refine ⟨?_, trivial⟩ | intro _); conv => whnf))
        refine ⟨(g1, c1), by simp only; omega, ⟨rfl, rfl, trivial⟩, ?_⟩
        simp only [Nat.zero_add, List.nil_append, hcut8]
        exact SubM.sel (by (repeat constructor); first | done | fail)
     ·refine rn_load (ld1 tab_ok (by (repeat constructor); first | done | fail) rfl rfl rfl) ?_
      conv => whnf
      refine ⟨SubM.sub (List.nil_sublist _), ?_⟩
      conv => whnf
      refine ⟨?_, trivial⟩
      ·refine rn_subm (SubM.torow (xs := []) (n := 0) (b := z0) (by (repeat constructor); first | done | fail) rfl rfl) (rn_appN (k := .u8) (numsOf a.bytes) hnl tab_ok rfl rfl rfl rfl rfl rfl .here (fun w hm => hBy _ w hm) (by omega) (fun A1 c1 => ?_))
       conv => whnf
       refine ⟨SubM.sub (List.nil_sublist _), ?_⟩
       conv => whnf
       refine ⟨?_, trivial⟩
       ·refine rn_appP tab_ok rfl rfl rfl rfl rfl rfl (by (repeat constructor); first | done | fail) rfl (news_blk (by (repeat constructor); first | done | fail)) rfl (by omega) (by omega) (fun g1 c1 hc1 => ?_)
        conv => whnf
        refine ⟨SubM.sub (List.nil_sublist _), ?_⟩
        conv => whnf
        refine ⟨⟨by omega, by omega, by omega, .inr (Pl.mk _ _)⟩, ?_⟩
        conv => whnf
        (repeat ((first | refine stp (by (repeat constructor); first | done | fail) ?_ | refine stn (by (repeat constructor); first | done | fail) ?_ | refine sto (by (repeat constructor); first | done | fail) (by first | omega | (simp only; omega)) ?_ | refine .mk fun Ap capp => ?_ | refine ⟨?_, trivial⟩ | intro _); conv => whnf))
        refine ⟨(g1, c1), by simp only; omega, ⟨rfl, rfl, trivial⟩, ?_⟩
        simp only [Nat.zero_add, List.nil_append, hcut8]
        exact SubM.sel (by (repeat constructor); first | done | fail)
    ·refine rn_load (ld1 tab_ok (by (repeat constructor); first | done | fail) rfl rfl rfl) ?_
     conv => whnf
     refine ⟨SubM.sub (List.nil_sublist _), ?_⟩
     conv => whnf
     refine ⟨?_, ?_, trivial⟩
     ·refine rn_subm (SubM.torow (xs := []) (n := 0) (b := z0) (by (repeat constructor); first | done | fail) rfl rfl) (rn_appN (k := .u8) (numsOf a.bytes) hnl tab_ok rfl rfl rfl rfl rfl rfl .here (fun w hm => hBy _ w hm) (by omega) (fun A1 c1 => ?_))
      conv => whnf
      refine ⟨SubM.sub (List.nil_sublist _), ?_⟩
      conv => whnf
      refine ⟨?_, trivial⟩
      ·intro z4
       conv => whnf
       refine ⟨SubM.sub (List.nil_sublist _), ?_⟩
       conv => whnf
       refine ⟨?_, trivial⟩
       ·refine rn_appP tab_ok rfl rfl rfl rfl rfl rfl (by (repeat constructor); first | done | fail) rfl (news_blk (by (repeat constructor); first | done | fail)) rfl (by omega) (by omega) (fun g1 c1 hc1 => ?_)
        conv => whnf
        refine ⟨SubM.sub (List.nil_sublist _), ?_⟩
        conv => whnf
        refine ⟨⟨by omega, by omega, by omega, .inr (Pl.mk _ _)⟩, ?_⟩
        conv => whnf
        (repeat ((first | refine stp (by (repeat constructor); first | done | fail) ?_ | refine stn (by (repeat constructor); first | done | fail) ?_ | refine sto (by (repeat constructor); first | done | fail) (by first | omega | (simp only; omega)) ?_ | refine .mk fun Ap capp => ?_ | refine ⟨?_, trivial⟩ | intro _); conv => whnf))
        refine ⟨(g1, c1), by simp only; omega, ⟨rfl, rfl, trivial⟩, ?_⟩
        simp only [Nat.zero_add, List.nil_append, hcut8]
        exact SubM.sel (by (repeat constructor); first | done | fail)
     ·intro z4
      conv => whnf
      refine ⟨SubM.sub (List.nil_sublist _), ?_⟩
      conv => whnf
      refine ⟨?_, trivial⟩
      ·refine rn_subm (SubM.torow (xs := []) (n := 0) (b := z0) (by (repeat constructor); first | done | fail) rfl rfl) (rn_appN (k := .u8) (numsOf a.bytes) hnl tab_ok rfl rfl rfl rfl rfl rfl .here (fun w hm => hBy _ w hm) (by omega) (fun A1 c1 => ?_))
       conv => whnf
       refine ⟨SubM.sub (List.nil_sublist _), ?_⟩
       conv => whnf
       refine ⟨?_, trivial⟩
       ·refine rn_appP tab_ok rfl rfl rfl rfl rfl rfl (by (repeat constructor); first | done | fail) rfl (news_blk (by (repeat constructor); first | done | fail)) rfl (by omega) (by omega) (fun g1 c1 hc1 => ?_)
        conv => whnf
        refine ⟨SubM.sub (List.nil_sublist _), ?_⟩
        conv => whnf
        refine ⟨⟨by omega, by omega, by omega, .inr (Pl.mk _ _)⟩, ?_⟩
        conv => whnf
        (repeat ((first | refine stp (by (repeat constructor); first | done | fail) ?_ | refine stn (by (repeat constructor); first | done | fail) ?_ | refine sto (by (repeat constructor); first | done | fail) (by first | omega | (simp only; omega)) ?_ | refine .mk fun Ap capp => ?_ | refine ⟨?_, trivial⟩ | intro _); conv => whnf))
        refine ⟨(g1, c1), by simp only; omega, ⟨rfl, rfl, trivial⟩, ?_⟩
        simp only [Nat.zero_add, List.nil_append, hcut8]
        exact SubM.sel (by (repeat constructor); first | done | fail)
   ·intro z4
    conv => whnf
    refine ⟨SubM.sub (List.nil_sublist _), ?_⟩
    conv => whnf
    refine ⟨?_, ?_, trivial⟩
    ·refine rn_load (ld1 tab_ok (by (repeat constructor); first | done | fail) rfl rfl rfl) ?_
     conv => whnf
     refine ⟨SubM.sub (List.nil_sublist _), ?_⟩
     conv => whnf
     refine ⟨?_, ?_, trivial⟩
     ·refine rn_subm (SubM.torow (xs := []) (n := 0) (b := z0) (by (repeat constructor); first | done | fail) rfl rfl) (rn_appN (k := .u8) (numsOf a.bytes) hnl tab_ok rfl rfl rfl rfl rfl rfl .here (fun w hm => hBy _ w hm) (by omega) (fun A1 c1 => ?_))
      conv => whnf
      refine ⟨SubM.sub (List.nil_sublist _), ?_⟩
      conv => whnf
      refine ⟨?_, ?_, trivial⟩
      ·refine rn_appP tab_ok rfl rfl rfl rfl rfl rfl (by (repeat constructor); first | done | fail) rfl (news_blk (by (repeat constructor); first | done | fail)) rfl (by omega) (by omega) (fun g1 c1 hc1 => ?_)
       conv => whnf
       refine ⟨SubM.sub (List.nil_sublist _), ?_⟩
       conv => whnf
       refine ⟨?_, trivial⟩
       ·refine rn_load (ld1 tab_ok (by (repeat constructor); first | done | fail) rfl rfl rfl) ?_
        conv => whnf
        refine ⟨SubM.sub (List.nil_sublist _), ?_⟩
        conv => whnf
        refine ⟨⟨by omega, by omega, by omega, .inr (Pl.mk _ _)⟩, ?_⟩
        conv => whnf
        (repeat ((first | refine stp (by (repeat constructor); first | done | fail) ?_ | refine stn (by (repeat constructor); first | done | fail) ?_ | refine sto (by (repeat constructor); first | done | fail) (by first | omega | (simp only; omega)) ?_ | refine .mk fun Ap capp => ?_ | refine ⟨?_, trivial⟩ | intro _); conv => whnf))
        refine ⟨(g1, c1), by simp only; omega, ⟨rfl, rfl, trivial⟩, ?_⟩
        simp only [Nat.zero_add, List.nil_append, hcut8]
        exact SubM.sel (by (repeat constructor); first | done | fail)
      ·refine rn_load (ld1 tab_ok (by (repeat constructor); first | done | fail) rfl rfl rfl) ?_
       conv => whnf
       refine ⟨SubM.sub (List.nil_sublist _), ?_⟩
       conv => whnf
       refine ⟨?_, trivial⟩
       ·refine rn_appP tab_ok rfl rfl rfl rfl rfl rfl (by (repeat constructor); first | done | fail) rfl (news_blk (by (repeat constructor); first | done | fail)) rfl (by omega) (by omega) (fun g1 c1 hc1 => ?_)
        conv => whnf
        refine ⟨SubM.sub (List.nil_sublist _), ?_⟩
        conv => whnf
        refine ⟨⟨by omega, by omega, by omega, .inr (Pl.mk _ _)⟩, ?_⟩
        conv => whnf
        (repeat ((first | refine stp (by (repeat constructor); first | done | fail) ?_ | refine stn (by (repeat constructor); first | done | fail) ?_ | refine sto (by (repeat constructor); first | done | fail) (by first | omega | (simp only; omega)) ?_ | refine .mk fun Ap capp => ?_ | refine ⟨?_, trivial⟩ | intro _); conv => whnf))
        refine ⟨(g1, c1), by simp only; omega, ⟨rfl, rfl, trivial⟩, ?_⟩
        simp only [Nat.zero_add, List.nil_append, hcut8]
        exact SubM.sel (by (repeat constructor); first | done | fail)
     ·refine rn_load (ld1 tab_ok (by (repeat constructor); first | done | fail) rfl rfl rfl) ?_
      conv => whnf
      refine ⟨SubM.sub (List.nil_sublist _), ?_⟩
      conv => whnf
      refine ⟨?_, trivial⟩
      ·refine rn_subm (SubM.torow (xs := []) (n := 0) (b := z0) (by (repeat constructor); first | done | fail) rfl rfl) (rn_appN (k := .u8) (numsOf a.bytes) hnl tab_ok rfl rfl rfl rfl rfl rfl .here (fun w hm => hBy _ w hm) (by omega) (fun A1 c1 => ?_))
       conv => whnf
       refine ⟨SubM.sub (List.nil_sublist _), ?_⟩
       conv => whnf
       refine ⟨?_, trivial⟩
       ·refine rn_appP tab_ok rfl rfl rfl rfl rfl rfl (by (repeat constructor); first | done | fail) rfl (news_blk (by (repeat constructor); first | done | fail)) rfl (by omega) (by omega) (fun g1 c1 hc1 => ?_)
        conv => whnf
        refine ⟨SubM.sub (List.nil_sublist _), ?_⟩
        conv => whnf
        refine ⟨⟨by omega, by omega, by omega, .inr (Pl.mk _ _)⟩, ?_⟩
        conv => whnf
        (repeat ((first | refine stp (by (repeat constructor); first | done | fail) ?_ | refine stn (by (repeat constructor); first | done | fail) ?_ | refine sto (by (repeat constructor); first | done | fail) (by first | omega | (simp only; omega)) ?_ | refine .mk fun Ap capp => ?_ | refine ⟨?_, trivial⟩ | intro _); conv => whnf))
        refine ⟨(g1, c1), by simp only; omega, ⟨rfl, rfl, trivial⟩, ?_⟩
        simp only [Nat.zero_add, List.nil_append, hcut8]
        exact SubM.sel (by (repeat constructor); first | done | fail)
    ·refine rn_load (ld1 tab_ok (by (repeat constructor); first | done | fail) rfl rfl rfl) ?_
     conv => whnf
     refine ⟨SubM.sub (List.nil_sublist _), ?_⟩
     conv => whnf
     refine ⟨?_, trivial⟩
     ·refine rn_load (ld1 tab_ok (by (repeat constructor); first | done | fail) rfl rfl rfl) ?_
      conv => whnf
      refine ⟨SubM.sub (List.nil_sublist _), ?_⟩
      conv => whnf
      refine ⟨?_, trivial⟩
      ·refine rn_subm (SubM.torow (xs := []) (n := 0) (b := z0) (by (repeat constructor); first | done | fail) rfl rfl) (rn_appN (k := .u8) (numsOf a.bytes) hnl tab_ok rfl rfl rfl rfl rfl rfl .here (fun w hm => hBy _ w hm) (by omega) (fun A1 c1 => ?_))
       conv => whnf
       refine ⟨SubM.sub (List.nil_sublist _), ?_⟩
       conv => whnf
       refine ⟨?_, trivial⟩
       ·refine rn_appP tab_ok rfl rfl rfl rfl rfl rfl (by (repeat constructor); first | done | fail) rfl (news_blk (by (repeat constructor); first | done | fail)) rfl (by omega) (by omega) (fun g1 c1 hc1 => ?_)
        conv => whnf
        refine ⟨SubM.sub (List.nil_sublist _), ?_⟩
        conv => whnf
        refine ⟨⟨by omega, by omega, by omega, .inr (Pl.mk _ _)⟩, ?_⟩
        conv => whnf
        (repeat ((first | refine stp (by (repeat constructor); first | done | fail) ?_ | refine stn (by (repeat constructor); first | done | fail) ?_ | refine sto (by (repeat constructor); first | done | fail) (by first | omega | (simp only; omega)) ?_ | refine .mk fun Ap capp => ?_ | refine ⟨?_, trivial⟩ | intro _); conv => whnf))
        refine ⟨(g1, c1), by simp only; omega, ⟨rfl, rfl, trivial⟩, ?_⟩
        simp only [Nat.zero_add, List.nil_append, hcut8]
        exact SubM.sel (by (repeat constructor); first | done | fail)
   ·refine rn_load (ld1 tab_ok (by (repeat constructor); first | done | fail) rfl rfl rfl) ?_
    conv => whnf
    refine ⟨SubM.sub (List.nil_sublist _), ?_⟩
    conv => whnf
    refine ⟨?_, ?_, trivial⟩
    ·refine rn_load (ld1 tab_ok (by (repeat constructor); first | done | fail) rfl rfl rfl) ?_
     conv => whnf
     refine ⟨SubM.sub (List.nil_sublist _), ?_⟩
     conv => whnf
     refine ⟨?_, ?_, trivial⟩
     ·refine rn_subm (SubM.torow (xs := []) (n := 0) (b := z0) (by (repeat constructor); first | done | fail) rfl rfl) (rn_appN (k := .u8) (numsOf a.bytes) hnl tab_ok rfl rfl rfl rfl rfl rfl .here (fun w hm => hBy _ w hm) (by omega) (fun A1 c1 => ?_))
      conv => whnf
      refine ⟨SubM.sub (List.nil_sublist _), ?_⟩
      conv => whnf
      refine ⟨?_, trivial⟩
      ·intro z4
       conv => whnf
       refine ⟨SubM.sub (List.nil_sublist _), ?_⟩
       conv => whnf
       refine ⟨?_, trivial⟩
       ·refine rn_appP tab_ok rfl rfl rfl rfl rfl rfl (by (repeat constructor); first | done | fail) rfl (news_blk (by (repeat constructor); first | done | fail)) rfl (by omega) (by omega) (fun g1 c1 hc1 => ?_)
        conv => whnf
        refine ⟨SubM.sub (List.nil_sublist _), ?_⟩
        conv => whnf
        refine ⟨⟨by omega, by omega, by omega, .inr (Pl.mk _ _)⟩, ?_⟩
        conv => whnf
        (repeat ((first | refine stp (by (repeat constructor); first | done | fail) ?_ | refine stn (by (repeat constructor); first | done | fail) ?_ | refine sto (by (repeat constructor); first | done | fail) (by first | omega | (simp only; omega)) ?_ | refine .mk fun Ap capp => ?_ | refine ⟨?_, trivial⟩ | intro _); conv => whnf))
        refine ⟨(g1, c1), by simp only; omega, ⟨rfl, rfl, trivial⟩, ?_⟩
        simp only [Nat.zero_add, List.nil_append, hcut8]
        exact SubM.sel (by (repeat constructor); first | done | fail)
     ·intro z4
      conv => whnf
      refine ⟨SubM.sub (List.nil_sublist _), ?_⟩
      conv => whnf
      refine ⟨?_, trivial⟩
      ·refine rn_subm (SubM.torow (xs := []) (n := 0) (b := z0) (by (repeat constructor); first | done | fail) rfl rfl) (rn_appN (k := .u8) (numsOf a.bytes) hnl tab_ok rfl rfl rfl rfl rfl rfl .here (fun w hm => hBy _ w hm) (by omega) (fun A1 c1 => ?_))
       conv => whnf
       refine ⟨SubM.sub (List.nil_sublist _), ?_⟩
       conv => whnf
       refine ⟨?_, trivial⟩
       ·refine rn_appP tab_ok rfl rfl rfl rfl rfl rfl (by (repeat constructor); first | done | fail) rfl (news_blk (by (repeat constructor); first | done | fail)) rfl (by omega) (by omega) (fun g1 c1 hc1 => ?_)
        conv => whnf
        refine ⟨SubM.sub (List.nil_sublist _), ?_⟩
        conv => whnf
        refine ⟨⟨by omega, by omega, by omega, .inr (Pl.mk _ _)⟩, ?_⟩
        conv => whnf
        (repeat ((first | refine stp (by (repeat constructor); first | done | fail) ?_ | refine stn (by (repeat constructor); first | done | fail) ?_ | refine sto (by (repeat constructor); first | done | fail) (by first | omega | (simp only; omega)) ?_ | refine .mk fun Ap capp => ?_ | refine ⟨?_, trivial⟩ | intro _); conv => whnf))
        refine ⟨(g1, c1), by simp only; omega, ⟨rfl, rfl, trivial⟩, ?_⟩
        simp only [Nat.zero_add, List.nil_append, hcut8]
        exact SubM.sel (by (repeat constructor); first | done | fail)
    ·intro z4
     conv => whnf
     refine ⟨SubM.sub (List.nil_sublist _), ?_⟩
     conv => whnf
     refine ⟨?_, trivial⟩
     ·refine rn_load (ld1 tab_ok (by (repeat constructor); first | done | fail) rfl rfl rfl) ?_
      conv => whnf
      refine ⟨SubM.sub (List.nil_sublist _), ?_⟩
      conv => whnf
      refine ⟨?_, trivial⟩
      ·refine rn_subm (SubM.torow (xs := []) (n := 0) (b := z0) (by (repeat constructor); first | done | fail) rfl rfl) (rn_appN (k := .u8) (numsOf a.bytes) hnl tab_ok rfl rfl rfl rfl rfl rfl .here (fun w hm => hBy _ w hm) (by omega) (fun A1 c1 => ?_))
       conv => whnf
       refine ⟨SubM.sub (List.nil_sublist _), ?_⟩
       conv => whnf
       refine ⟨?_, trivial⟩
       ·refine rn_appP tab_ok rfl rfl rfl rfl rfl rfl (by (repeat constructor); first | done | fail) rfl (news_blk (by (repeat constructor); first | done | fail)) rfl (by omega) (by omega) (fun g1 c1 hc1 => ?_)
        conv => whnf
        refine ⟨SubM.sub (List.nil_sublist _), ?_⟩
        conv => whnf
        refine ⟨⟨by omega, by omega, by omega, .inr (Pl.mk _ _)⟩, ?_⟩
        conv => whnf
        (repeat ((first | refine stp (by (repeat constructor); first | done | fail) ?_ | refine stn (by (repeat constructor); first | done | fail) ?_ | refine sto (by (repeat constructor); first | done | fail) (by first | omega | (simp only; omega)) ?_ | refine .mk fun Ap capp => ?_ | refine ⟨?_, trivial⟩ | intro _); conv => whnf))
        refine ⟨(g1, c1), by simp only; omega, ⟨rfl, rfl, trivial⟩, ?_⟩
        simp only [Nat.zero_add, List.nil_append, hcut8]
        exact SubM.sel (by (repeat constructor); first | done | fail)
  ·refine rn_load (ld1 tab_ok (by (repeat constructor); first | done | fail) rfl rfl rfl) ?_
   conv => whnf
   refine ⟨SubM.sub (List.nil_sublist _), ?_⟩
   conv => whnf
   refine ⟨?_, ?_, ?_, trivial⟩
   ·intro z0
    conv => whnf
    refine ⟨SubM.sub (List.nil_sublist _), ?_⟩
    conv => whnf
    refine ⟨?_, ?_, ?_, trivial⟩
    ·refine rn_subm (SubM.torow (xs := []) (n := 0) (b := z0) (by (repeat constructor); first | done | fail) rfl rfl) (rn_appN (k := .u8) (numsOf a.bytes) hnl tab_ok rfl rfl rfl rfl rfl rfl .here (fun w hm => hBy _ w hm) (by omega) (fun A1 c1 => ?_))
     conv => whnf
     refine ⟨SubM.sub (List.nil_sublist _), ?_⟩
     conv => whnf
     refine ⟨?_, ?_, trivial⟩
     ·intro z4
      conv => whnf
      refine ⟨SubM.sub (List.nil_sublist _), ?_⟩
      conv => whnf
      refine ⟨?_, ?_, trivial⟩
      ·refine rn_appP tab_ok rfl rfl rfl rfl rfl rfl (by (repeat constructor); first | done | fail) rfl (news_blk (by (repeat constructor); first | done | fail)) rfl (by omega) (by omega) (fun g1 c1 hc1 => ?_)
       conv => whnf
       refine ⟨SubM.sub (List.nil_sublist _), ?_⟩
       conv => whnf
       refine ⟨?_, trivial⟩
       ·refine rn_load (ld1 tab_ok (by (repeat constructor); first | done | fail) rfl rfl rfl) ?_
        conv => whnf
        refine ⟨SubM.sub (List.nil_sublist _), ?_⟩
        conv => whnf
        refine ⟨⟨by omega, by omega, by omega, .inr (Pl.mk _ _)⟩, ?_⟩
        conv => whnf
        (repeat ((first | refine stp (by (repeat constructor); first | done | fail) ?_ | refine stn (by (repeat constructor); first | done | fail) ?_ | refine sto (by (repeat constructor); first | done | fail) (by first | omega | (simp only; omega)) ?_ | refine .mk fun Ap capp => ?_ | refine ⟨?_, trivial⟩ | intro _); conv => whnf))
        refine ⟨(g1, c1), by simp only; omega, ⟨rfl, rfl, trivial⟩, ?_⟩
        simp only [Nat.zero_add, List.nil_append, hcut8]
        exact SubM.sel (by (repeat constructor); first | done | fail)
      ·refine rn_load (ld1 tab_ok (by (repeat constructor); first | done | fail) rfl rfl rfl) ?_
       conv => whnf
       refine ⟨SubM.sub (List.nil_sublist _), ?_⟩
       conv => whnf
       refine ⟨?_, trivial⟩
       ·refine rn_appP tab_ok rfl rfl rfl rfl rfl rfl (by (repeat constructor); first | done | fail) rfl (news_blk (by (repeat constructor); first | done | fail)) rfl (by omega) (by omega) (fun g1 c1 hc1 => ?_)
        conv => whnf
        refine ⟨SubM.sub (List.nil_sublist _), ?_⟩
        conv => whnf
        refine ⟨⟨by omega, by omega, by omega, .inr (Pl.mk _ _)⟩, ?_⟩
        conv => whnf
        (repeat ((first | refine stp (by (repeat constructor); first | done | fail) ?_ | refine stn (by (repeat constructor); first | done | fail) ?_ | refine sto (by (repeat constructor); first | done | fail) (by first | omega | (simp only; omega)) ?_ | refine .mk fun Ap capp => ?_ | refine ⟨?_, trivial⟩ | intro _); conv => whnf))
        refine ⟨(g1, c1), by simp only; omega, ⟨rfl, rfl, trivial⟩, ?_⟩
        simp only [Nat.zero_add, List.nil_append, hcut8]
        exact SubM.sel (by (repeat constructor); first | done | fail)
     ·refine rn_load (ld1 tab_ok (by (repeat constructor); first | done | fail) rfl rfl rfl) ?_
      conv => whnf
      refine ⟨SubM.sub (List.nil_sublist _), ?_⟩
      conv => whnf
      refine ⟨?_, trivial⟩
      ·intro z4
       conv => whnf
       refine ⟨SubM.sub (List.nil_sublist _), ?_⟩
       conv => whnf
       refine ⟨?_, trivial⟩
       ·refine rn_appP tab_ok rfl rfl rfl rfl rfl rfl (by (repeat constructor); first | done | fail) rfl (news_blk (by (repeat constructor); first | done | fail)) rfl (by omega) (by omega) (fun g1 c1 hc1 => ?_)
        conv => whnf
        refine ⟨SubM.sub (List.nil_sublist _), ?_⟩
        conv => whnf
        refine ⟨⟨by omega, by omega, by omega, .inr (Pl.mk _ _)⟩, ?_⟩
        conv => whnf
        (repeat ((first | refine stp (by (repeat constructor); first | done | fail) ?_ | refine stn (by (repeat constructor); first | done | fail) ?_ | refine sto (by (repeat constructor); first | done | fail) (by first | omega | (simp only; omega)) ?_ | refine .mk fun Ap capp => ?_ | refine ⟨?_, trivial⟩ | intro _); conv => whnf))
        refine ⟨(g1, c1), by simp only; omega, ⟨rfl, rfl, trivial⟩, ?_⟩
        simp only [Nat.zero_add, List.nil_append, hcut8]
        exact SubM.sel (by (repeat constructor); first | done | fail)
    ·intro z4
     conv => whnf
     refine ⟨SubM.sub (List.nil_sublist _), ?_⟩
     conv => whnf
     refine ⟨?_, ?_, trivial⟩
     ·refine rn_subm (SubM.torow (xs := []) (n := 0) (b := z0) (by (repeat constructor); first | done | fail) rfl rfl) (rn_appN (k := .u8) (numsOf a.bytes) hnl tab_ok rfl rfl rfl rfl rfl rfl .here (fun w hm => hBy _ w hm) (by omega) (fun A1 c1 => ?_))
      conv => whnf
      refine ⟨SubM.sub (List.nil_sublist _), ?_⟩
      conv => whnf
      refine ⟨?_, ?_, trivial⟩
      ·refine rn_appP tab_ok rfl rfl rfl rfl rfl rfl (by (repeat constructor); first | done | fail) rfl (news_blk (by (repeat constructor); first | done | fail)) rfl (by omega) (by omega) (fun g1 c1 hc1 => ?_)
       conv => whnf
       refine ⟨SubM.sub (List.nil_sublist _), ?_⟩
       conv => whnf
       refine ⟨?_, trivial⟩
       ·refine rn_load (ld1 tab_ok (by (repeat constructor); first | done | fail) rfl rfl rfl) ?_
        conv => whnf
        refine ⟨SubM.sub (List.nil_sublist _), ?_⟩
        conv => whnf
        refine ⟨⟨by omega, by omega, by omega, .inr (Pl.mk _ _)⟩, ?_⟩
        conv => whnf
        (repeat ((first | refine stp (by (repeat constructor); first | done | fail) ?_ | refine stn (by (repeat constructor); first | done | fail) ?_ | refine sto (by (repeat constructor); first | done | fail) (by first | omega | (simp only; omega)) ?_ | refine .mk fun Ap capp => ?_ | refine ⟨?_, trivial⟩ | intro _); conv => whnf))
        refine ⟨(g1, c1), by simp only; omega, ⟨rfl, rfl, trivial⟩, ?_⟩
        simp only [Nat.zero_add, List.nil_append, hcut8]
        exact SubM.sel (by (repeat constructor); first | done | fail)
      ·refine rn_load (ld1 tab_ok (by (repeat constructor); first | done | fail) rfl rfl rfl) ?_
       conv => whnf
       refine ⟨SubM.sub (List.nil_sublist _), ?_⟩
       conv => whnf
       refine ⟨?_, trivial⟩
       ·refine rn_appP tab_ok rfl rfl rfl rfl rfl rfl (by (repeat constructor); first | done | fail) rfl (news_blk (by (repeat constructor); first | done | fail)) rfl (by omega) (by omega) (fun g1 c1 hc1 => ?_)
        conv => whnf
        refine ⟨SubM.sub (List.nil_sublist _), ?_⟩
        conv => whnf
        refine ⟨⟨by omega, by omega, by omega, .inr (Pl.mk _ _)⟩, ?_⟩
        conv => whnf
        (repeat ((first | refine stp (by (repeat constructor); first | done | fail) ?_ | refine stn (by (repeat constructor); first | done | fail) ?_ | refine sto (by (repeat constructor); first | done | fail) (by first | omega | (simp only; omega)) ?_ | refine .mk fun Ap capp => ?_ | refine ⟨?_, trivial⟩ | intro _); conv => whnf))
        refine ⟨(g1, c1), by simp only; omega, ⟨rfl, rfl, trivial⟩, ?_⟩
        simp only [Nat.zero_add, List.nil_append, hcut8]
        exact SubM.sel (by (repeat constructor); first | done | fail)
     ·refine rn_load (ld1 tab_ok (by (repeat constructor); first | done | fail) rfl rfl rfl) ?_
      conv => whnf
      refine ⟨SubM.sub (List.nil_sublist _), ?_⟩
      conv => whnf
      refine ⟨?_, trivial⟩
      ·refine rn_subm (SubM.torow (xs := []) (n := 0) (b := z0) (by (repeat constructor); first | done | fail) rfl rfl) (rn_appN (k := .u8) (numsOf a.bytes) hnl tab_ok rfl rfl rfl rfl rfl rfl .here (fun w hm => hBy _ w hm) (by omega) (fun A1 c1 => ?_))
       conv => whnf
       refine ⟨SubM.sub (List.nil_sublist _), ?_⟩
       conv => whnf
       refine ⟨?_, trivial⟩
       ·refine rn_appP tab_ok rfl rfl rfl rfl rfl rfl (by (repeat constructor); first | done | fail) rfl (news_blk (by (repeat constructor); first | done | fail)) rfl (by omega) (by omega) (fun g1 c1 hc1 => ?_)
        conv => whnf
        refine ⟨SubM.sub (List.nil_sublist _), ?_⟩
        conv => whnf
        refine ⟨⟨by omega, by omega, by omega, .inr (Pl.mk _ _)⟩, ?_⟩
        conv => whnf
        (repeat ((first | refine stp (by (repeat constructor); first | done | fail) ?_ | refine stn (by (repeat constructor); first | done | fail) ?_ | refine sto (by (repeat constructor); first | done | fail) (by first | omega | (simp only; omega)) ?_ | refine .mk fun Ap capp => ?_ | refine ⟨?_, trivial⟩ | intro _); conv => whnf))
        refine ⟨(g1, c1), by simp only; omega, ⟨rfl, rfl, trivial⟩, ?_⟩
        simp only [Nat.zero_add, List.nil_append, hcut8]
        exact SubM.sel (by (repeat constructor); first | done | fail)
    ·refine rn_load (ld1 tab_ok (by (repeat constructor); first | done | fail) rfl rfl rfl) ?_
     conv => whnf
     refine ⟨SubM.sub (List.nil_sublist _), ?_⟩
     conv => whnf
     refine ⟨?_, ?_, trivial⟩
     ·refine rn_subm (SubM.torow (xs := []) (n := 0) (b := z0) (by (repeat constructor); first | done | fail) rfl rfl) (rn_appN (k := .u8) (numsOf a.bytes) hnl tab_ok rfl rfl rfl rfl rfl rfl .here (fun w hm => hBy _ w hm) (by omega) (fun A1 c1 => ?_))
      conv => whnf
      refine ⟨SubM.sub (List.nil_sublist _), ?_⟩
      conv => whnf
      refine ⟨?_, trivial⟩
      ·intro z4
       conv => whnf
       refine ⟨SubM.sub (List.nil_sublist _), ?_⟩
       conv => whnf
       refine ⟨?_, trivial⟩
       ·refine rn_appP tab_ok rfl rfl rfl rfl rfl rfl (by (repeat constructor); first | done | fail) rfl (news_blk (by (repeat constructor); first | done | fail)) rfl (by omega) (by omega) (fun g1 c1 hc1 => ?_)
        conv => whnf
        refine ⟨SubM.sub (List.nil_sublist _), ?_⟩
        conv => whnf
        refine ⟨⟨by omega, by omega, by omega, .inr (Pl.mk _ _)⟩, ?_⟩
        conv => whnf
        (repeat ((first | refine stp (by (repeat constructor); first | done | fail) ?_ | refine stn (by (repeat constructor); first | done | fail) ?_ | refine sto (by (repeat constructor); first | done | fail) (by first | omega | (simp only; omega)) ?_ | refine .mk fun Ap capp => ?_ | refine ⟨?_, trivial⟩ | intro _); conv => whnf))
        refine ⟨(g1, c1), by simp only; omega, ⟨rfl, rfl, trivial⟩, ?_⟩
        simp only [Nat.zero_add, List.nil_append, hcut8]
        exact SubM.sel (by (repeat constructor); first | done | fail)
     ·intro z4
      conv => whnf
      refine ⟨SubM.sub (List.nil_sublist _), ?_⟩
      conv => whnf
      refine ⟨?_, trivial⟩
      ·refine rn_subm (SubM.torow (xs := []) (n := 0) (b := z0) (by (repeat constructor); first | done | fail) rfl rfl) (rn_appN (k := .u8) (numsOf a.bytes) hnl tab_ok rfl rfl rfl rfl rfl rfl .here (fun w hm => hBy _ w hm) (by omega) (fun A1 c1 => ?_))
       conv => whnf
       refine ⟨SubM.sub (List.nil_sublist _), ?_⟩
       conv => whnf
       refine ⟨?_, trivial⟩
       ·refine rn_appP tab_ok rfl rfl rfl rfl rfl rfl (by (repeat constructor); first | done | fail) rfl (news_blk (by (repeat constructor); first | done | fail)) rfl (by omega) (by omega) (fun g1 c1 hc1 => ?_)
        conv => whnf
        refine ⟨SubM.sub (List.nil_sublist _), ?_⟩
        conv => whnf
        refine ⟨⟨by omega, by omega, by omega, .inr (Pl.mk _ _)⟩, ?_⟩
        conv => whnf
        (repeat ((first | refine stp (by (repeat constructor); first | done | fail) ?_ | refine stn (by (repeat constructor); first | done | fail) ?_ | refine sto (by (repeat constructor); first | done | fail) (by first | omega | (simp only; omega)) ?_ | refine .mk fun Ap capp => ?_ | refine ⟨?_, trivial⟩ | intro _); conv => whnf))
        refine ⟨(g1, c1), by simp only; omega, ⟨rfl, rfl, trivial⟩, ?_⟩
        simp only [Nat.zero_add, List.nil_append, hcut8]
        exact SubM.sel (by (repeat constructor); first | done | fail)
   ·intro z4
    conv => whnf
    refine ⟨SubM.sub (List.nil_sublist _), ?_⟩
    conv => whnf
    refine ⟨?_, ?_, trivial⟩
    ·intro z0
     conv => whnf
     refine ⟨SubM.sub (List.nil_sublist _), ?_⟩
     conv => whnf
     refine ⟨?_, ?_, trivial⟩
     ·refine rn_subm (SubM.torow (xs := []) (n := 0) (b := z0) (by (repeat constructor); first | done | fail) rfl rfl) (rn_appN (k := .u8) (numsOf a.bytes) hnl tab_ok rfl rfl rfl rfl rfl rfl .here (fun w hm => hBy _ w hm) (by omega) (fun A1 c1 => ?_))
      conv => whnf
      refine ⟨SubM.sub (List.nil_sublist _), ?_⟩
      conv => whnf
      refine ⟨?_, ?_, trivial⟩
      ·refine rn_appP tab_ok rfl rfl rfl rfl rfl rfl (by (repeat constructor); first | done | fail) rfl (news_blk (by (repeat constructor); first | done | fail)) rfl (by omega) (by omega) (fun g1 c1 hc1 => ?_)
       conv => whnf
       refine ⟨SubM.sub (List.nil_sublist _), ?_⟩
       conv => whnf
       refine ⟨?_, trivial⟩
       ·refine rn_load (ld1 tab_ok (by (repeat constructor); first | done | fail) rfl rfl rfl) ?_
        conv => whnf
        refine ⟨SubM.sub (List.nil_sublist _), ?_⟩
        conv => whnf
        refine ⟨⟨by omega, by omega, by omega, .inr (Pl.mk _ _)⟩, ?_⟩
        conv => whnf
        (repeat ((first | refine stp (by (repeat constructor); first | done | fail) ?_ | refine stn (by (repeat constructor); first | done | fail) ?_ | refine sto (by (repeat constructor); first | done | fail) (by first | omega | (simp only; omega)) ?_ | refine .mk fun Ap capp => ?_ | refine ⟨?_, trivial⟩ | intro _); conv => whnf))
        refine ⟨(g1, c1), by simp only; omega, ⟨rfl, rfl, trivial⟩, ?_⟩
        simp only [Nat.zero_add, List.nil_append, hcut8]
        exact SubM.sel (by (repeat constructor); first | done | fail)
      ·refine rn_load (ld1 tab_ok (by (repeat constructor); first | done | fail) rfl rfl rfl) ?_
       conv => whnf
       refine ⟨SubM.sub (List.nil_sublist _), ?_⟩
       conv => whnf
       refine ⟨?_, trivial⟩
       ·refine rn_appP tab_ok rfl rfl rfl rfl rfl rfl (by (repeat constructor); first | done | fail) rfl (news_blk (by (repeat constructor); first | done | fail)) rfl (by omega) (by omega) (fun g1 c1 hc1 => ?_)
        conv => whnf
        refine ⟨SubM.sub (List.nil_sublist _), ?_⟩
        conv => whnf
        refine ⟨⟨by omega, by omega, by omega, .inr (Pl.mk _ _)⟩, ?_⟩
        conv => whnf
        (repeat ((first | refine stp (by (repeat constructor); first | done | fail) ?_ | refine stn (by (repeat constructor); first | done | fail) ?_ | refine sto (by (repeat constructor); first | done | fail) (by first | omega | (simp only; omega)) ?_ | refine .mk fun Ap capp => ?_ | refine ⟨?_, trivial⟩ | intro _); conv => whnf))
        refine ⟨(g1, c1), by simp only; omega, ⟨rfl, rfl, trivial⟩, ?_⟩
        simp only [Nat.zero_add, List.nil_append, hcut8]
        exact SubM.sel (by (repeat constructor); first | done | fail)
     ·refine rn_load (ld1 tab_ok (by (repeat constructor); first | done | fail) rfl rfl rfl) ?_
      conv => whnf
      refine ⟨SubM.sub (List.nil_sublist _), ?_⟩
      conv => whnf
      refine ⟨?_, trivial⟩
      ·refine rn_subm (SubM.torow (xs := []) (n := 0) (b := z0) (by (repeat constructor); first | done | fail) rfl rfl) (rn_appN (k := .u8) (numsOf a.bytes) hnl tab_ok rfl rfl rfl rfl rfl rfl .here (fun w hm => hBy _ w hm) (by omega) (fun A1 c1 => ?_))
       conv => whnf
       refine ⟨SubM.sub (List.nil_sublist _), ?_⟩
       conv => whnf
       refine ⟨?_, trivial⟩
       ·refine rn_appP tab_ok rfl rfl rfl rfl rfl rfl (by (repeat constructor); first | done | fail) rfl (news_blk (by (repeat constructor); first | done | fail)) rfl (by omega) (by omega) (fun g1 c1 hc1 => ?_)
        conv => whnf
        refine ⟨SubM.sub (List.nil_sublist _), ?_⟩
        conv => whnf
        refine ⟨⟨by omega, by omega, by omega, .inr (Pl.mk _ _)⟩, ?_⟩
        conv => whnf
        (repeat ((first | refine stp (by (repeat constructor); first | done | fail) ?_ | refine stn (by (repeat constructor); first | done | fail) ?_ | refine sto (by (repeat constructor); first | done | fail) (by first | omega | (simp only; omega)) ?_ | refine .mk fun Ap capp => ?_ | refine ⟨?_, trivial⟩ | intro _); conv => whnf))
        refine ⟨(g1, c1), by simp only; omega, ⟨rfl, rfl, trivial⟩, ?_⟩
        simp only [Nat.zero_add, List.nil_append, hcut8]
        exact SubM.sel (by (repeat constructor); first | done | fail)
    ·refine rn_load (ld1 tab_ok (by (repeat constructor); first | done | fail) rfl rfl rfl) ?_
     conv => whnf
     refine ⟨SubM.sub (List.nil_sublist _), ?_⟩
     conv => whnf
     refine ⟨?_, trivial⟩
     ·intro z0
      conv => whnf
      refine ⟨SubM.sub (List.nil_sublist _), ?_⟩
      conv => whnf
      refine ⟨?_, trivial⟩
      ·refine rn_subm (SubM.torow (xs := []) (n := 0) (b := z0) (by (repeat constructor); first | done | fail) rfl rfl) (rn_appN (k := .u8) (numsOf a.bytes) hnl tab_ok rfl rfl rfl rfl rfl rfl .here (fun w hm => hBy _ w hm) (by omega) (fun A1 c1 => ?_))
       conv => whnf
       refine ⟨SubM.sub (List.nil_sublist _), ?_⟩
       conv => whnf
       refine ⟨?_, trivial⟩
       ·refine rn_appP tab_ok rfl rfl rfl rfl rfl rfl (by (repeat constructor); first | done | fail) rfl (news_blk (by (repeat constructor); first | done | fail)) rfl (by omega) (by omega) (fun g1 c1 hc1 => ?_)
        conv => whnf
        refine ⟨SubM.sub (List.nil_sublist _), ?_⟩
        conv => whnf
        refine ⟨⟨by omega, by omega, by omega, .inr (Pl.mk _ _)⟩, ?_⟩
        conv => whnf
        (repeat ((first | refine stp (by (repeat constructor); first | done | fail) ?_ | refine stn (by (repeat constructor); first | done | fail) ?_ | refine sto (by (repeat constructor); first | done | fail) (by first | omega | (simp only; omega)) ?_ | refine .mk fun Ap capp => ?_ | refine ⟨?_, trivial⟩ | intro _); conv => whnf))
        refine ⟨(g1, c1), by simp only; omega, ⟨rfl, rfl, trivial⟩, ?_⟩
        simp only [Nat.zero_add, List.nil_append, hcut8]
        exact SubM.sel (by (repeat constructor); first | done | fail)
   ·refine rn_load (ld1 tab_ok (by (repeat constructor); first | done | fail) rfl rfl rfl) ?_
    conv => whnf
    refine ⟨SubM.sub (List.nil_sublist _), ?_⟩
    conv => whnf
    refine ⟨?_, ?_, trivial⟩
    ·intro z0
     conv => whnf
     refine ⟨SubM.sub (List.nil_sublist _), ?_⟩
     conv => whnf
     refine ⟨?_, ?_, trivial⟩
     ·refine rn_subm (SubM.torow (xs := []) (n := 0) (b := z0) (by (repeat constructor); first | done | fail) rfl rfl) (rn_appN (k := .u8) (numsOf a.bytes) hnl tab_ok rfl rfl rfl rfl rfl rfl .here (fun w hm => hBy _ w hm) (by omega) (fun A1 c1 => ?_))
      conv => whnf
      refine ⟨SubM.sub (List.nil_sublist _), ?_⟩
      conv => whnf
      refine ⟨?_, trivial⟩
      ·intro z4
       conv => whnf
       refine ⟨SubM.sub (List.nil_sublist _), ?_⟩
       conv => whnf
       refine ⟨?_, trivial⟩
       ·refine rn_appP tab_ok rfl rfl rfl rfl rfl rfl (by (repeat constructor); first | done | fail) rfl (news_blk (by (repeat constructor); first | done | fail)) rfl (by omega) (by omega) (fun g1 c1 hc1 => ?_)
        conv => whnf
        refine ⟨SubM.sub (List.nil_sublist _), ?_⟩
        conv => whnf
        refine ⟨⟨by omega, by omega, by omega, .inr (Pl.mk _ _)⟩, ?_⟩
        conv => whnf
        (repeat ((first | refine stp (by (repeat constructor); first | done | fail) ?_ | refine stn (by (repeat constructor); first | done | fail) ?_ | refine sto (by (repeat constructor); first | done | fail) (by first | omega | (simp only; omega)) ?_ | refine .mk fun Ap capp => ?_ | refine ⟨?_, trivial⟩ | intro _); conv => whnf))
        refine ⟨(g1, c1), by simp only; omega, ⟨rfl, rfl, trivial⟩, ?_⟩
        simp only [Nat.zero_add, List.nil_append, hcut8]
        exact SubM.sel (by (repeat constructor); first | done | fail)
     ·intro z4
      conv => whnf
      refine ⟨SubM.sub (List.nil_sublist _), ?_⟩
      conv => whnf
      refine ⟨?_, trivial⟩
      ·refine rn_subm (SubM.torow (xs := []) (n := 0) (b := z0) (by (repeat constructor); first | done | fail) rfl rfl) (rn_appN (k := .u8) (numsOf a.bytes) hnl tab_ok rfl rfl rfl rfl rfl rfl .here (fun w hm => hBy _ w hm) (by omega) (fun A1 c1 => ?_))
       conv => whnf
       refine ⟨SubM.sub (List.nil_sublist _), ?_⟩
       conv => whnf
       refine ⟨?_, trivial⟩
       ·refine rn_appP tab_ok rfl rfl rfl rfl rfl rfl (by (repeat constructor); first | done | fail) rfl (news_blk (by (repeat constructor); first | done | fail)) rfl (by omega) (by omega) (fun g1 c1 hc1 => ?_)
        conv => whnf
        refine ⟨SubM.sub (List.nil_sublist _), ?_⟩
        conv => whnf
        refine ⟨⟨by omega, by omega, by omega, .inr (Pl.mk _ _)⟩, ?_⟩
        conv => whnf
        (repeat ((first | refine stp (by (repeat constructor); first | done | fail) ?_ | refine stn (by (repeat constructor); first | done | fail) ?_ | refine sto (by (repeat constructor); first | done | fail) (by first | omega | (simp only; omega)) ?_ | refine .mk fun Ap capp => ?_ | refine ⟨?_, trivial⟩ | intro _); conv => whnf))
        refine ⟨(g1, c1), by simp only; omega, ⟨rfl, rfl, trivial⟩, ?_⟩
        simp only [Nat.zero_add, List.nil_append, hcut8]
        exact SubM.sel (by (repeat constructor); first | done | fail)
    ·intro z4
     conv => whnf
     refine ⟨SubM.sub (List.nil_sublist _), ?_⟩
     conv => whnf
     refine ⟨?_, trivial⟩
     ·intro z0
      conv => whnf
      refine ⟨SubM.sub (List.nil_sublist _), ?_⟩
      conv => whnf
      refine ⟨?_, trivial⟩
      ·refine rn_subm (SubM.torow (xs := []) (n := 0) (b := z0) (by (repeat constructor); first | done | fail) rfl rfl) (rn_appN (k := .u8) (numsOf a.bytes) hnl tab_ok rfl rfl rfl rfl rfl rfl .here (fun w hm => hBy _ w hm) (by omega) (fun A1 c1 => ?_))
       conv => whnf
       refine ⟨SubM.sub (List.nil_sublist _), ?_⟩
       conv => whnf
       refine ⟨?_, trivial⟩
       ·refine rn_appP tab_ok rfl rfl rfl rfl rfl rfl (by (repeat constructor); first | done | fail) rfl (news_blk (by (repeat constructor); first | done | fail)) rfl (by omega) (by omega) (fun g1 c1 hc1 => ?_)
        conv => whnf
        refine ⟨SubM.sub (List.nil_sublist _), ?_⟩
        conv => whnf
        refine ⟨⟨by omega, by omega, by omega, .inr (Pl.mk _ _)⟩, ?_⟩
        conv => whnf
        (repeat ((first | refine stp (by (repeat constructor); first | done | fail) ?_ | refine stn (by (repeat constructor); first | done | fail) ?_ | refine sto (by (repeat constructor); first | done | fail) (by first | omega | (simp only; omega)) ?_ | refine .mk fun Ap capp => ?_ | refine ⟨?_, trivial⟩ | intro _); conv => whnf))
        refine ⟨(g1, c1), by simp only; omega, ⟨rfl, rfl, trivial⟩, ?_⟩
        simp only [Nat.zero_add, List.nil_append, hcut8]
        exact SubM.sel (by (repeat constructor); first | done | fail)
  ·intro z4
   conv => whnf
   refine ⟨SubM.sub (List.nil_sublist _), ?_⟩
   conv => whnf
   refine ⟨?_, ?_, ?_, trivial⟩
   ·intro z0
    conv => whnf
    refine ⟨SubM.sub (List.nil_sublist _), ?_⟩
    conv => whnf
    refine ⟨?_, ?_, trivial⟩
    ·refine rn_load (ld1 tab_ok (by (repeat constructor); first | done | fail) rfl rfl rfl) ?_
     conv => whnf
     refine ⟨SubM.sub (List.nil_sublist _), ?_⟩
     conv => whnf
     refine ⟨?_, ?_, trivial⟩
     ·refine rn_subm (SubM.torow (xs := []) (n := 0) (b := z0) (by (repeat constructor); first | done | fail) rfl rfl) (rn_appN (k := .u8) (numsOf a.bytes) hnl tab_ok rfl rfl rfl rfl rfl rfl .here (fun w hm => hBy _ w hm) (by omega) (fun A1 c1 => ?_))
      conv => whnf
      refine ⟨SubM.sub (List.nil_sublist _), ?_⟩
      conv => whnf
      refine ⟨?_, ?_, trivial⟩
      ·refine rn_appP tab_ok rfl rfl rfl rfl rfl rfl (by (repeat constructor); first | done | fail) rfl (news_blk (by (repeat constructor); first | done | fail)) rfl (by omega) (by omega) (fun g1 c1 hc1 => ?_)
       conv => whnf
       refine ⟨SubM.sub (List.nil_sublist _), ?_⟩
       conv => whnf
       refine ⟨?_, trivial⟩
       ·refine rn_load (ld1 tab_ok (by (repeat constructor); first | done | fail) rfl rfl rfl) ?_
        conv => whnf
        refine ⟨SubM.sub (List.nil_sublist _), ?_⟩
        conv => whnf
        refine ⟨⟨by omega, by omega, by omega, .inr (Pl.mk _ _)⟩, ?_⟩
        conv => whnf
        (repeat ((first | refine stp (by (repeat constructor); first | done | fail) ?_ | refine stn (by (repeat constructor); first | done | fail) ?_ | refine sto (by (repeat constructor); first | done | fail) (by first | omega | (simp only; omega)) ?_ | refine .mk fun Ap capp => ?_ | refine ⟨?_, trivial⟩ | intro _); conv => whnf))
        refine ⟨(g1, c1), by simp only; omega, ⟨rfl, rfl, trivial⟩, ?_⟩
        simp only [Nat.zero_add, List.nil_append, hcut8]
        exact SubM.sel (by (repeat constructor); first | done | fail)
      ·refine rn_load (ld1 tab_ok (by (repeat constructor); first | done | fail) rfl rfl rfl) ?_
       conv => whnf
       refine ⟨SubM.sub (List.nil_sublist _), ?_⟩
       conv => whnf
       refine ⟨?_, trivial⟩
       ·refine rn_appP tab_ok rfl rfl rfl rfl rfl rfl (by (repeat constructor); first | done | fail) rfl (news_blk (by (repeat constructor); first | done | fail)) rfl (by omega) (by omega) (fun g1 c1 hc1 => ?_)
        conv => whnf
        refine ⟨SubM.sub (List.nil_sublist _), ?_⟩
        conv => whnf
        refine ⟨⟨by omega, by omega, by omega, .inr (Pl.mk _ _)⟩, ?_⟩
        conv => whnf
        (repeat ((first | refine stp (by (repeat constructor); first | done | fail) ?_ | refine stn (by (repeat constructor); first | done | fail) ?_ | refine sto (by (repeat constructor); first | done | fail) (by first | omega | (simp only; omega)) ?_ | refine .mk fun Ap capp => ?_ | refine ⟨?_, trivial⟩ | intro _); conv => whnf))
        refine ⟨(g1, c1), by simp only; omega, ⟨rfl, rfl, trivial⟩, ?_⟩
        simp only [Nat.zero_add, List.nil_append, hcut8]
        exact SubM.sel (by (repeat constructor); first | done | fail)
     ·refine rn_load (ld1 tab_ok (by (repeat constructor); first | done | fail) rfl rfl rfl) ?_
      conv => whnf
      refine ⟨SubM.sub (List.nil_sublist _), ?_⟩
      conv => whnf
      refine ⟨?_, trivial⟩
      ·refine rn_subm (SubM.torow (xs := []) (n := 0) (b := z0) (by (repeat constructor); first | done | fail) rfl rfl) (rn_appN (k := .u8) (numsOf a.bytes) hnl tab_ok rfl rfl rfl rfl rfl rfl .here (fun w hm => hBy _ w hm) (by omega) (fun A1 c1 => ?_))
       conv => whnf
       refine ⟨SubM.sub (List.nil_sublist _), ?_⟩
       conv => whnf
       refine ⟨?_, trivial⟩
       ·refine rn_appP tab_ok rfl rfl rfl rfl rfl rfl (by (repeat constructor); first | done | fail) rfl (news_blk (by (repeat constructor); first | done | fail)) rfl (by omega) (by omega) (fun g1 c1 hc1 => ?_)
        conv => whnf
        refine ⟨SubM.sub (List.nil_sublist _), ?_⟩
        conv => whnf
        refine ⟨⟨by omega, by omega, by omega, .inr (Pl.mk _ _)⟩, ?_⟩
        conv => whnf
        (repeat ((first | refine stp (by (repeat constructor); first | done | fail) ?_ | refine stn (by (repeat constructor); first | done | fail) ?_ | refine sto (by (repeat constructor); first | done | fail) (by first | omega | (simp only; omega)) ?_ | refine .mk fun Ap capp => ?_ | refine ⟨?_, trivial⟩ | intro _); conv => whnf))
        refine ⟨(g1, c1), by simp only; omega, ⟨rfl, rfl, trivial⟩, ?_⟩
        simp only [Nat.zero_add, List.nil_append, hcut8]
        exact SubM.sel (by (repeat constructor); first | done | fail)
    ·refine rn_load (ld1 tab_ok (by (repeat constructor); first | done | fail) rfl rfl rfl) ?_
     conv => whnf
     refine ⟨SubM.sub (List.nil_sublist _), ?_⟩
     conv => whnf
     refine ⟨?_, trivial⟩
     ·refine rn_load (ld1 tab_ok (by (repeat constructor); first | done | fail) rfl rfl rfl) ?_
      conv => whnf
      refine ⟨SubM.sub (List.nil_sublist _), ?_⟩
      conv => whnf
      refine ⟨?_, trivial⟩
      ·refine rn_subm (SubM.torow (xs := []) (n := 0) (b := z0) (by (repeat constructor); first | done | fail) rfl rfl) (rn_appN (k := .u8) (numsOf a.bytes) hnl tab_ok rfl rfl rfl rfl rfl rfl .here (fun w hm => hBy _ w hm) (by omega) (fun A1 c1 => ?_))
       conv => whnf
       refine ⟨SubM.sub (List.nil_sublist _), ?_⟩
       conv => whnf
       refine ⟨?_, trivial⟩
       ·refine rn_appP tab_ok rfl rfl rfl rfl rfl rfl (by (repeat constructor); first | done | fail) rfl (news_blk (by (repeat constructor); first | done | fail)) rfl (by omega) (by omega) (fun g1 c1 hc1 => ?_)
        conv => whnf
        refine ⟨SubM.sub (List.nil_sublist _), ?_⟩
        conv => whnf
        refine ⟨⟨by omega, by omega, by omega, .inr (Pl.mk _ _)⟩, ?_⟩
        conv => whnf
        (repeat ((first | refine stp (by (repeat constructor); first | done | fail) ?_ | refine stn (by (repeat constructor); first | done | fail) ?_ | refine sto (by (repeat constructor); first | done | fail) (by first | omega | (simp only; omega)) ?_ | refine .mk fun Ap capp => ?_ | refine ⟨?_, trivial⟩ | intro _); conv => whnf))
        refine ⟨(g1, c1), by simp only; omega, ⟨rfl, rfl, trivial⟩, ?_⟩
        simp only [Nat.zero_add, List.nil_append, hcut8]
        exact SubM.sel (by (repeat constructor); first | done | fail)
   ·refine rn_load (ld1 tab_ok (by (repeat constructor); first | done | fail) rfl rfl rfl) ?_
    conv => whnf
    refine ⟨SubM.sub (List.nil_sublist _), ?_⟩
    conv => whnf
    refine ⟨?_, ?_, trivial⟩
    ·intro z0
     conv => whnf
     refine ⟨SubM.sub (List.nil_sublist _), ?_⟩
     conv => whnf
     refine ⟨?_, ?_, trivial⟩
     ·refine rn_subm (SubM.torow (xs := []) (n := 0) (b := z0) (by (repeat constructor); first | done | fail) rfl rfl) (rn_appN (k := .u8) (numsOf a.bytes) hnl tab_ok rfl rfl rfl rfl rfl rfl .here (fun w hm => hBy _ w hm) (by omega) (fun A1 c1 => ?_))
      conv => whnf
      refine ⟨SubM.sub (List.nil_sublist _), ?_⟩
      conv => whnf
      refine ⟨?_, ?_, trivial⟩
      ·refine rn_appP tab_ok rfl rfl rfl rfl rfl rfl (by (repeat constructor); first | done | fail) rfl (news_blk (by (repeat constructor); first | done | fail)) rfl (by omega) (by omega) (fun g1 c1 hc1 => ?_)
       conv => whnf
       refine ⟨SubM.sub (List.nil_sublist _), ?_⟩
       conv => whnf
       refine ⟨?_, trivial⟩
       ·refine rn_load (ld1 tab_ok (by (repeat constructor); first | done | fail) rfl rfl rfl) ?_
        conv => whnf
        refine ⟨SubM.sub (List.nil_sublist _), ?_⟩
        conv => whnf
        refine ⟨⟨by omega, by omega, by omega, .inr (Pl.mk _ _)⟩, ?_⟩
        conv => whnf
        (repeat ((first | refine stp (by (repeat constructor); first | done | fail) ?_ | refine stn (by (repeat constructor); first | done | fail) ?_ | refine sto (by (repeat constructor); first | done | fail) (by first | omega | (simp only; omega)) ?_ | refine .mk fun Ap capp => ?_ | refine ⟨?_, trivial⟩ | intro _); conv => whnf))
        refine ⟨(g1, c1), by simp only; omega, ⟨rfl, rfl, trivial⟩, ?_⟩
        simp only [Nat.zero_add, List.nil_append, hcut8]
        exact SubM.sel (by (repeat constructor); first | done | fail)
      ·refine rn_load (ld1 tab_ok (by (repeat constructor); first | done | fail) rfl rfl rfl) ?_
       conv => whnf
       refine ⟨SubM.sub (List.nil_sublist _), ?_⟩
       conv => whnf
       refine ⟨?_, trivial⟩
       ·refine rn_appP tab_ok rfl rfl rfl rfl rfl rfl (by (repeat constructor); first | done | fail) rfl (news_blk (by (repeat constructor); first | done | fail)) rfl (by omega) (by omega) (fun g1 c1 hc1 => ?_)
        conv => whnf
        refine ⟨SubM.sub (List.nil_sublist _), ?_⟩
        conv => whnf
        refine ⟨⟨by omega, by omega, by omega, .inr (Pl.mk _ _)⟩, ?_⟩
        conv => whnf
        (repeat ((first | refine stp (by (repeat constructor); first | done | fail) ?_ | refine stn (by (repeat constructor); first | done | fail) ?_ | refine sto (by (repeat constructor); first | done | fail) (by first | omega | (simp only; omega)) ?_ | refine .mk fun Ap capp => ?_ | refine ⟨?_, trivial⟩ | intro _); conv => whnf))
        refine ⟨(g1, c1), by simp only; omega, ⟨rfl, rfl, trivial⟩, ?_⟩
        simp only [Nat.zero_add, List.nil_append, hcut8]
        exact SubM.sel (by (repeat constructor); first | done | fail)
     ·refine rn_load (ld1 tab_ok (by (repeat constructor); first | done | fail) rfl rfl rfl) ?_
      conv => whnf
      refine ⟨SubM.sub (List.nil_sublist _), ?_⟩
      conv => whnf
      refine ⟨?_, trivial⟩
      ·refine rn_subm (SubM.torow (xs := []) (n := 0) (b := z0) (by (repeat constructor); first | done | fail) rfl rfl) (rn_appN (k := .u8) (numsOf a.bytes) hnl tab_ok rfl rfl rfl rfl rfl rfl .here (fun w hm => hBy _ w hm) (by omega) (fun A1 c1 => ?_))
       conv => whnf
       refine ⟨SubM.sub (List.nil_sublist _), ?_⟩
       conv => whnf
       refine ⟨?_, trivial⟩
       ·refine rn_appP tab_ok rfl rfl rfl rfl rfl rfl (by (repeat constructor); first | done | fail) rfl (news_blk (by (repeat constructor); first | done | fail)) rfl (by omega) (by omega) (fun g1 c1 hc1 => ?_)
        conv => whnf
        refine ⟨SubM.sub (List.nil_sublist _), ?_⟩
        conv => whnf
        refine ⟨⟨by omega, by omega, by omega, .inr (Pl.mk _ _)⟩, ?_⟩
        conv => whnf
        (repeat ((first | refine stp (by (repeat constructor); first | done | fail) ?_ | refine stn (by (repeat constructor); first | done | fail) ?_ | refine sto (by (repeat constructor); first | done | fail) (by first | omega | (simp only; omega)) ?_ | refine .mk fun Ap capp => ?_ | refine ⟨?_, trivial⟩ | intro _); conv => whnf))
        refine ⟨(g1, c1), by simp only; omega, ⟨rfl, rfl, trivial⟩, ?_⟩
        simp only [Nat.zero_add, List.nil_append, hcut8]
        exact SubM.sel (by (repeat constructor); first | done | fail)
    ·refine rn_load (ld1 tab_ok (by (repeat constructor); first | done | fail) rfl rfl rfl) ?_
     conv => whnf
     refine ⟨SubM.sub (List.nil_sublist _), ?_⟩
     conv => whnf
     refine ⟨?_, trivial⟩
     ·intro z0
      conv => whnf
      refine ⟨SubM.sub (List.nil_sublist _), ?_⟩
      conv => whnf
      refine ⟨?_, trivial⟩
      ·refine rn_subm (SubM.torow (xs := []) (n := 0) (b := z0) (by (repeat constructor); first | done | fail) rfl rfl) (rn_appN (k := .u8) (numsOf a.bytes) hnl tab_ok rfl rfl rfl rfl rfl rfl .here (fun w hm => hBy _ w hm) (by omega) (fun A1 c1 => ?_))
       conv => whnf
       refine ⟨SubM.sub (List.nil_sublist _), ?_⟩
       conv => whnf
       refine ⟨?_, trivial⟩
       ·refine rn_appP tab_ok rfl rfl rfl rfl rfl rfl (by (repeat constructor); first | done | fail) rfl (news_blk (by (repeat constructor); first | done | fail)) rfl (by omega) (by omega) (fun g1 c1 hc1 => ?_)
        conv => whnf
        refine ⟨SubM.sub (List.nil_sublist _), ?_⟩
        conv => whnf
        refine ⟨⟨by omega, by omega, by omega, .inr (Pl.mk _ _)⟩, ?_⟩
        conv => whnf
        (repeat ((first | refine stp (by (repeat constructor); first | done | fail) ?_ | refine stn (by (repeat constructor); first | done | fail) ?_ | refine sto (by (repeat constructor); first | done | fail) (by first | omega | (simp only; omega)) ?_ | refine .mk fun Ap capp => ?_ | refine ⟨?_, trivial⟩ | intro _); conv => whnf))
        refine ⟨(g1, c1), by simp only; omega, ⟨rfl, rfl, trivial⟩, ?_⟩
        simp only [Nat.zero_add, List.nil_append, hcut8]
        exact SubM.sel (by (repeat constructor); first | done | fail)
   ·refine rn_load (ld1 tab_ok (by (repeat constructor); first | done | fail) rfl rfl rfl) ?_
    conv => whnf
    refine ⟨SubM.sub (List.nil_sublist _), ?_⟩
    conv => whnf
    refine ⟨?_, ?_, trivial⟩
    ·intro z0
     conv => whnf
     refine ⟨SubM.sub (List.nil_sublist _), ?_⟩
     conv => whnf
     refine ⟨?_, trivial⟩
     ·refine rn_load (ld1 tab_ok (by (repeat constructor); first | done | fail) rfl rfl rfl) ?_
      conv => whnf
      refine ⟨SubM.sub (List.nil_sublist _), ?_⟩
      conv => whnf
      refine ⟨?_, trivial⟩
      ·refine rn_subm (SubM.torow (xs := []) (n := 0) (b := z0) (by (repeat constructor); first | done | fail) rfl rfl) (rn_appN (k := .u8) (numsOf a.bytes) hnl tab_ok rfl rfl rfl rfl rfl rfl .here (fun w hm => hBy _ w hm) (by omega) (fun A1 c1 => ?_))
       conv => whnf
       refine ⟨SubM.sub (List.nil_sublist _), ?_⟩
       conv => whnf
       refine ⟨?_, trivial⟩
       ·refine rn_appP tab_ok rfl rfl rfl rfl rfl rfl (by (repeat constructor); first | done | fail) rfl (news_blk (by (repeat constructor); first | done | fail)) rfl (by omega) (by omega) (fun g1 c1 hc1 => ?_)
        conv => whnf
        refine ⟨SubM.sub (List.nil_sublist _), ?_⟩
        conv => whnf
        refine ⟨⟨by omega, by omega, by omega, .inr (Pl.mk _ _)⟩, ?_⟩
        conv => whnf
        (repeat ((first | refine stp (by (repeat constructor); first | done | fail) ?_ | refine stn (by (repeat constructor); first | done | fail) ?_ | refine sto (by (repeat constructor); first | done | fail) (by first | omega | (simp only; omega)) ?_ | refine .mk fun Ap capp => ?_ | refine ⟨?_, trivial⟩ | intro _); conv => whnf))
        refine ⟨(g1, c1), by simp only; omega, ⟨rfl, rfl, trivial⟩, ?_⟩
        simp only [Nat.zero_add, List.nil_append, hcut8]
        exact SubM.sel (by (repeat constructor); first | done | fail)
    ·refine rn_load (ld1 tab_ok (by (repeat constructor); first | done | fail) rfl rfl rfl) ?_
     conv => whnf
     refine ⟨SubM.sub (List.nil_sublist _), ?_⟩
     conv => whnf
     refine ⟨?_, trivial⟩
     ·intro z0
      conv => whnf
      refine ⟨SubM.sub (List.nil_sublist _), ?_⟩
      conv => whnf
      refine ⟨?_, trivial⟩
      ·refine rn_subm (SubM.torow (xs := []) (n := 0) (b := z0) (by (repeat constructor); first | done | fail) rfl rfl) (rn_appN (k := .u8) (numsOf a.bytes) hnl tab_ok rfl rfl rfl rfl rfl rfl .here (fun w hm => hBy _ w hm) (by omega) (fun A1 c1 => ?_))
       conv => whnf
       refine ⟨SubM.sub (List.nil_sublist _), ?_⟩
       conv => whnf
       refine ⟨?_, trivial⟩
       ·refine rn_appP tab_ok rfl rfl rfl rfl rfl rfl (by (repeat constructor); first | done | fail) rfl (news_blk (by (repeat constructor); first | done | fail)) rfl (by omega) (by omega) (fun g1 c1 hc1 => ?_)
        conv => whnf
        refine ⟨SubM.sub (List.nil_sublist _), ?_⟩
        conv => whnf
        refine ⟨⟨by omega, by omega, by omega, .inr (Pl.mk _ _)⟩, ?_⟩
        conv => whnf
        (repeat ((first | refine stp (by (repeat constructor); first | done | fail) ?_ | refine stn (by (repeat constructor); first | done | fail) ?_ | refine sto (by (repeat constructor); first | done | fail) (by first | omega | (simp only; omega)) ?_ | refine .mk fun Ap capp => ?_ | refine ⟨?_, trivial⟩ | intro _); conv => whnf))
        refine ⟨(g1, c1), by simp only; omega, ⟨rfl, rfl, trivial⟩, ?_⟩
        simp only [Nat.zero_add, List.nil_append, hcut8]
        exact SubM.sel (by (repeat constructor); first | done | fail)
  ·refine rn_load (ld1 tab_ok (by (repeat constructor); first | done | fail) rfl rfl rfl) ?_
   conv => whnf
   refine ⟨SubM.sub (List.nil_sublist _), ?_⟩
   conv => whnf
   refine ⟨?_, ?_, ?_, trivial⟩
   ·intro z0
    conv => whnf
    refine ⟨SubM.sub (List.nil_sublist _), ?_⟩
    conv => whnf
    refine ⟨?_, ?_, trivial⟩
    ·refine rn_load (ld1 tab_ok (by (repeat constructor); first | done | fail) rfl rfl rfl) ?_
     conv => whnf
     refine ⟨SubM.sub (List.nil_sublist _), ?_⟩
     conv => whnf
     refine ⟨?_, ?_, trivial⟩
     ·refine rn_subm (SubM.torow (xs := []) (n := 0) (b := z0) (by (repeat constructor); first | done | fail) rfl rfl) (rn_appN (k := .u8) (numsOf a.bytes) hnl tab_ok rfl rfl rfl rfl rfl rfl .here (fun w hm => hBy _ w hm) (by omega) (fun A1 c1 => ?_))
      conv => whnf
      refine ⟨SubM.sub (List.nil_sublist _), ?_⟩
      conv => whnf
      refine ⟨?_, trivial⟩
      ·intro z4
       conv => whnf
       refine ⟨SubM.sub (List.nil_sublist _), ?_⟩
       conv => whnf
       refine ⟨?_, trivial⟩
       ·refine rn_appP tab_ok rfl rfl rfl rfl rfl rfl (by (repeat constructor); first | done | fail) rfl (news_blk (by (repeat constructor); first | done | fail)) rfl (by omega) (by omega) (fun g1 c1 hc1 => ?_)
        conv => whnf
        refine ⟨SubM.sub (List.nil_sublist _), ?_⟩
        conv => whnf
        refine ⟨⟨by omega, by omega, by omega, .inr (Pl.mk _ _)⟩, ?_⟩
        conv => whnf
        (repeat ((first | refine stp (by (repeat constructor); first | done | fail) ?_ | refine stn (by (repeat constructor); first | done | fail) ?_ | refine sto (by (repeat constructor); first | done | fail) (by first | omega | (simp only; omega)) ?_ | refine .mk fun Ap capp => ?_ | refine ⟨?_, trivial⟩ | intro _); conv => whnf))
        refine ⟨(g1, c1), by simp only; omega, ⟨rfl, rfl, trivial⟩, ?_⟩
        simp only [Nat.zero_add, List.nil_append, hcut8]
        exact SubM.sel (by (repeat constructor); first | done | fail)
     ·intro z4
      conv => whnf
      refine ⟨SubM.sub (List.nil_sublist _), ?_⟩
      conv => whnf
      refine ⟨?_, trivial⟩
      ·refine rn_subm (SubM.torow (xs := []) (n := 0) (b := z0) (by (repeat constructor); first | done | fail) rfl rfl) (rn_appN (k := .u8) (numsOf a.bytes) hnl tab_ok rfl rfl rfl rfl rfl rfl .here (fun w hm => hBy _ w hm) (by omega) (fun A1 c1 => ?_))
       conv => whnf
       refine ⟨SubM.sub (List.nil_sublist _), ?_⟩
       conv => whnf
       refine ⟨?_, trivial⟩
       ·refine rn_appP tab_ok rfl rfl rfl rfl rfl rfl (by (repeat constructor); first | done | fail) rfl (news_blk (by (repeat constructor); first | done | fail)) rfl (by omega) (by omega) (fun g1 c1 hc1 => ?_)
        conv => whnf
        refine ⟨SubM.sub (List.nil_sublist _), ?_⟩
        conv => whnf
        refine ⟨⟨by omega, by omega, by omega, .inr (Pl.mk _ _)⟩, ?_⟩
        conv => whnf
        (repeat ((first | refine stp (by (repeat constructor); first | done | fail) ?_ | refine stn (by (repeat constructor); first | done | fail) ?_ | refine sto (by (repeat constructor); first | done | fail) (by first | omega | (simp only; omega)) ?_ | refine .mk fun Ap capp => ?_ | refine ⟨?_, trivial⟩ | intro _); conv => whnf))
        refine ⟨(g1, c1), by simp only; omega, ⟨rfl, rfl, trivial⟩, ?_⟩
        simp only [Nat.zero_add, List.nil_append, hcut8]
        exact SubM.sel (by (repeat constructor); first | done | fail)
    ·intro z4
     conv => whnf
     refine ⟨SubM.sub (List.nil_sublist _), ?_⟩
     conv => whnf
     refine ⟨?_, trivial⟩
     ·refine rn_load (ld1 tab_ok (by (repeat constructor); first | done | fail) rfl rfl rfl) ?_
      conv => whnf
      refine ⟨SubM.sub (List.nil_sublist _), ?_⟩
      conv => whnf
      refine ⟨?_, trivial⟩
      ·refine rn_subm (SubM.torow (xs := []) (n := 0) (b := z0) (by (repeat constructor); first | done | fail) rfl rfl) (rn_appN (k := .u8) (numsOf a.bytes) hnl tab_ok rfl rfl rfl rfl rfl rfl .here (fun w hm => hBy _ w hm) (by omega) (fun A1 c1 => ?_))
       conv => whnf
       refine ⟨SubM.sub (List.nil_sublist _), ?_⟩
       conv => whnf
       refine ⟨?_, trivial⟩
       ·refine rn_appP tab_ok rfl rfl rfl rfl rfl rfl (by (repeat constructor); first | done | fail) rfl (news_blk (by (repeat constructor); first | done | fail)) rfl (by omega) (by omega) (fun g1 c1 hc1 => ?_)
        conv => whnf
        refine ⟨SubM.sub (List.nil_sublist _), ?_⟩
        conv => whnf
        refine ⟨⟨by omega, by omega, by omega, .inr (Pl.mk _ _)⟩, ?_⟩
        conv => whnf
        (repeat ((first | refine stp (by (repeat constructor); first | done | fail) ?_ | refine stn (by (repeat constructor); first | done | fail) ?_ | refine sto (by (repeat constructor); first | done | fail) (by first | omega | (simp only; omega)) ?_ | refine .mk fun Ap capp => ?_ | refine ⟨?_, trivial⟩ | intro _); conv => whnf))
        refine ⟨(g1, c1), by simp only; omega, ⟨rfl, rfl, trivial⟩, ?_⟩
        simp only [Nat.zero_add, List.nil_append, hcut8]
        exact SubM.sel (by (repeat constructor); first | done | fail)
   ·refine rn_load (ld1 tab_ok (by (repeat constructor); first | done | fail) rfl rfl rfl) ?_
    conv => whnf
    refine ⟨SubM.sub (List.nil_sublist _), ?_⟩
    conv => whnf
    refine ⟨?_, ?_, trivial⟩
    ·intro z0
     conv => whnf
     refine ⟨SubM.sub (List.nil_sublist _), ?_⟩
     conv => whnf
     refine ⟨?_, ?_, trivial⟩
     ·refine rn_subm (SubM.torow (xs := []) (n := 0) (b := z0) (by (repeat constructor); first | done | fail) rfl rfl) (rn_appN (k := .u8) (numsOf a.bytes) hnl tab_ok rfl rfl rfl rfl rfl rfl .here (fun w hm => hBy _ w hm) (by omega) (fun A1 c1 => ?_))
      conv => whnf
      refine ⟨SubM.sub (List.nil_sublist _), ?_⟩
      conv => whnf
      refine ⟨?_, trivial⟩
      ·intro z4
       conv => whnf
       refine ⟨SubM.sub (List.nil_sublist _), ?_⟩
       conv => whnf
       refine ⟨?_, trivial⟩
       ·refine rn_appP tab_ok rfl rfl rfl rfl rfl rfl (by (repeat constructor); first | done | fail) rfl (news_blk (by (repeat constructor); first | done | fail)) rfl (by omega) (by omega) (fun g1 c1 hc1 => ?_)
        conv => whnf
        refine ⟨SubM.sub (List.nil_sublist _), ?_⟩
        conv => whnf
        refine ⟨⟨by omega, by omega, by omega, .inr (Pl.mk _ _)⟩, ?_⟩
        conv => whnf
        (repeat ((first | refine stp (by (repeat constructor); first | done | fail) ?_ | refine stn (by (repeat constructor); first | done | fail) ?_ | refine sto (by (repeat constructor); first | done | fail) (by first | omega | (simp only; omega)) ?_ | refine .mk fun Ap capp => ?_ | refine ⟨?_, trivial⟩ | intro _); conv => whnf))
        refine ⟨(g1, c1), by simp only; omega, ⟨rfl, rfl, trivial⟩, ?_⟩
        simp only [Nat.zero_add, List.nil_append, hcut8]
        exact SubM.sel (by (repeat constructor); first | done | fail)
     ·intro z4
      conv => whnf
      refine ⟨SubM.sub (List.nil_sublist _), ?_⟩
      conv => whnf
      refine ⟨?_, trivial⟩
      ·refine rn_subm (SubM.torow (xs := []) (n := 0) (b := z0) (by (repeat constructor); first | done | fail) rfl rfl) (rn_appN (k := .u8) (numsOf a.bytes) hnl tab_ok rfl rfl rfl rfl rfl rfl .here (fun w hm => hBy _ w hm) (by omega) (fun A1 c1 => ?_))
       conv => whnf
       refine ⟨SubM.sub (List.nil_sublist _), ?_⟩
       conv => whnf
       refine ⟨?_, trivial⟩
       ·refine rn_appP tab_ok rfl rfl rfl rfl rfl rfl (by (repeat constructor); first | done | fail) rfl (news_blk (by (repeat constructor); first | done | fail)) rfl (by omega) (by omega) (fun g1 c1 hc1 => ?_)
        conv => whnf
        refine ⟨SubM.sub (List.nil_sublist _), ?_⟩
        conv => whnf
        refine ⟨⟨by omega, by omega, by omega, .inr (Pl.mk _ _)⟩, ?_⟩
        conv => whnf
        (repeat ((first | refine stp (by (repeat constructor); first | done | fail) ?_ | refine stn (by (repeat constructor); first | done | fail) ?_ | refine sto (by (repeat constructor); first | done | fail) (by first | omega | (simp only; omega)) ?_ | refine .mk fun Ap capp => ?_ | refine ⟨?_, trivial⟩ | intro _); conv => whnf))
        refine ⟨(g1, c1), by simp only; omega, ⟨rfl, rfl, trivial⟩, ?_⟩
        simp only [Nat.zero_add, List.nil_append, hcut8]
        exact SubM.sel (by (repeat constructor); first | done | fail)
    ·intro z4
     conv => whnf
     refine ⟨SubM.sub (List.nil_sublist _), ?_⟩
     conv => whnf
     refine ⟨?_, trivial⟩
     ·intro z0
      conv => whnf
      refine ⟨SubM.sub (List.nil_sublist _), ?_⟩
      conv => whnf
      refine ⟨?_, trivial⟩
      ·refine rn_subm (SubM.torow (xs := []) (n := 0) (b := z0) (by (repeat constructor); first | done | fail) rfl rfl) (rn_appN (k := .u8) (numsOf a.bytes) hnl tab_ok rfl rfl rfl rfl rfl rfl .here (fun w hm => hBy _ w hm) (by omega) (fun A1 c1 => ?_))
       conv => whnf
       refine ⟨SubM.sub (List.nil_sublist _), ?_⟩
       conv => whnf
       refine ⟨?_, trivial⟩
       ·refine rn_appP tab_ok rfl rfl rfl rfl rfl rfl (by (repeat constructor); first | done | fail) rfl (news_blk (by (repeat constructor); first | done | fail)) rfl (by omega) (by omega) (fun g1 c1 hc1 => ?_)
        conv => whnf
        refine ⟨SubM.sub (List.nil_sublist _), ?_⟩
        conv => whnf
        refine ⟨⟨by omega, by omega, by omega, .inr (Pl.mk _ _)⟩, ?_⟩
        conv => whnf
        (repeat ((first | refine stp (by (repeat constructor); first | done | fail) ?_ | refine stn (by (repeat constructor); first | done | fail) ?_ | refine sto (by (repeat constructor); first | done | fail) (by first | omega | (simp only; omega)) ?_ | refine .mk fun Ap capp => ?_ | refine ⟨?_, trivial⟩ | intro _); conv => whnf))
        refine ⟨(g1, c1), by simp only; omega, ⟨rfl, rfl, trivial⟩, ?_⟩
        simp only [Nat.zero_add, List.nil_append, hcut8]
        exact SubM.sel (by (repeat constructor); first | done | fail)
   ·intro z4
    conv => whnf
    refine ⟨SubM.sub (List.nil_sublist _), ?_⟩
    conv => whnf
    refine ⟨?_, ?_, trivial⟩
    ·intro z0
     conv => whnf
     refine ⟨SubM.sub (List.nil_sublist _), ?_⟩
     conv => whnf
     refine ⟨?_, trivial⟩
     ·refine rn_load (ld1 tab_ok (by (repeat constructor); first | done | fail) rfl rfl rfl) ?_
      conv => whnf
      refine ⟨SubM.sub (List.nil_sublist _), ?_⟩
      conv => whnf
      refine ⟨?_, trivial⟩
      ·refine rn_subm (SubM.torow (xs := []) (n := 0) (b := z0) (by (repeat constructor); first | done | fail) rfl rfl) (rn_appN (k := .u8) (numsOf a.bytes) hnl tab_ok rfl rfl rfl rfl rfl rfl .here (fun w hm => hBy _ w hm) (by omega) (fun A1 c1 => ?_))
       conv => whnf
       refine ⟨SubM.sub (List.nil_sublist _), ?_⟩
       conv => whnf
       refine ⟨?_, trivial⟩
       ·refine rn_appP tab_ok rfl rfl rfl rfl rfl rfl (by (repeat constructor); first | done | fail) rfl (news_blk (by (repeat constructor); first | done | fail)) rfl (by omega) (by omega) (fun g1 c1 hc1 => ?_)
        conv => whnf
        refine ⟨SubM.sub (List.nil_sublist _), ?_⟩
        conv => whnf
        refine ⟨⟨by omega, by omega, by omega, .inr (Pl.mk _ _)⟩, ?_⟩
        conv => whnf
        (repeat ((first | refine stp (by (repeat constructor); first | done | fail) ?_ | refine stn (by (repeat constructor); first | done | fail) ?_ | refine sto (by (repeat constructor); first | done | fail) (by first | omega | (simp only; omega)) ?_ | refine .mk fun Ap capp => ?_ | refine ⟨?_, trivial⟩ | intro _); conv => whnf))
        refine ⟨(g1, c1), by simp only; omega, ⟨rfl, rfl, trivial⟩, ?_⟩
        simp only [Nat.zero_add, List.nil_append, hcut8]
        exact SubM.sel (by (repeat constructor); first | done | fail)
    ·refine rn_load (ld1 tab_ok (by (repeat constructor); first | done | fail) rfl rfl rfl) ?_
     conv => whnf
     refine ⟨SubM.sub (List.nil_sublist _), ?_⟩
     conv => whnf
     refine ⟨?_, trivial⟩
     ·intro z0
      conv => whnf
      refine ⟨SubM.sub (List.nil_sublist _), ?_⟩
      conv => whnf
      refine ⟨?_, trivial⟩
      ·refine rn_subm (SubM.torow (xs := []) (n := 0) (b := z0) (by (repeat constructor); first | done | fail) rfl rfl) (rn_appN (k := .u8) (numsOf a.bytes) hnl tab_ok rfl rfl rfl rfl rfl rfl .here (fun w hm => hBy _ w hm) (by omega) (fun A1 c1 => ?_))
       conv => whnf
       refine ⟨SubM.sub (List.nil_sublist _), ?_⟩
       conv => whnf
       refine ⟨?_, trivial⟩
       ·refine rn_appP tab_ok rfl rfl rfl rfl rfl rfl (by (repeat constructor); first | done | fail) rfl (news_blk (by (repeat constructor); first | done | fail)) rfl (by omega) (by omega) (fun g1 c1 hc1 => ?_)
        conv => whnf
        refine ⟨SubM.sub (List.nil_sublist _), ?_⟩
        conv => whnf
        refine ⟨⟨by omega, by omega, by omega, .inr (Pl.mk _ _)⟩, ?_⟩
        conv => whnf
        (repeat ((first | refine stp (by (repeat constructor); first | done | fail) ?_ | refine stn (by (repeat constructor); first | done | fail) ?_ | refine sto (by (repeat constructor); first | done | fail) (by first | omega | (simp only; omega)) ?_ | refine .mk fun Ap capp => ?_ | refine ⟨?_, trivial⟩ | intro _); conv => whnf))
        refine ⟨(g1, c1), by simp only; omega, ⟨rfl, rfl, trivial⟩, ?_⟩
        simp only [Nat.zero_add, List.nil_append, hcut8]
        exact SubM.sel (by (repeat constructor); first | done | fail)
 ·rintro ⟨g1, c1⟩ hc1
  simp only at hc1
  conv => whnf
  refine dr_any (γ := Nat × Nat) (Tr.hs [1, 6] (.alts 0 (.alts 2 (.alts 3 (.alts 4 (.alts 5 (.alts 7 (Tr.hs [8] (Tr.hs [9, 10] (Tr.sq [11] .done))) .stop) (.alts 7 (Tr.hs [8] (.alts 5 (Tr.hs [9, 10] (Tr.sq [11] .done)) .stop)) .stop)) (.alts 7 (Tr.hs [8] (.alts 4 (.alts 5 (Tr.hs [9, 10] (Tr.sq [11] .done)) .stop) .stop)) .stop)) (.alts 4 (.alts 3 (.alts 5 (.alts 7 (Tr.hs [8] (Tr.hs [9, 10] (Tr.sq [11] .done))) .stop) (.alts 7 (Tr.hs [8] (.alts 5 (Tr.hs [9, 10] (Tr.sq [11] .done)) .stop)) .stop)) (.alts 7 (Tr.hs [8] (.alts 3 (.alts 5 (Tr.hs [9, 10] (Tr.sq [11] .done)) .stop) .stop)) .stop)) (.alts 7 (Tr.hs [8] (.alts 3 (.alts 4 (.alts 5 (Tr.hs [9, 10] (Tr.sq [11] .done)) .stop) .stop) (.alts 4 (.alts 3 (.alts 5 (Tr.hs [9, 10] (Tr.sq [11] .done)) .stop) .stop) .stop))) .stop))) (.alts 4 (.alts 2 (.alts 3 (.alts 5 (.alts 7 (Tr.hs [8] (Tr.hs [9, 10] (Tr.sq [11] .done))) .stop) (.alts 7 (Tr.hs [8] (.alts 5 (Tr.hs [9, 10] (Tr.sq [11] .done)) .stop)) .stop)) (.alts 7 (Tr.hs [8] (.alts 3 (.alts 5 (Tr.hs [9, 10] (Tr.sq [11] .done)) .stop) .stop)) .stop)) (.alts 7 (Tr.hs [8] (.alts 2 (.alts 3 (.alts 5 (Tr.hs [9, 10] (Tr.sq [11] .done)) .stop) .stop) .stop)) .stop)) (.alts 7 (Tr.hs [8] (.alts 2 (.alts 3 (.alts 4 (.alts 5 (Tr.hs [9, 10] (Tr.sq [11] .done)) .stop) .stop) (.alts 4 (.alts 3 (.alts 5 (Tr.hs [9, 10] (Tr.sq [11] .done)) .stop) .stop) .stop)) (.alts 4 (.alts 2 (.alts 3 (.alts 5 (Tr.hs [9, 10] (Tr.sq [11] .done)) .stop) .stop) .stop) .stop))) .stop))) (.alts 2 (.alts 0 (.alts 3 (.alts 4 (.alts 5 (.alts 7 (Tr.hs [8] (Tr.hs [9, 10] (Tr.sq [11] .done))) .stop) (.alts 7 (Tr.hs [8] (.alts 5 (Tr.hs [9, 10] (Tr.sq [11] .done)) .stop)) .stop)) (.alts 7 (Tr.hs [8] (.alts 4 (.alts 5 (Tr.hs [9, 10] (Tr.sq [11] .done)) .stop) .stop)) .stop)) (.alts 4 (.alts 3 (.alts 5 (.alts 7 (Tr.hs [8] (Tr.hs [9, 10] (Tr.sq [11] .done))) .stop) (.alts 7 (Tr.hs [8] (.alts 5 (Tr.hs [9, 10] (Tr.sq [11] .done)) .stop)) .stop)) (.alts 7 (Tr.hs [8] (.alts 3 (.alts 5 (Tr.hs [9, 10] (Tr.sq [11] .done)) .stop) .stop)) .stop)) (.alts 7 (Tr.hs [8] (.alts 3 (.alts 4 (.alts 5 (Tr.hs [9, 10] (Tr.sq [11] .done)) .stop) .stop) (.alts 4 (.alts 3 (.alts 5 (Tr.hs [9, 10] (Tr.sq [11] .done)) .stop) .stop) .stop))) .stop))) (.alts 4 (.alts 0 (.alts 3 (.alts 5 (.alts 7 (Tr.hs [8] (Tr.hs [9, 10] (Tr.sq [11] .done))) .stop) (.alts 7 (Tr.hs [8] (.alts 5 (Tr.hs [9, 10] (Tr.sq [11] .done)) .stop)) .stop)) (.alts 7 (Tr.hs [8] (.alts 3 (.alts 5 (Tr.hs [9, 10] (Tr.sq [11] .done)) .stop) .stop)) .stop)) (.alts 7 (Tr.hs [8] (.alts 0 (.alts 3 (.alts 5 (Tr.hs [9, 10] (Tr.sq [11] .done)) .stop) .stop) .stop)) .stop)) (.alts 7 (Tr.hs [8] (.alts 0 (.alts 3 (.alts 4 (.alts 5 (Tr.hs [9, 10] (Tr.sq [11] .done)) .stop) .stop) (.alts 4 (.alts 3 (.alts 5 (Tr.hs [9, 10] (Tr.sq [11] .done)) .stop) .stop) .stop)) (.alts 4 (.alts 0 (.alts 3 (.alts 5 (Tr.hs [9, 10] (Tr.sq [11] .done)) .stop) .stop) .stop) .stop))) .stop))) (.alts 4 (.alts 0 (.alts 2 (.alts 3 (.alts 5 (.alts 7 (Tr.hs [8] (Tr.hs [9, 10] (Tr.sq [11] .done))) .stop) (.alts 7 (Tr.hs [8] (.alts 5 (Tr.hs [9, 10] (Tr.sq [11] .done)) .stop)) .stop)) (.alts 7 (Tr.hs [8] (.alts 3 (.alts 5 (Tr.hs [9, 10] (Tr.sq [11] .done)) .stop) .stop)) .stop)) (.alts 7 (Tr.hs [8] (.alts 2 (.alts 3 (.alts 5 (Tr.hs [9, 10] (Tr.sq [11] .done)) .stop) .stop) .stop)) .stop)) (.alts 2 (.alts 0 (.alts 3 (.alts 5 (.alts 7 (Tr.hs [8] (Tr.hs [9, 10] (Tr.sq [11] .done))) .stop) (.alts 7 (Tr.hs [8] (.alts 5 (Tr.hs [9, 10] (Tr.sq [11] .done)) .stop)) .stop)) (.alts 7 (Tr.hs [8] (.alts 3 (.alts 5 (Tr.hs [9, 10] (Tr.sq [11] .done)) .stop) .stop)) .stop)) (.alts 7 (Tr.hs [8] (.alts 0 (.alts 3 (.alts 5 (Tr.hs [9, 10] (Tr.sq [11] .done)) .stop) .stop) .stop)) .stop)) (.alts 7 (Tr.hs [8] (.alts 0 (.alts 2 (.alts 3 (.alts 5 (Tr.hs [9, 10] (Tr.sq [11] .done)) .stop) .stop) .stop) (.alts 2 (.alts 0 (.alts 3 (.alts 5 (Tr.hs [9, 10] (Tr.sq [11] .done)) .stop) .stop) .stop) .stop))) .stop))) (.alts 7 (Tr.hs [8] (.alts 0 (.alts 2 (.alts 3 (.alts 4 (.alts 5 (Tr.hs [9, 10] (Tr.sq [11] .done)) .stop) .stop) (.alts 4 (.alts 3 (.alts 5 (Tr.hs [9, 10] (Tr.sq [11] .done)) .stop) .stop) .stop)) (.alts 4 (.alts 2 (.alts 3 (.alts 5 (Tr.hs [9, 10] (Tr.sq [11] .done)) .stop) .stop) .stop) .stop)) (.alts 2 (.alts 0 (.alts 3 (.alts 4 (.alts 5 (Tr.hs [9, 10] (Tr.sq [11] .done)) .stop) .stop) (.alts 4 (.alts 3 (.alts 5 (Tr.hs [9, 10] (Tr.sq [11] .done)) .stop) .stop) .stop)) (.alts 4 (.alts 0 (.alts 3 (.alts 5 (Tr.hs [9, 10] (Tr.sq [11] .done)) .stop) .stop) .stop) .stop)) (.alts 4 (.alts 0 (.alts 2 (.alts 3 (.alts 5 (Tr.hs [9, 10] (Tr.sq [11] .done)) .stop) .stop) .stop) (.alts 2 (.alts 0 (.alts 3 (.alts 5 (Tr.hs [9, 10] (Tr.sq [11] .done)) .stop) .stop) .stop) .stop)) .stop)))) .stop))))) [] tab_ok mixed (by kernel_rfl) rfl (fun g => a.picks.length + 1 ≤ g.2) (fun _ => [(1, .pointer (some ⟨b1, 0, none⟩)), (2, .pointer (some ⟨b2, 0, none⟩))]) (fun g => [.blk b1 (.cells (actL a (some ⟨g1, 0, none⟩) c1 (some ⟨g.1, 0, none⟩) g.2).toArray 29), CopB g1 c1 a.bytes, CopP g.1 g.2 a.picks, .blk b2 (.cells (actL (nilAct 0) none 0 none 0).toArray 29)]) (SubM.sub (List.nil_sublist _)) ?_ ?_
  ·conv => whnf
   (repeat ((first | refine stp (by (repeat constructor); first | done | fail) ?_ | refine stn (by (repeat constructor); first | done | fail) ?_ | refine sto (by (repeat constructor); first | done | fail) (by first | omega | (simp only; omega)) ?_ | refine .mk fun Ap capp => ?_ | refine ⟨?_, trivial⟩ | intro _); conv => whnf))
   refine ⟨?_, ?_, ?_, ?_, trivial⟩
   ·intro z0
    conv => whnf
    refine ⟨SubM.sub (List.nil_sublist _), ?_⟩
    conv => whnf
    refine ⟨?_, ?_, ?_, trivial⟩
    ·refine rn_load (ld1 tab_ok (by (repeat constructor); first | done | fail) rfl rfl rfl) ?_
     conv => whnf
     refine ⟨SubM.sub (List.nil_sublist _), ?_⟩
     conv => whnf
     refine ⟨?_, ?_, ?_, trivial⟩
     ·refine rn_subm (SubM.torow (xs := []) (n := 0) (b := z0) (by (repeat constructor); first | done | fail) rfl rfl) (rn_appN (k := .i64) a.picks rfl tab_ok rfl rfl rfl rfl rfl rfl .here (fun w hm => hPk _ w hm) (by omega) (fun A2 c2 => ?_))
      conv => whnf
      refine ⟨SubM.sub (List.nil_sublist _), ?_⟩
      conv => whnf
      refine ⟨?_, ?_, trivial⟩
      ·intro z4
       conv => whnf
       refine ⟨SubM.sub (List.nil_sublist _), ?_⟩
       conv => whnf
       refine ⟨?_, ?_, trivial⟩
       ·refine rn_appP tab_ok rfl rfl rfl rfl rfl rfl (by (repeat constructor); first | done | fail) rfl (news_blk (by (repeat constructor); first | done | fail)) rfl (by omega) (by omega) (fun g2 c2 hc2 => ?_)
        conv => whnf
        refine ⟨SubM.sub (List.nil_sublist _), ?_⟩
        conv => whnf
        refine ⟨?_, trivial⟩
        ·refine rn_load (ld1 tab_ok (by (repeat constructor); first | done | fail) rfl rfl rfl) ?_
         conv => whnf
         refine ⟨SubM.sub (List.nil_sublist _), ?_⟩
         conv => whnf
         refine ⟨⟨by omega, by omega, by omega, .inr (Pl.mk _ _)⟩, ?_⟩
         conv => whnf
         (repeat ((first | refine stp (by (repeat constructor); first | done | fail) ?_ | refine stn (by (repeat constructor); first | done | fail) ?_ | refine sto (by (repeat constructor); first | done | fail) (by first | omega | (simp only; omega)) ?_ | refine .mk fun Ap capp => ?_ | refine ⟨?_, trivial⟩ | intro _); conv => whnf))
         refine ⟨(g2, c2), by simp only; omega, ⟨rfl, rfl, trivial⟩, ?_⟩
         simp only [Nat.zero_add, List.nil_append, hcutI]
         exact SubM.sel (by (repeat constructor); first | done | fail)
       ·refine rn_load (ld1 tab_ok (by (repeat constructor); first | done | fail) rfl rfl rfl) ?_
        conv => whnf
        refine ⟨SubM.sub (List.nil_sublist _), ?_⟩
        conv => whnf
        refine ⟨?_, trivial⟩
        ·refine rn_appP tab_ok rfl rfl rfl rfl rfl rfl (by (repeat constructor); first | done | fail) rfl (news_blk (by (repeat constructor); first | done | fail)) rfl (by omega) (by omega) (fun g2 c2 hc2 => ?_)
         conv => whnf
         refine ⟨SubM.sub (List.nil_sublist _), ?_⟩
         conv => whnf
         refine ⟨⟨by omega, by omega, by omega, .inr (Pl.mk _ _)⟩, ?_⟩
         conv => whnf
         (repeat ((first | refine stp (by (repeat constructor); first | done | fail) ?_ | refine stn (by (repeat constructor); first | done | fail) ?_ | refine sto (by (repeat constructor); first | done | fail) (by first | omega | (simp only; omega)) ?_ | refine .mk fun Ap capp => ?_ | refine ⟨?_, trivial⟩ | intro _); conv => whnf))
         refine ⟨(g2, c2), by simp only; omega, ⟨rfl, rfl, trivial⟩, ?_⟩
         simp only [Nat.zero_add, List.nil_append, hcutI]
         exact SubM.sel (by (repeat constructor); first | done | fail)
      ·refine rn_load (ld1 tab_ok (by (repeat constructor); first | done | fail) rfl rfl rfl) ?_
       conv => whnf
       refine ⟨SubM.sub (List.nil_sublist _), ?_⟩
       conv => whnf
       refine ⟨?_, trivial⟩
       ·intro z4
        conv => whnf
        refine ⟨SubM.sub (List.nil_sublist _), ?_⟩
        conv => whnf
        refine ⟨?_, trivial⟩
        ·refine rn_appP tab_ok rfl rfl rfl rfl rfl rfl (by (repeat constructor); first | done | fail) rfl (news_blk (by (repeat constructor); first | done | fail)) rfl (by omega) (by omega) (fun g2 c2 hc2 => ?_)
         conv => whnf
         refine ⟨SubM.sub (List.nil_sublist _), ?_⟩
         conv => whnf
         refine ⟨⟨by omega, by omega, by omega, .inr (Pl.mk _ _)⟩, ?_⟩
         conv => whnf
         (repeat ((first | refine stp (by (repeat constructor); first | done | fail) ?_ | refine stn (by (repeat constructor); first | done | fail) ?_ | refine sto (by (repeat constructor); first | done | fail) (by first | omega | (simp only; omega)) ?_ | refine .mk fun Ap capp => ?_ | refine ⟨?_, trivial⟩ | intro _); conv => whnf))
         refine ⟨(g2, c2), by simp only; omega, ⟨rfl, rfl, trivial⟩, ?_⟩
         simp only [Nat.zero_add, List.nil_append, hcutI]
         exact SubM.sel (by (repeat constructor); first | done | fail)
     ·intro z4
      conv => whnf
      refine ⟨SubM.sub (List.nil_sublist _), ?_⟩
      conv => whnf
      refine ⟨?_, ?_, trivial⟩
      ·refine rn_subm (SubM.torow (xs := []) (n := 0) (b := z0) (by (repeat constructor); first | done | fail) rfl rfl) (rn_appN (k := .i64) a.picks rfl tab_ok rfl rfl rfl rfl rfl rfl .here (fun w hm => hPk _ w hm) (by omega) (fun A2 c2 => ?_))
       conv => whnf
       refine ⟨SubM.sub (List.nil_sublist _), ?_⟩
       conv => whnf
       refine ⟨?_, ?_, trivial⟩
       ·refine rn_appP tab_ok rfl rfl rfl rfl rfl rfl (by (repeat constructor); first | done | fail) rfl (news_blk (by (repeat constructor); first | done | fail)) rfl (by omega) (by omega) (fun g2 c2 hc2 => ?_)
        conv => whnf
        refine ⟨SubM.sub (List.nil_sublist _), ?_⟩
        conv => whnf
        refine ⟨?_, trivial⟩
        ·refine rn_load (ld1 tab_ok (by (repeat constructor); first | done | fail) rfl rfl rfl) ?_
         conv => whnf
         refine ⟨SubM.sub (List.nil_sublist _), ?_⟩
         conv => whnf
         refine ⟨⟨by omega, by omega, by omega, .inr (Pl.mk _ _)⟩, ?_⟩
         conv => whnf
         (repeat ((first | refine stp (by (repeat constructor); first | done | fail) ?_ | refine stn (by (repeat constructor); first | done | fail) ?_ | refine sto (by (repeat constructor); first | done | fail) (by first | omega | (simp only; omega)) ?_ | refine .mk fun Ap capp => ?_ | refine ⟨?_, trivial⟩ | intro _); conv => whnf))
         refine ⟨(g2, c2), by simp only; omega, ⟨rfl, rfl, trivial⟩, ?_⟩
         simp only [Nat.zero_add, List.nil_append, hcutI]
         exact SubM.sel (by (repeat constructor); first | done | fail)
       ·refine rn_load (ld1 tab_ok (by (repeat constructor); first | done | fail) rfl rfl rfl) ?_
        conv => whnf
        refine ⟨SubM.sub (List.nil_sublist _), ?_⟩
        conv => whnf
        refine ⟨?_, trivial⟩
        ·refine rn_appP tab_ok rfl rfl rfl rfl rfl rfl (by (repeat constructor); first | done | fail) rfl (news_blk (by (repeat constructor); first | done | fail)) rfl (by omega) (by omega) (fun g2 c2 hc2 => ?_)
         conv => whnf
         refine ⟨SubM.sub (List.nil_sublist _), ?_⟩
         conv => whnf
         refine ⟨⟨by omega, by omega, by omega, .inr (Pl.mk _ _)⟩, ?_⟩
         conv => whnf
         (repeat ((first | refine stp (by (repeat constructor); first | done | fail) ?_ | refine stn (by (repeat constructor); first | done | fail) ?_ | refine sto (by (repeat constructor); first | done | fail) (by first | omega | (simp only; omega)) ?_ | refine .mk fun Ap capp => ?_ | refine ⟨?_, trivial⟩ | intro _); conv => whnf))
         refine ⟨(g2, c2), by simp only; omega, ⟨rfl, rfl, trivial⟩, ?_⟩
         simp only [Nat.zero_add, List.nil_append, hcutI]
         exact SubM.sel (by (repeat constructor); first | done | fail)
      ·refine rn_load (ld1 tab_ok (by (repeat constructor); first | done | fail) rfl rfl rfl) ?_
       conv => whnf
       refine ⟨SubM.sub (List.nil_sublist _), ?_⟩
       conv => whnf
       refine ⟨?_, trivial⟩
       ·refine rn_subm (SubM.torow (xs := []) (n := 0) (b := z0) (by (repeat constructor); first | done | fail) rfl rfl) (rn_appN (k := .i64) a.picks rfl tab_ok rfl rfl rfl rfl rfl rfl .here (fun w hm => hPk _ w hm) (by omega) (fun A2 c2 => ?_))
        conv => whnf
        refine ⟨SubM.sub (List.nil_sublist _), ?_⟩
        conv => whnf
        refine ⟨?_, trivial⟩
        ·refine rn_appP tab_ok rfl rfl rfl rfl rfl rfl (by (repeat constructor); first | done | fail) rfl (news_blk (by (repeat constructor); first | done | fail)) rfl (by omega) (by omega) (fun g2 c2 hc2 => ?_)
         conv => whnf
         refine ⟨SubM.sub (List.nil_sublist _), ?_⟩
         conv => whnf
         refine ⟨⟨by omega, by omega, by omega, .inr (Pl.mk _ _)⟩, ?_⟩
         conv => whnf
         (repeat ((first | refine stp (by (repeat constructor); first | done | fail) ?_ | refine stn (by (repeat constructor); first | done | fail) ?_ | refine sto (by (repeat constructor); first | done | fail) (by first | omega | (simp only; omega)) ?_ | refine .mk fun Ap capp => ?_ | refine ⟨?_, trivial⟩ | intro _); conv => whnf))
         refine ⟨(g2, c2), by simp only; omega, ⟨rfl, rfl, trivial⟩, ?_⟩
         simp only [Nat.zero_add, List.nil_append, hcutI]
         exact SubM.sel (by (repeat constructor); first | done | fail)
     ·refine rn_load (ld1 tab_ok (by (repeat constructor); first | done | fail) rfl rfl rfl) ?_
      conv => whnf
      refine ⟨SubM.sub (List.nil_sublist _), ?_⟩
      conv => whnf
      refine ⟨?_, ?_, trivial⟩
      ·refine rn_subm (SubM.torow (xs := []) (n := 0) (b := z0) (by (repeat constructor); first | done | fail) rfl rfl) (rn_appN (k := .i64) a.picks rfl tab_ok rfl rfl rfl rfl rfl rfl .here (fun w hm => hPk _ w hm) (by omega) (fun A2 c2 => ?_))
       conv => whnf
       refine ⟨SubM.sub (List.nil_sublist _), ?_⟩
       conv => whnf
       refine ⟨?_, trivial⟩
       ·intro z4
        conv => whnf
        refine ⟨SubM.sub (List.nil_sublist _), ?_⟩
        conv => whnf
        refine ⟨?_, trivial⟩
        ·refine rn_appP tab_ok rfl rfl rfl rfl rfl rfl (by (repeat constructor); first | done | fail) rfl (news_blk (by (repeat constructor); first | done | fail)) rfl (by omega) (by omega) (fun g2 c2 hc2 => ?_)
         conv => whnf
         refine ⟨SubM.sub (List.nil_sublist _), ?_⟩
         conv => whnf
         refine ⟨⟨by omega, by omega, by omega, .inr (Pl.mk _ _)⟩, ?_⟩
         conv => whnf
         (repeat ((first | refine stp (by (repeat constructor); first | done | fail) ?_ | refine stn (by (repeat constructor); first | done | fail) ?_ | refine sto (by (repeat constructor); first | done | fail) (by first | omega | (simp only; omega)) ?_ | refine .mk fun Ap capp => ?_ | refine ⟨?_, trivial⟩ | intro _); conv => whnf))
         refine ⟨(g2, c2), by simp only; omega, ⟨rfl, rfl, trivial⟩, ?_⟩
         simp only [Nat.zero_add, List.nil_append, hcutI]
         exact SubM.sel (by (repeat constructor); first | done | fail)
      ·intro z4
       conv => whnf
       refine ⟨SubM.sub (List.nil_sublist _), ?_⟩
       conv => whnf
       refine ⟨?_, trivial⟩
       ·refine rn_subm (SubM.torow (xs := []) (n := 0) (b := z0) (by (repeat constructor); first | done | fail) rfl rfl) (rn_appN (k := .i64) a.picks rfl tab_ok rfl rfl rfl rfl rfl rfl .here (fun w hm => hPk _ w hm) (by omega) (fun A2 c2 => ?_))
        conv => whnf
        refine ⟨SubM.sub (List.nil_sublist _), ?_⟩
        conv => whnf
        refine ⟨?_, trivial⟩
        ·refine rn_appP tab_ok rfl rfl rfl rfl rfl rfl (by (repeat constructor); first | done | fail) rfl (news_blk (by (repeat constructor); first | done | fail)) rfl (by omega) (by omega) (fun g2 c2 hc2 => ?_)
         conv => whnf
         refine ⟨SubM.sub (List.nil_sublist _), ?_⟩
         conv => whnf
         refine ⟨⟨by omega, by omega, by omega, .inr (Pl.mk _ _)⟩, ?_⟩
         conv => whnf
         (repeat ((first | refine stp (by (repeat constructor); first | done | fail) ?_ | refine stn (by (repeat constructor); first | done | fail) ?_ | refine sto (by (repeat constructor); first | done | fail) (by first | omega | (simp only; omega)) ?_ | refine .mk fun Ap capp => ?_ | refine ⟨?_, trivial⟩ | intro _); conv => whnf))
         refine ⟨(g2, c2), by simp only; omega, ⟨rfl, rfl, trivial⟩, ?_⟩
         simp only [Nat.zero_add, List.nil_append, hcutI]
         exact SubM.sel (by (repeat constructor); first | done | fail)
    ·intro z4
     conv => whnf
     refine ⟨SubM.sub (List.nil_sublist _), ?_⟩
     conv => whnf
     refine ⟨?_, ?_, trivial⟩
     ·refine rn_load (ld1 tab_ok (by (repeat constructor); first | done | fail) rfl rfl rfl) ?_
      conv => whnf
      refine ⟨SubM.sub (List.nil_sublist _), ?_⟩
      conv => whnf
      refine ⟨?_, ?_, trivial⟩
      ·refine rn_subm (SubM.torow (xs := []) (n := 0) (b := z0) (by (repeat constructor); first | done | fail) rfl rfl) (rn_appN (k := .i64) a.picks rfl tab_ok rfl rfl rfl rfl rfl rfl .here (fun w hm => hPk _ w hm) (by omega) (fun A2 c2 => ?_))
       conv => whnf
       refine ⟨SubM.sub (List.nil_sublist _), ?_⟩
       conv => whnf
       refine ⟨?_, ?_, trivial⟩
       ·refine rn_appP tab_ok rfl rfl rfl rfl rfl rfl (by (repeat constructor); first | done | fail) rfl (news_blk (by (repeat constructor); first | done | fail)) rfl (by omega) (by omega) (fun g2 c2 hc2 => ?_)
        conv => whnf
        refine ⟨SubM.sub (List.nil_sublist _), ?_⟩
        conv => whnf
        refine ⟨?_, trivial⟩
        ·refine rn_load (ld1 tab_ok (by (repeat constructor); first | done | fail) rfl rfl rfl) ?_
         conv => whnf
         refine ⟨SubM.sub (List.nil_sublist _), ?_⟩
         conv => whnf
         refine ⟨⟨by omega, by omega, by omega, .inr (Pl.mk _ _)⟩, ?_⟩
         conv => whnf
         (repeat ((first | refine stp (by (repeat constructor); first | done | fail) ?_ | refine stn (by (repeat constructor); first | done | fail) ?_ | refine sto (by (repeat constructor); first | done | fail) (by first | omega | (simp only; omega)) ?_ | refine .mk fun Ap capp => ?_ | refine ⟨?_, trivial⟩ | intro _); conv => whnf))
         refine ⟨(g2, c2), by simp only; omega, ⟨rfl, rfl, trivial⟩, ?_⟩
         simp only [Nat.zero_add, List.nil_append, hcutI]
         exact SubM.sel (by (repeat constructor); first | done | fail)
       ·refine rn_load (ld1 tab_ok (by (repeat constructor); first | done | fail) rfl rfl rfl) ?_
        conv => whnf
        refine ⟨SubM.sub (List.nil_sublist _), ?_⟩
        conv => whnf
        refine ⟨?_, trivial⟩
        ·refine rn_appP tab_ok rfl rfl rfl rfl rfl rfl (by (repeat constructor); first | done | fail) rfl (news_blk (by (repeat constructor); first | done | fail)) rfl (by omega) (by omega) (fun g2 c2 hc2 => ?_)
         conv => whnf
         refine ⟨SubM.sub (List.nil_sublist _), ?_⟩
         conv => whnf
         refine ⟨⟨by omega, by omega, by omega, .inr (Pl.mk _ _)⟩, ?_⟩
         conv => whnf
         (repeat ((first | refine stp (by (repeat constructor); first | done | fail) ?_ | refine stn (by (repeat constructor); first | done | fail) ?_ | refine sto (by (repeat constructor); first | done | fail) (by first | omega | (simp only; omega)) ?_ | refine .mk fun Ap capp => ?_ | refine ⟨?_, trivial⟩ | intro _); conv => whnf))
         refine ⟨(g2, c2), by simp only; omega, ⟨rfl, rfl, trivial⟩, ?_⟩
         simp only [Nat.zero_add, List.nil_append, hcutI]
         exact SubM.sel (by (repeat constructor); first | done | fail)
      ·refine rn_load (ld1 tab_ok (by (repeat constructor); first | done | fail) rfl rfl rfl) ?_
       conv => whnf
       refine ⟨SubM.sub (List.nil_sublist _), ?_⟩
       conv => whnf
       refine ⟨?_, trivial⟩
       ·refine rn_subm (SubM.torow (xs := []) (n := 0) (b := z0) (by (repeat constructor); first | done | fail) rfl rfl) (rn_appN (k := .i64) a.picks rfl tab_ok rfl rfl rfl rfl rfl rfl .here (fun w hm => hPk _ w hm) (by omega) (fun A2 c2 => ?_))
        conv => whnf
        refine ⟨SubM.sub (List.nil_sublist _), ?_⟩
        conv => whnf
        refine ⟨?_, trivial⟩
        ·refine rn_appP tab_ok rfl rfl rfl rfl rfl rfl (by (repeat constructor); first | done | fail) rfl (news_blk (by (repeat constructor); first | done | fail)) rfl (by omega) (by omega) (fun g2 c2 hc2 => ?_)
         conv => whnf
         refine ⟨SubM.sub (List.nil_sublist _), ?_⟩
         conv => whnf
         refine ⟨⟨by omega, by omega, by omega, .inr (Pl.mk _ _)⟩, ?_⟩
         conv => whnf
         (repeat ((first | refine stp (by (repeat constructor); first | done | fail) ?_ | refine stn (by (repeat constructor); first | done | fail) ?_ | refine sto (by (repeat constructor); first | done | fail) (by first | omega | (simp only; omega)) ?_ | refine .mk fun Ap capp => ?_ | refine ⟨?_, trivial⟩ | intro _); conv => whnf))
         refine ⟨(g2, c2), by simp only; omega, ⟨rfl, rfl, trivial⟩, ?_⟩
         simp only [Nat.zero_add, List.nil_append, hcutI]
         exact SubM.sel (by (repeat constructor); first | done | fail)
     ·refine rn_load (ld1 tab_ok (by (repeat constructor); first | done | fail) rfl rfl rfl) ?_
      conv => whnf
      refine ⟨SubM.sub (List.nil_sublist _), ?_⟩
      conv => whnf
      refine ⟨?_, trivial⟩
      ·refine rn_load (ld1 tab_ok (by (repeat constructor); first | done | fail) rfl rfl rfl) ?_
       conv => whnf
       refine ⟨SubM.sub (List.nil_sublist _), ?_⟩
       conv => whnf
       refine ⟨?_, trivial⟩
       ·refine rn_subm (SubM.torow (xs := []) (n := 0) (b := z0) (by (repeat constructor); first | done | fail) rfl rfl) (rn_appN (k := .i64) a.picks rfl tab_ok rfl rfl rfl rfl rfl rfl .here (fun w hm => hPk _ w hm) (by omega) (fun A2 c2 => ?_))
        conv => whnf
        refine ⟨SubM.sub (List.nil_sublist _), ?_⟩
        conv => whnf
        refine ⟨?_, trivial⟩
        ·refine rn_appP tab_ok rfl rfl rfl rfl rfl rfl (by (repeat constructor); first | done | fail) rfl (news_blk (by (repeat constructor); first | done | fail)) rfl (by omega) (by omega) (fun g2 c2 hc2 => ?_)
         conv => whnf
         refine ⟨SubM.sub (List.nil_sublist _), ?_⟩
         conv => whnf
         refine ⟨⟨by omega, by omega, by omega, .inr (Pl.mk _ _)⟩, ?_⟩
         conv => whnf
         (repeat ((first | refine stp (by (repeat constructor); first | done | fail) ?_ | refine stn (by (repeat constructor); first | done | fail) ?_ | refine sto (by (repeat constructor); first | done | fail) (by first | omega | (simp only; omega)) ?_ | refine .mk fun Ap capp => ?_ | refine ⟨?_, trivial⟩ | intro _); conv => whnf))
         refine ⟨(g2, c2), by simp only; omega, ⟨rfl, rfl, trivial⟩, ?_⟩
         simp only [Nat.zero_add, List.nil_append, hcutI]
         exact SubM.sel (by (repeat constructor); first | done | fail)
    ·refine rn_load (ld1 tab_ok (by (repeat constructor); first | done | fail) rfl rfl rfl) ?_
     conv => whnf
     refine ⟨SubM.sub (List.nil_sublist _), ?_⟩
     conv => whnf
     refine ⟨?_, ?_, trivial⟩
     ·refine rn_load (ld1 tab_ok (by (repeat constructor); first | done | fail) rfl rfl rfl) ?_
      conv => whnf
      refine ⟨SubM.sub (List.nil_sublist _), ?_⟩
      conv => whnf
      refine ⟨?_, ?_, trivial⟩
      ·refine rn_subm (SubM.torow (xs := []) (n := 0) (b := z0) (by (repeat constructor); first | done | fail) rfl rfl) (rn_appN (k := .i64) a.picks rfl tab_ok rfl rfl rfl rfl rfl rfl .here (fun w hm => hPk _ w hm) (by omega) (fun A2 c2 => ?_))
       conv => whnf
       refine ⟨SubM.sub (List.nil_sublist _), ?_⟩
       conv => whnf
       refine ⟨?_, trivial⟩
       ·intro z4
        conv => whnf
        refine ⟨SubM.sub (List.nil_sublist _), ?_⟩
        conv => whnf
        refine ⟨?_, trivial⟩
        ·refine rn_appP tab_ok rfl rfl rfl rfl rfl rfl (by (repeat constructor); first | done | fail) rfl (news_blk (by (repeat constructor); first | done | fail)) rfl (by omega) (by omega) (fun g2 c2 hc2 => ?_)
         conv => whnf
         refine ⟨SubM.sub (List.nil_sublist _), ?_⟩
         conv => whnf
         refine ⟨⟨by omega, by omega, by omega, .inr (Pl.mk _ _)⟩, ?_⟩
         conv => whnf
         (repeat ((first | refine stp (by (repeat constructor); first | done | fail) ?_ | refine stn (by (repeat constructor); first | done | fail) ?_ | refine sto (by (repeat constructor); first | done | fail) (by first | omega | (simp only; omega)) ?_ | refine .mk fun Ap capp => ?_ | refine ⟨?_, trivial⟩ | intro _); conv => whnf))
         refine ⟨(g2, c2), by simp only; omega, ⟨rfl, rfl, trivial⟩, ?_⟩
         simp only [Nat.zero_add, List.nil_append, hcutI]
         exact SubM.sel (by (repeat constructor); first | done | fail)
      ·intro z4
       conv => whnf
       refine ⟨SubM.sub (List.nil_sublist _), ?_⟩
       conv => whnf
       refine ⟨?_, trivial⟩
       ·refine rn_subm (SubM.torow (xs := []) (n := 0) (b := z0) (by (repeat constructor); first | done | fail) rfl rfl) (rn_appN (k := .i64) a.picks rfl tab_ok rfl rfl rfl rfl rfl rfl .here (fun w hm => hPk _ w hm) (by omega) (fun A2 c2 => ?_))
        conv => whnf
        refine ⟨SubM.sub (List.nil_sublist _), ?_⟩
        conv => whnf
        refine ⟨?_, trivial⟩
        ·refine rn_appP tab_ok rfl rfl rfl rfl rfl rfl (by (repeat constructor); first | done | fail) rfl (news_blk (by (repeat constructor); first | done | fail)) rfl (by omega) (by omega) (fun g2 c2 hc2 => ?_)
         conv => whnf
         refine ⟨SubM.sub (List.nil_sublist _), ?_⟩
         conv => whnf
         refine ⟨⟨by omega, by omega, by omega, .inr (Pl.mk _ _)⟩, ?_⟩
         conv => whnf
         (repeat ((first | refine stp (by (repeat constructor); first | done | fail) ?_ | refine stn (by (repeat constructor); first | done | fail) ?_ | refine sto (by (repeat constructor); first | done | fail) (by first | omega | (simp only; omega)) ?_ | refine .mk fun Ap capp => ?_ | refine ⟨?_, trivial⟩ | intro _); conv => whnf))
         refine ⟨(g2, c2), by simp only; omega, ⟨rfl, rfl, trivial⟩, ?_⟩
         simp only [Nat.zero_add, List.nil_append, hcutI]
         exact SubM.sel (by (repeat constructor); first | done | fail)
     ·intro z4
      conv => whnf
      refine ⟨SubM.sub (List.nil_sublist _), ?_⟩
      conv => whnf
      refine ⟨?_, trivial⟩
      ·refine rn_load (ld1 tab_ok (by (repeat constructor); first | done | fail) rfl rfl rfl) ?_
       conv => whnf
       refine ⟨SubM.sub (List.nil_sublist _), ?_⟩
       conv => whnf
       refine ⟨?_, trivial⟩
       ·refine rn_subm (SubM.torow (xs := []) (n := 0) (b := z0) (by (repeat constructor); first | done | fail) rfl rfl) (rn_appN (k := .i64) a.picks rfl tab_ok rfl rfl rfl rfl rfl rfl .here (fun w hm => hPk _ w hm) (by omega) (fun A2 c2 => ?_))
        conv => whnf
        refine ⟨SubM.sub (List.nil_sublist _), ?_⟩
        conv => whnf
        refine ⟨?_, trivial⟩
        ·refine rn_appP tab_ok rfl rfl rfl rfl rfl rfl (by (repeat constructor); first | done | fail) rfl (news_blk (by (repeat constructor); first | done | fail)) rfl (by omega) (by omega) (fun g2 c2 hc2 => ?_)
         conv => whnf
         refine ⟨SubM.sub (List.nil_sublist _), ?_⟩
         conv => whnf
         refine ⟨⟨by omega, by omega, by omega, .inr (Pl.mk _ _)⟩, ?_⟩
         conv => whnf
         (repeat ((first | refine stp (by (repeat constructor); first | done | fail) ?_ | refine stn (by (repeat constructor); first | done | fail) ?_ | refine sto (by (repeat constructor); first | done | fail) (by first | omega | (simp only; omega)) ?_ | refine .mk fun Ap capp => ?_ | refine ⟨?_, trivial⟩ | intro _); conv => whnf))
         refine ⟨(g2, c2), by simp only; omega, ⟨rfl, rfl, trivial⟩, ?_⟩
         simp only [Nat.zero_add, List.nil_append, hcutI]
         exact SubM.sel (by (repeat constructor); first | done | fail)
   ·refine rn_load (ld1 tab_ok (by (repeat constructor); first | done | fail) rfl rfl rfl) ?_
    conv => whnf
    refine ⟨SubM.sub (List.nil_sublist _), ?_⟩
    conv => whnf
    refine ⟨?_, ?_, ?_, trivial⟩
    ·intro z0
     conv => whnf
     refine ⟨SubM.sub (List.nil_sublist _), ?_⟩
     conv => whnf
     refine ⟨?_, ?_, ?_, trivial⟩
     ·refine rn_subm (SubM.torow (xs := []) (n := 0) (b := z0) (by (repeat constructor); first | done | fail) rfl rfl) (rn_appN (k := .i64) a.picks rfl tab_ok rfl rfl rfl rfl rfl rfl .here (fun w hm => hPk _ w hm) (by omega) (fun A2 c2 => ?_))
      conv => whnf
      refine ⟨SubM.sub (List.nil_sublist _), ?_⟩
      conv => whnf
      refine ⟨?_, ?_, trivial⟩
      ·intro z4
       conv => whnf
       refine ⟨SubM.sub (List.nil_sublist _), ?_⟩
       conv => whnf
       refine ⟨?_, ?_, trivial⟩
       ·refine rn_appP tab_ok rfl rfl rfl rfl rfl rfl (by (repeat constructor); first | done | fail) rfl (news_blk (by (repeat constructor); first | done | fail)) rfl (by omega) (by omega) (fun g2 c2 hc2 => ?_)
        conv => whnf
        refine ⟨SubM.sub (List.nil_sublist _), ?_⟩
        conv => whnf
        refine ⟨?_, trivial⟩
        ·refine rn_load (ld1 tab_ok (by (repeat constructor); first | done | fail) rfl rfl rfl) ?_
         conv => whnf
         refine ⟨SubM.sub (List.nil_sublist _), ?_⟩
         conv => whnf
         refine ⟨⟨by omega, by omega, by omega, .inr (Pl.mk _ _)⟩, ?_⟩
         conv => whnf
         (repeat ((first | refine stp (by (repeat constructor); first | done | fail) ?_ | refine stn (by (repeat constructor); first | done | fail) ?_ | refine sto (by (repeat constructor); first | done | fail) (by first | omega | (simp only; omega)) ?_ | refine .mk fun Ap capp => ?_ | refine ⟨?_, trivial⟩ | intro _); conv => whnf))
         refine ⟨(g2, c2), by simp only; omega, ⟨rfl, rfl, trivial⟩, ?_⟩
         simp only [Nat.zero_add, List.nil_append, hcutI]
         exact SubM.sel (by (repeat constructor); first | done | fail)
       ·refine rn_load (ld1 tab_ok (by (repeat constructor); first | done | fail) rfl rfl rfl) ?_
        conv => whnf
        refine ⟨SubM.sub (List.nil_sublist _), ?_⟩
        conv => whnf
        refine ⟨?_, trivial⟩
        ·refine rn_appP tab_ok rfl rfl rfl rfl rfl rfl (by (repeat constructor); first | done | fail) rfl (news_blk (by (repeat constructor); first | done | fail)) rfl (by omega) (by omega) (fun g2 c2 hc2 => ?_)
         conv => whnf
         refine ⟨SubM.sub (List.nil_sublist _), ?_⟩
         conv => whnf
         refine ⟨⟨by omega, by omega, by omega, .inr (Pl.mk _ _)⟩, ?_⟩
         conv => whnf
         (repeat ((first | refine stp (by (repeat constructor); first | done | fail) ?_ | refine stn (by (repeat constructor); first | done | fail) ?_ | refine sto (by (repeat constructor); first | done | fail) (by first | omega | (simp only; omega)) ?_ | refine .mk fun Ap capp => ?_ | refine ⟨?_, trivial⟩ | intro _); conv => whnf))
         refine ⟨(g2, c2), by simp only; omega, ⟨rfl, rfl, trivial⟩, ?_⟩
         simp only [Nat.zero_add, List.nil_append, hcutI]
         exact SubM.sel (by (repeat constructor); first | done | fail)
      ·refine rn_load (ld1 tab_ok (by (repeat constructor); first | done | fail) rfl rfl rfl) ?_
       conv => whnf
       refine ⟨SubM.sub (List.nil_sublist _), ?_⟩
       conv => whnf
       refine ⟨?_, trivial⟩
       ·intro z4
        conv => whnf
        refine ⟨SubM.sub (List.nil_sublist _), ?_⟩
        conv => whnf
        refine ⟨?_, trivial⟩
        ·refine rn_appP tab_ok rfl rfl rfl rfl rfl rfl (by (repeat constructor); first | done | fail) rfl (news_blk (by (repeat constructor); first | done | fail)) rfl (by omega) (by omega) (fun g2 c2 hc2 => ?_)
         conv => whnf
         refine ⟨SubM.sub (List.nil_sublist _), ?_⟩
         conv => whnf
         refine ⟨⟨by omega, by omega, by omega, .inr (Pl.mk _ _)⟩, ?_⟩
         conv => whnf
         (repeat ((first | refine stp (by (repeat constructor); first | done | fail) ?_ | refine stn (by (repeat constructor); first | done | fail) ?_ | refine sto (by (repeat constructor); first | done | fail) (by first | omega | (simp only; omega)) ?_ | refine .mk fun Ap capp => ?_ | refine ⟨?_, trivial⟩ | intro _); conv => whnf))
         refine ⟨(g2, c2), by simp only; omega, ⟨rfl, rfl, trivial⟩, ?_⟩
         simp only [Nat.zero_add, List.nil_append, hcutI]
         exact SubM.sel (by (repeat constructor); first | done | fail)
     ·intro z4
      conv => whnf
      refine ⟨SubM.sub (List.nil_sublist _), ?_⟩
      conv => whnf
      refine ⟨?_, ?_, trivial⟩
      ·refine rn_subm (SubM.torow (xs := []) (n := 0) (b := z0) (by (repeat constructor); first | done | fail) rfl rfl) (rn_appN (k := .i64) a.picks rfl tab_ok rfl rfl rfl rfl rfl rfl .here (fun w hm => hPk _ w hm) (by omega) (fun A2 c2 => ?_))
       conv => whnf
       refine ⟨SubM.sub (List.nil_sublist _), ?_⟩
       conv => whnf
       refine ⟨?_, ?_, trivial⟩
       ·refine rn_appP tab_ok rfl rfl rfl rfl rfl rfl (by (repeat constructor); first | done | fail) rfl (news_blk (by (repeat constructor); first | done | fail)) rfl (by omega) (by omega) (fun g2 c2 hc2 => ?_)
        conv => whnf
        refine ⟨SubM.sub (List.nil_sublist _), ?_⟩
        conv => whnf
        refine ⟨?_, trivial⟩
        ·refine rn_load (ld1 tab_ok (by (repeat constructor); first | done | fail) rfl rfl rfl) ?_
         conv => whnf
         refine ⟨SubM.sub (List.nil_sublist _), ?_⟩
         conv => whnf
         refine ⟨⟨by omega, by omega, by omega, .inr (Pl.mk _ _)⟩, ?_⟩
         conv => whnf
         (repeat ((first | refine stp (by (repeat constructor); first | done | fail) ?_ | refine stn (by (repeat constructor); first | done | fail) ?_ | refine sto (by (repeat constructor); first | done | fail) (by first | omega | (simp only; omega)) ?_ | refine .mk fun Ap capp => ?_ | refine ⟨?_, trivial⟩ | intro _); conv => whnf))
         refine ⟨(g2, c2), by simp only; omega, ⟨rfl, rfl, trivial⟩, ?_⟩
         simp only [Nat.zero_add, List.nil_append, hcutI]
         exact SubM.sel (by (repeat constructor); first | done | fail)
       ·refine rn_load (ld1 tab_ok (by (repeat constructor); first | done | fail) rfl rfl rfl) ?_
        conv => whnf
        refine ⟨SubM.sub (List.nil_sublist _), ?_⟩
        conv => whnf
        refine ⟨?_, trivial⟩
        ·refine rn_appP tab_ok rfl rfl rfl rfl rfl rfl (by (repeat constructor); first | done | fail) rfl (news_blk (by (repeat constructor); first | done | fail)) rfl (by omega) (by omega) (fun g2 c2 hc2 => ?_)
         conv => whnf
         refine ⟨SubM.sub (List.nil_sublist _), ?_⟩
         conv => whnf
         refine ⟨⟨by omega, by omega, by omega, .inr (Pl.mk _ _)⟩, ?_⟩
         conv => whnf
         (repeat ((first | refine stp (by (repeat constructor); first | done | fail) ?_ | refine stn (by (repeat constructor); first | done | fail) ?_ | refine sto (by (repeat constructor); first | done | fail) (by first | omega | (simp only; omega)) ?_ | refine .mk fun Ap capp => ?_ | refine ⟨?_, trivial⟩ | intro _); conv => whnf))
         refine ⟨(g2, c2), by simp only; omega, ⟨rfl, rfl, trivial⟩, ?_⟩
         simp only [Nat.zero_add, List.nil_append, hcutI]
         exact SubM.sel (by (repeat constructor); first | done | fail)
      ·refine rn_load (ld1 tab_ok (by (repeat constructor); first | done | fail) rfl rfl rfl) ?_
       conv => whnf
       refine ⟨SubM.sub (List.nil_sublist _), ?_⟩
       conv => whnf
       refine ⟨?_, trivial⟩
       ·refine rn_subm (SubM.torow (xs := []) (n := 0) (b := z0) (by (repeat constructor); first | done | fail) rfl rfl) (rn_appN (k := .i64) a.picks rfl tab_ok rfl rfl rfl rfl rfl rfl .here (fun w hm => hPk _ w hm) (by omega) (fun A2 c2 => ?_))
        conv => whnf
        refine ⟨SubM.sub (List.nil_sublist _), ?_⟩
        conv => whnf
        refine ⟨?_, trivial⟩
        ·refine rn_appP tab_ok rfl rfl rfl rfl rfl rfl (by (repeat constructor); first | done | fail) rfl (news_blk (by (repeat constructor); first | done | fail)) rfl (by omega) (by omega) (fun g2 c2 hc2 => ?_)
         conv => whnf
         refine ⟨SubM.sub (List.nil_sublist _), ?_⟩
         conv => whnf
         refine ⟨⟨by omega, by omega, by omega, .inr (Pl.mk _ _)⟩, ?_⟩
         conv => whnf
         (repeat ((first | refine stp (by (repeat constructor); first | done | fail) ?_ | refine stn (by (repeat constructor); first | done | fail) ?_ | refine sto (by (repeat constructor); first | done | fail) (by first | omega | (simp only; omega)) ?_ | refine .mk fun Ap capp => ?_ | refine ⟨?_, trivial⟩ | intro _); conv => whnf))
         refine ⟨(g2, c2), by simp only; omega, ⟨rfl, rfl, trivial⟩, ?_⟩
         simp only [Nat.zero_add, List.nil_append, hcutI]
         exact SubM.sel (by (repeat constructor); first | done | fail)
     ·refine rn_load (ld1 tab_ok (by (repeat constructor); first | done | fail) rfl rfl rfl) ?_
      conv => whnf
      refine ⟨SubM.sub (List.nil_sublist _), ?_⟩
      conv => whnf
      refine ⟨?_, ?_, trivial⟩
      ·refine rn_subm (SubM.torow (xs := []) (n := 0) (b := z0) (by (repeat constructor); first | done | fail) rfl rfl) (rn_appN (k := .i64) a.picks rfl tab_ok rfl rfl rfl rfl rfl rfl .here (fun w hm => hPk _ w hm) (by omega) (fun A2 c2 => ?_))
       conv => whnf
       refine ⟨SubM.sub (List.nil_sublist _), ?_⟩
       conv => whnf
       refine ⟨?_, trivial⟩
       ·intro z4
        conv => whnf
        refine ⟨SubM.sub (List.nil_sublist _), ?_⟩
        conv => whnf
        refine ⟨?_, trivial⟩
        ·refine rn_appP tab_ok rfl rfl rfl rfl rfl rfl (by (repeat constructor); first | done | fail) rfl (news_blk (by (repeat constructor); first | done | fail)) rfl (by omega) (by omega) (fun g2 c2 hc2 => ?_)
         conv => whnf
         refine ⟨SubM.sub (List.nil_sublist _), ?_⟩
         conv => whnf
         refine ⟨⟨by omega, by omega, by omega, .inr (Pl.mk _ _)⟩, ?_⟩
         conv => whnf
         (repeat ((first | refine stp (by (repeat constructor); first | done | fail) ?_ | refine stn (by (repeat constructor); first | done | fail) ?_ | refine sto (by (repeat constructor); first | done | fail) (by first | omega | (simp only; omega)) ?_ | refine .mk fun Ap capp => ?_ | refine ⟨?_, trivial⟩ | intro _); conv => whnf))
         refine ⟨(g2, c2), by simp only; omega, ⟨rfl, rfl, trivial⟩, ?_⟩
         simp only [Nat.zero_add, List.nil_append, hcutI]
         exact SubM.sel (by (repeat constructor); first | done | fail)
      ·intro z4
       conv => whnf
       refine ⟨SubM.sub (List.nil_sublist _), ?_⟩
       conv => whnf
       refine ⟨?_, trivial⟩
       ·refine rn_subm (SubM.torow (xs := []) (n := 0) (b := z0) (by (repeat constructor); first | done | fail) rfl rfl) (rn_appN (k := .i64) a.picks rfl tab_ok rfl rfl rfl rfl rfl rfl .here (fun w hm => hPk _ w hm) (by omega) (fun A2 c2 => ?_))
        conv => whnf
        refine ⟨SubM.sub (List.nil_sublist _), ?_⟩
        conv => whnf
        refine ⟨?_, trivial⟩
        ·refine rn_appP tab_ok rfl rfl rfl rfl rfl rfl (by (repeat constructor); first | done | fail) rfl (news_blk (by (repeat constructor); first | done | fail)) rfl (by omega) (by omega) (fun g2 c2 hc2 => ?_)
         conv => whnf
         refine ⟨SubM.sub (List.nil_sublist _), ?_⟩
         conv => whnf
         refine ⟨⟨by omega, by omega, by omega, .inr (Pl.mk _ _)⟩, ?_⟩
         conv => whnf
         (repeat ((first | refine stp (by (repeat constructor); first | done | fail) ?_ | refine stn (by (repeat constructor); first | done | fail) ?_ | refine sto (by (repeat constructor); first | done | fail) (by first | omega | (simp only; omega)) ?_ | refine .mk fun Ap capp => ?_ | refine ⟨?_, trivial⟩ | intro _); conv => whnf))
         refine ⟨(g2, c2), by simp only; omega, ⟨rfl, rfl, trivial⟩, ?_⟩
         simp only [Nat.zero_add, List.nil_append, hcutI]
         exact SubM.sel (by (repeat constructor); first | done | fail)
    ·intro z4
     conv => whnf
     refine ⟨SubM.sub (List.nil_sublist _), ?_⟩
     conv => whnf
     refine ⟨?_, ?_, trivial⟩
     ·intro z0
      conv => whnf
      refine ⟨SubM.sub (List.nil_sublist _), ?_⟩
      conv => whnf
      refine ⟨?_, ?_, trivial⟩
      ·refine rn_subm (SubM.torow (xs := []) (n := 0) (b := z0) (by (repeat constructor); first | done | fail) rfl rfl) (rn_appN (k := .i64) a.picks rfl tab_ok rfl rfl rfl rfl rfl rfl .here (fun w hm => hPk _ w hm) (by omega) (fun A2 c2 => ?_))
       conv => whnf
       refine ⟨SubM.sub (List.nil_sublist _), ?_⟩
       conv => whnf
       refine ⟨?_, ?_, trivial⟩
       ·refine rn_appP tab_ok rfl rfl rfl rfl rfl rfl (by (repeat constructor); first | done | fail) rfl (news_blk (by (repeat constructor); first | done | fail)) rfl (by omega) (by omega) (fun g2 c2 hc2 => ?_)
        conv => whnf
        refine ⟨SubM.sub (List.nil_sublist _), ?_⟩
        conv => whnf
        refine ⟨?_, trivial⟩
        ·refine rn_load (ld1 tab_ok (by (repeat constructor); first | done | fail) rfl rfl rfl) ?_
         conv => whnf
         refine ⟨SubM.sub (List.nil_sublist _), ?_⟩
         conv => whnf
         refine ⟨⟨by omega, by omega, by omega, .inr (Pl.mk _ _)⟩, ?_⟩
         conv => whnf
         (repeat ((first | refine stp (by (repeat constructor); first | done | fail) ?_ | refine stn (by (repeat constructor); first | done | fail) ?_ | refine sto (by (repeat constructor); first | done | fail) (by first | omega | (simp only; omega)) ?_ | refine .mk fun Ap capp => ?_ | refine ⟨?_, trivial⟩ | intro _); conv => whnf))
         refine ⟨(g2, c2), by simp only; omega, ⟨rfl, rfl, trivial⟩, ?_⟩
         simp only [Nat.zero_add, List.nil_append, hcutI]
         exact SubM.sel (by (repeat constructor); first | done | fail)
       ·refine rn_load (ld1 tab_ok (by (repeat constructor); first | done | fail) rfl rfl rfl) ?_
        conv => whnf
        refine ⟨SubM.sub (List.nil_sublist _), ?_⟩
        conv => whnf
        refine ⟨?_, trivial⟩
        ·refine rn_appP tab_ok rfl rfl rfl rfl rfl rfl (by (repeat constructor); first | done | fail) rfl (news_blk (by (repeat constructor); first | done | fail)) rfl (by omega) (by omega) (fun g2 c2 hc2 => ?_)
         conv => whnf
         refine ⟨SubM.sub (List.nil_sublist _), ?_⟩
         conv => whnf
         refine ⟨⟨by omega, by omega, by omega, .inr (Pl.mk _ _)⟩, ?_⟩
         conv => whnf
         (repeat ((first | refine stp (by (repeat constructor); first | done | fail) ?_ | refine stn (by (repeat constructor); first | done | fail) ?_ | refine sto (by (repeat constructor); first | done | fail) (by first | omega | (simp only; omega)) ?_ | refine .mk fun Ap capp => ?_ | refine ⟨?_, trivial⟩ | intro _); conv => whnf))
         refine ⟨(g2, c2), by simp only; omega, ⟨rfl, rfl, trivial⟩, ?_⟩
         simp only [Nat.zero_add, List.nil_append, hcutI]
         exact SubM.sel (by (repeat constructor); first | done | fail)
      ·refine rn_load (ld1 tab_ok (by (repeat constructor); first | done | fail) rfl rfl rfl) ?_
       conv => whnf
       refine ⟨SubM.sub (List.nil_sublist _), ?_⟩
       conv => whnf
       refine ⟨?_, trivial⟩
       ·refine rn_subm (SubM.torow (xs := []) (n := 0) (b := z0) (by (repeat constructor); first | done | fail) rfl rfl) (rn_appN (k := .i64) a.picks rfl tab_ok rfl rfl rfl rfl rfl rfl .here (fun w hm => hPk _ w hm) (by omega) (fun A2 c2 => ?_))
        conv => whnf
        refine ⟨SubM.sub (List.nil_sublist _), ?_⟩
        conv => whnf
        refine ⟨?_, trivial⟩
        ·refine rn_appP tab_ok rfl rfl rfl rfl rfl rfl (by (repeat constructor); first | done | fail) rfl (news_blk (by (repeat constructor); first | done | fail)) rfl (by omega) (by omega) (fun g2 c2 hc2 => ?_)
         conv => whnf
         refine ⟨SubM.sub (List.nil_sublist _), ?_⟩
         conv => whnf
         refine ⟨⟨by omega, by omega, by omega, .inr (Pl.mk _ _)⟩, ?_⟩
         conv => whnf
         (repeat ((first | refine stp (by (repeat constructor); first | done | fail) ?_ | refine stn (by (repeat constructor); first | done | fail) ?_ | refine sto (by (repeat constructor); first | done | fail) (by first | omega | (simp only; omega)) ?_ | refine .mk fun Ap capp => ?_ | refine ⟨?_, trivial⟩ | intro _); conv => whnf))
         refine ⟨(g2, c2), by simp only; omega, ⟨rfl, rfl, trivial⟩, ?_⟩
         simp only [Nat.zero_add, List.nil_append, hcutI]
         exact SubM.sel (by (repeat constructor); first | done | fail)
     ·refine rn_load (ld1 tab_ok (by (repeat constructor); first | done | fail) rfl rfl rfl) ?_
      conv => whnf
      refine ⟨SubM.sub (List.nil_sublist _), ?_⟩
      conv => whnf
      refine ⟨?_, trivial⟩
      ·intro z0
       conv => whnf
       refine ⟨SubM.sub (List.nil_sublist _), ?_⟩
       conv => whnf
       refine ⟨?_, trivial⟩
       ·refine rn_subm (SubM.torow (xs := []) (n := 0) (b := z0) (by (repeat constructor); first | done | fail) rfl rfl) (rn_appN (k := .i64) a.picks rfl tab_ok rfl rfl rfl rfl rfl rfl .here (fun w hm => hPk _ w hm) (by omega) (fun A2 c2 => ?_))
        conv => whnf
        refine ⟨SubM.sub (List.nil_sublist _), ?_⟩
        conv => whnf
        refine ⟨?_, trivial⟩
        ·refine rn_appP tab_ok rfl rfl rfl rfl rfl rfl (by (repeat constructor); first | done | fail) rfl (news_blk (by (repeat constructor); first | done | fail)) rfl (by omega) (by omega) (fun g2 c2 hc2 => ?_)
         conv => whnf
         refine ⟨SubM.sub (List.nil_sublist _), ?_⟩
         conv => whnf
         refine ⟨⟨by omega, by omega, by omega, .inr (Pl.mk _ _)⟩, ?_⟩
         conv => whnf
         (repeat ((first | refine stp (by (repeat constructor); first | done | fail) ?_ | refine stn (by (repeat constructor); first | done | fail) ?_ | refine sto (by (repeat constructor); first | done | fail) (by first | omega | (simp only; omega)) ?_ | refine .mk fun Ap capp => ?_ | refine ⟨?_, trivial⟩ | intro _); conv => whnf))
         refine ⟨(g2, c2), by simp only; omega, ⟨rfl, rfl, trivial⟩, ?_⟩
         simp only [Nat.zero_add, List.nil_append, hcutI]
         exact SubM.sel (by (repeat constructor); first | done | fail)
    ·refine rn_load (ld1 tab_ok (by (repeat constructor); first | done | fail) rfl rfl rfl) ?_
     conv => whnf
     refine ⟨SubM.sub (List.nil_sublist _), ?_⟩
     conv => whnf
     refine ⟨?_, ?_, trivial⟩
     ·intro z0
      conv => whnf
      refine ⟨SubM.sub (List.nil_sublist _), ?_⟩
      conv => whnf
      refine ⟨?_, ?_, trivial⟩
      ·refine rn_subm (SubM.torow (xs := []) (n := 0) (b := z0) (by (repeat constructor); first | done | fail) rfl rfl) (rn_appN (k := .i64) a.picks rfl tab_ok rfl rfl rfl rfl rfl rfl .here (fun w hm => hPk _ w hm) (by omega) (fun A2 c2 => ?_))
       conv => whnf
       refine ⟨SubM.sub (List.nil_sublist _), ?_⟩
       conv => whnf
       refine ⟨?_, trivial⟩
       ·intro z4
        conv => whnf
        refine ⟨SubM.sub (List.nil_sublist _), ?_⟩
        conv => whnf
        refine ⟨?_, trivial⟩
        ·refine rn_appP tab_ok rfl rfl rfl rfl rfl rfl (by (repeat constructor); first | done | fail) rfl (news_blk (by (repeat constructor); first | done | fail)) rfl (by omega) (by omega) (fun g2 c2 hc2 => ?_)
         conv => whnf
         refine ⟨SubM.sub (List.nil_sublist _), ?_⟩
         conv => whnf
         refine ⟨⟨by omega, by omega, by omega, .inr (Pl.mk _ _)⟩, ?_⟩
         conv => whnf
         (repeat ((first | refine stp (by (repeat constructor); first | done | fail) ?_ | refine stn (by (repeat constructor); first | done | fail) ?_ | refine sto (by (repeat constructor); first | done | fail) (by first | omega | (simp only; omega)) ?_ | refine .mk fun Ap capp => ?_ | refine ⟨?_, trivial⟩ | intro _); conv => whnf))
         refine ⟨(g2, c2), by simp only; omega, ⟨rfl, rfl, trivial⟩, ?_⟩
         simp only [Nat.zero_add, List.nil_append, hcutI]
         exact SubM.sel (by (repeat constructor); first | done | fail)
      ·intro z4
       conv => whnf
       refine ⟨SubM.sub (List.nil_sublist _), ?_⟩
       conv => whnf
       refine ⟨?_, trivial⟩
       ·refine rn_subm (SubM.torow (xs := []) (n := 0) (b := z0) (by (repeat constructor); first | done | fail) rfl rfl) (rn_appN (k := .i64) a.picks rfl tab_ok rfl rfl rfl rfl rfl rfl .here (fun w hm => hPk _ w hm) (by omega) (fun A2 c2 => ?_))
        conv => whnf
        refine ⟨SubM.sub (List.nil_sublist _), ?_⟩
        conv => whnf
        refine ⟨?_, trivial⟩
        ·refine rn_appP tab_ok rfl rfl rfl rfl rfl rfl (by (repeat constructor); first | done | fail) rfl (news_blk (by (repeat constructor); first | done | fail)) rfl (by omega) (by omega) (fun g2 c2 hc2 => ?_)
         conv => whnf
         refine ⟨SubM.sub (List.nil_sublist _), ?_⟩
         conv => whnf
         refine ⟨⟨by omega, by omega, by omega, .inr (Pl.mk _ _)⟩, ?_⟩
         conv => whnf
         (repeat ((first | refine stp (by (repeat constructor); first | done | fail) ?_ | refine stn (by (repeat constructor); first | done | fail) ?_ | refine sto (by (repeat constructor); first | done | fail) (by first | omega | (simp only; omega)) ?_ | refine .mk fun Ap capp => ?_ | refine ⟨?_, trivial⟩ | intro _); conv => whnf))
         refine ⟨(g2, c2), by simp only; omega, ⟨rfl, rfl, trivial⟩, ?_⟩
         simp only [Nat.zero_add, List.nil_append, hcutI]
         exact SubM.sel (by (repeat constructor); first | done | fail)
     ·intro z4
      conv => whnf
      refine ⟨SubM.sub (List.nil_sublist _), ?_⟩
      conv => whnf
      refine ⟨?_, trivial⟩
      ·intro z0
       conv => whnf
       refine ⟨SubM.sub (List.nil_sublist _), ?_⟩
       conv => whnf
       refine ⟨?_, trivial⟩
       ·refine rn_subm (SubM.torow (xs := []) (n := 0) (b := z0) (by (repeat constructor); first | done | fail) rfl rfl) (rn_appN (k := .i64) a.picks rfl tab_ok rfl rfl rfl rfl rfl rfl .here (fun w hm => hPk _ w hm) (by omega) (fun A2 c2 => ?_))
        conv => whnf
        refine ⟨SubM.sub (List.nil_sublist _), ?_⟩
        conv => whnf
        refine ⟨?_, trivial⟩
        ·refine rn_appP tab_ok rfl rfl rfl rfl rfl rfl (by (repeat constructor); first | done | fail) rfl (news_blk (by (repeat constructor); first | done | fail)) rfl (by omega) (by omega) (fun g2 c2 hc2 => ?_)
         conv => whnf
         refine ⟨SubM.sub (List.nil_sublist _), ?_⟩
         conv => whnf
         refine ⟨⟨by omega, by omega, by omega, .inr (Pl.mk _ _)⟩, ?_⟩
         conv => whnf
         (repeat ((first | refine stp (by (repeat constructor); first | done | fail) ?_ | refine stn (by (repeat constructor); first | done | fail) ?_ | refine sto (by (repeat constructor); first | done | fail) (by first | omega | (simp only; omega)) ?_ | refine .mk fun Ap capp => ?_ | refine ⟨?_, trivial⟩ | intro _); conv => whnf))
         refine ⟨(g2, c2), by simp only; omega, ⟨rfl, rfl, trivial⟩, ?_⟩
         simp only [Nat.zero_add, List.nil_append, hcutI]
         exact SubM.sel (by (repeat constructor); first | done | fail)
   ·intro z4
    conv => whnf
    refine ⟨SubM.sub (List.nil_sublist _), ?_⟩
    conv => whnf
    refine ⟨?_, ?_, ?_, trivial⟩
    ·intro z0
     conv => whnf
     refine ⟨SubM.sub (List.nil_sublist _), ?_⟩
     conv => whnf
     refine ⟨?_, ?_, trivial⟩
     ·refine rn_load (ld1 tab_ok (by (repeat constructor); first | done | fail) rfl rfl rfl) ?_
      conv => whnf
      refine ⟨SubM.sub (List.nil_sublist _), ?_⟩
      conv => whnf
      refine ⟨?_, ?_, trivial⟩
      ·refine rn_subm (SubM.torow (xs := []) (n := 0) (b := z0) (by (repeat constructor); first | done | fail) rfl rfl) (rn_appN (k := .i64) a.picks rfl tab_ok rfl rfl rfl rfl rfl rfl .here (fun w hm => hPk _ w hm) (by omega) (fun A2 c2 => ?_))
       conv => whnf
       refine ⟨SubM.sub (List.nil_sublist _), ?_⟩
       conv => whnf
       refine ⟨?_, ?_, trivial⟩
       ·refine rn_appP tab_ok rfl rfl rfl rfl rfl rfl (by (repeat constructor); first | done | fail) rfl (news_blk (by (repeat constructor); first | done | fail)) rfl (by omega) (by omega) (fun g2 c2 hc2 => ?_)
        conv => whnf
        refine ⟨SubM.sub (List.nil_sublist _), ?_⟩
        conv => whnf
        refine ⟨?_, trivial⟩
        ·refine rn_load (ld1 tab_ok (by (repeat constructor); first | done | fail) rfl rfl rfl) ?_
         conv => whnf
         refine ⟨SubM.sub (List.nil_sublist _), ?_⟩
         conv => whnf
         refine ⟨⟨by omega, by omega, by omega, .inr (Pl.mk _ _)⟩, ?_⟩
         conv => whnf
         (repeat ((first | refine stp (by (repeat constructor); first | done | fail) ?_ | refine stn (by (repeat constructor); first | done | fail) ?_ | refine sto (by (repeat constructor); first | done | fail) (by first | omega | (simp only; omega)) ?_ | refine .mk fun Ap capp => ?_ | refine ⟨?_, trivial⟩ | intro _); conv => whnf))
         refine ⟨(g2, c2), by simp only; omega, ⟨rfl, rfl, trivial⟩, ?_⟩
         simp only [Nat.zero_add, List.nil_append, hcutI]
         exact SubM.sel (by (repeat constructor); first | done | fail)
       ·refine rn_load (ld1 tab_ok (by (repeat constructor); first | done | fail) rfl rfl rfl) ?_
        conv => whnf
        refine ⟨SubM.sub (List.nil_sublist _), ?_⟩
        conv => whnf
        refine ⟨?_, trivial⟩
        ·refine rn_appP tab_ok rfl rfl rfl rfl rfl rfl (by (repeat constructor); first | done | fail) rfl (news_blk (by (repeat constructor); first | done | fail)) rfl (by omega) (by omega) (fun g2 c2 hc2 => ?_)
         conv => whnf
         refine ⟨SubM.sub (List.nil_sublist _), ?_⟩
         conv => whnf
         refine ⟨⟨by omega, by omega, by omega, .inr (Pl.mk _ _)⟩, ?_⟩
         conv => whnf
         (repeat ((first | refine stp (by (repeat constructor); first | done | fail) ?_ | refine stn (by (repeat constructor); first | done | fail) ?_ | refine sto (by (repeat constructor); first | done | fail) (by first | omega | (simp only; omega)) ?_ | refine .mk fun Ap capp => ?_ | refine ⟨?_, trivial⟩ | intro _); conv => whnf))
         refine ⟨(g2, c2), by simp only; omega, ⟨rfl, rfl, trivial⟩, ?_⟩
         simp only [Nat.zero_add, List.nil_append, hcutI]
         exact SubM.sel (by (repeat constructor); first | done | fail)
      ·refine rn_load (ld1 tab_ok (by (repeat constructor); first | done | fail) rfl rfl rfl) ?_
       conv => whnf
       refine ⟨SubM.sub (List.nil_sublist _), ?_⟩
       conv => whnf
       refine ⟨?_, trivial⟩
       ·refine rn_subm (SubM.torow (xs := []) (n := 0) (b := z0) (by (repeat constructor); first | done | fail) rfl rfl) (rn_appN (k := .i64) a.picks rfl tab_ok rfl rfl rfl rfl rfl rfl .here (fun w hm => hPk _ w hm) (by omega) (fun A2 c2 => ?_))
        conv => whnf
        refine ⟨SubM.sub (List.nil_sublist _), ?_⟩
        conv => whnf
        refine ⟨?_, trivial⟩
        ·refine rn_appP tab_ok rfl rfl rfl rfl rfl rfl (by (repeat constructor); first | done | fail) rfl (news_blk (by (repeat constructor); first | done | fail)) rfl (by omega) (by omega) (fun g2 c2 hc2 => ?_)
         conv => whnf
         refine ⟨SubM.sub (List.nil_sublist _), ?_⟩
         conv => whnf
         refine ⟨⟨by omega, by omega, by omega, .inr (Pl.mk _ _)⟩, ?_⟩
         conv => whnf
         (repeat ((first | refine stp (by (repeat constructor); first | done | fail) ?_ | refine stn (by (repeat constructor); first | done | fail) ?_ | refine sto (by (repeat constructor); first | done | fail) (by first | omega | (simp only; omega)) ?_ | refine .mk fun Ap capp => ?_ | refine ⟨?_, trivial⟩ | intro _); conv => whnf))
         refine ⟨(g2, c2), by simp only; omega, ⟨rfl, rfl, trivial⟩, ?_⟩
         simp only [Nat.zero_add, List.nil_append, hcutI]
         exact SubM.sel (by (repeat constructor); first | done | fail)
     ·refine rn_load (ld1 tab_ok (by (repeat constructor); first | done | fail) rfl rfl rfl) ?_
      conv => whnf
      refine ⟨SubM.sub (List.nil_sublist _), ?_⟩
      conv => whnf
      refine ⟨?_, trivial⟩
      ·refine rn_load (ld1 tab_ok (by (repeat constructor); first | done | fail) rfl rfl rfl) ?_
       conv => whnf
       refine ⟨SubM.sub (List.nil_sublist _), ?_⟩
       conv => whnf
       refine ⟨?_, trivial⟩
       ·refine rn_subm (SubM.torow (xs := []) (n := 0) (b := z0) (by (repeat constructor); first | done | fail) rfl rfl) (rn_appN (k := .i64) a.picks rfl tab_ok rfl rfl rfl rfl rfl rfl .here (fun w hm => hPk _ w hm) (by omega) (fun A2 c2 => ?_))
        conv => whnf
        refine ⟨SubM.sub (List.nil_sublist _), ?_⟩
        conv => whnf
        refine ⟨?_, trivial⟩
        ·refine rn_appP tab_ok rfl rfl rfl rfl rfl rfl (by (repeat constructor); first | done | fail) rfl (news_blk (by (repeat constructor); first | done | fail)) rfl (by omega) (by omega) (fun g2 c2 hc2 => ?_)
         conv => whnf
         refine ⟨SubM.sub (List.nil_sublist _), ?_⟩
         conv => whnf
         refine ⟨⟨by omega, by omega, by omega, .inr (Pl.mk _ _)⟩, ?_⟩
         conv => whnf
         (repeat ((first | refine stp (by (repeat constructor); first | done | fail) ?_ | refine stn (by (repeat constructor); first | done | fail) ?_ | refine sto (by (repeat constructor); first | done | fail) (by first | omega | (simp only; omega)) ?_ | refine .mk fun Ap capp => ?_ | refine ⟨?_, trivial⟩ | intro _); conv => whnf))
         refine ⟨(g2, c2), by simp only; omega, ⟨rfl, rfl, trivial⟩, ?_⟩
         simp only [Nat.zero_add, List.nil_append, hcutI]
         exact SubM.sel (by (repeat constructor); first | done | fail)
    ·refine rn_load (ld1 tab_ok (by (repeat constructor); first | done | fail) rfl rfl rfl) ?_
     conv => whnf
     refine ⟨SubM.sub (List.nil_sublist _), ?_⟩
     conv => whnf
     refine ⟨?_, ?_, trivial⟩
     ·intro z0
      conv => whnf
      refine ⟨SubM.sub (List.nil_sublist _), ?_⟩
      conv => whnf
      refine ⟨?_, ?_, trivial⟩
      ·refine rn_subm (SubM.torow (xs := []) (n := 0) (b := z0) (by (repeat constructor); first | done | fail) rfl rfl) (rn_appN (k := .i64) a.picks rfl tab_ok rfl rfl rfl rfl rfl rfl .here (fun w hm => hPk _ w hm) (by omega) (fun A2 c2 => ?_))
       conv => whnf
       refine ⟨SubM.sub (List.nil_sublist _), ?_⟩
       conv => whnf
       refine ⟨?_, ?_, trivial⟩
       ·refine rn_appP tab_ok rfl rfl rfl rfl rfl rfl (by (repeat constructor); first | done | fail) rfl (news_blk (by (repeat constructor); first | done | fail)) rfl (by omega) (by omega) (fun g2 c2 hc2 => ?_)
        conv => whnf
        refine ⟨SubM.sub (List.nil_sublist _), ?_⟩
        conv => whnf
        refine ⟨?_, trivial⟩
        ·refine rn_load (ld1 tab_ok (by (repeat constructor); first | done | fail) rfl rfl rfl) ?_
         conv => whnf
         refine ⟨SubM.sub (List.nil_sublist _), ?_⟩
         conv => whnf
         refine ⟨⟨by omega, by omega, by omega, .inr (Pl.mk _ _)⟩, ?_⟩
         conv => whnf
         (repeat ((first | refine stp (by (repeat constructor); first | done | fail) ?_ | refine stn (by (repeat constructor); first | done | fail) ?_ | refine sto (by (repeat constructor); first | done | fail) (by first | omega | (simp only; omega)) ?_ | refine .mk fun Ap capp => ?_ | refine ⟨?_, trivial⟩ | intro _); conv => whnf))
         refine ⟨(g2, c2), by simp only; omega, ⟨rfl, rfl, trivial⟩, ?_⟩
         simp only [Nat.zero_add, List.nil_append, hcutI]
         exact SubM.sel (by (repeat constructor); first | done | fail)
       ·refine rn_load (ld1 tab_ok (by (repeat constructor); first | done | fail) rfl rfl rfl) ?_
        conv => whnf
        refine ⟨SubM.sub (List.nil_sublist _), ?_⟩
        conv => whnf
        refine ⟨?_, trivial⟩
        ·refine rn_appP tab_ok rfl rfl rfl rfl rfl rfl (by (repeat constructor); first | done | fail) rfl (news_blk (by (repeat constructor); first | done | fail)) rfl (by omega) (by omega) (fun g2 c2 hc2 => ?_)
         conv => whnf
         refine ⟨SubM.sub (List.nil_sublist _), ?_⟩
         conv => whnf
         refine ⟨⟨by omega, by omega, by omega, .inr (Pl.mk _ _)⟩, ?_⟩
         conv => whnf
         (repeat ((first | refine stp (by (repeat constructor); first | done | fail) ?_ | refine stn (by (repeat constructor); first | done | fail) ?_ | refine sto (by (repeat constructor); first | done | fail) (by first | omega | (simp only; omega)) ?_ | refine .mk fun Ap capp => ?_ | refine ⟨?_, trivial⟩ | intro _); conv => whnf))
         refine ⟨(g2, c2), by simp only; omega, ⟨rfl, rfl, trivial⟩, ?_⟩
         simp only [Nat.zero_add, List.nil_append, hcutI]
         exact SubM.sel (by (repeat constructor); first | done | fail)
      ·refine rn_load (ld1 tab_ok (by (repeat constructor); first | done | fail) rfl rfl rfl) ?_
       conv => whnf
       refine ⟨SubM.sub (List.nil_sublist _), ?_⟩
       conv => whnf
       refine ⟨?_, trivial⟩
       ·refine rn_subm (SubM.torow (xs := []) (n := 0) (b := z0) (by (repeat constructor); first | done | fail) rfl rfl) (rn_appN (k := .i64) a.picks rfl tab_ok rfl rfl rfl rfl rfl rfl .here (fun w hm => hPk _ w hm) (by omega) (fun A2 c2 => ?_))
        conv => whnf
        refine ⟨SubM.sub (List.nil_sublist _), ?_⟩
        conv => whnf
        refine ⟨?_, trivial⟩
        ·refine rn_appP tab_ok rfl rfl rfl rfl rfl rfl (by (repeat constructor); first | done | fail) rfl (news_blk (by (repeat constructor); first | done | fail)) rfl (by omega) (by omega) (fun g2 c2 hc2 => ?_)
         conv => whnf
         refine ⟨SubM.sub (List.nil_sublist _), ?_⟩
         conv => whnf
         refine ⟨⟨by omega, by omega, by omega, .inr (Pl.mk _ _)⟩, ?_⟩
         conv => whnf
         (repeat ((first | refine stp (by (repeat constructor); first | done | fail) ?_ | refine stn (by (repeat constructor); first | done | fail) ?_ | refine sto (by (repeat constructor); first | done | fail) (by first | omega | (simp only; omega)) ?_ | refine .mk fun Ap capp => ?_ | refine ⟨?_, trivial⟩ | intro _); conv => whnf))
         refine ⟨(g2, c2), by simp only; omega, ⟨rfl, rfl, trivial⟩, ?_⟩
         simp only [Nat.zero_add, List.nil_append, hcutI]
         exact SubM.sel (by (repeat constructor); first | done | fail)
     ·refine rn_load (ld1 tab_ok (by (repeat constructor); first | done | fail) rfl rfl rfl) ?_
      conv => whnf
      refine ⟨SubM.sub (List.nil_sublist _), ?_⟩
      conv => whnf
      refine ⟨?_, trivial⟩
      ·intro z0
       conv => whnf
       refine ⟨SubM.sub (List.nil_sublist _), ?_⟩
       conv => whnf
       refine ⟨?_, trivial⟩
       ·refine rn_subm (SubM.torow (xs := []) (n := 0) (b := z0) (by (repeat constructor); first | done | fail) rfl rfl) (rn_appN (k := .i64) a.picks rfl tab_ok rfl rfl rfl rfl rfl rfl .here (fun w hm => hPk _ w hm) (by omega) (fun A2 c2 => ?_))
        conv => whnf
        refine ⟨SubM.sub (List.nil_sublist _), ?_⟩
        conv => whnf
        refine ⟨?_, trivial⟩
        ·refine rn_appP tab_ok rfl rfl rfl rfl rfl rfl (by (repeat constructor); first | done | fail) rfl (news_blk (by (repeat constructor); first | done | fail)) rfl (by omega) (by omega) (fun g2 c2 hc2 => ?_)
         conv => whnf
         refine ⟨SubM.sub (List.nil_sublist _), ?_⟩
         conv => whnf
         refine ⟨⟨by omega, by omega, by omega, .inr (Pl.mk _ _)⟩, ?_⟩
         conv => whnf
         (repeat ((first | refine stp (by (repeat constructor); first | done | fail) ?_ | refine stn (by (repeat constructor); first | done | fail) ?_ | refine sto (by (repeat constructor); first | done | fail) (by first | omega | (simp only; omega)) ?_ | refine .mk fun Ap capp => ?_ | refine ⟨?_, trivial⟩ | intro _); conv => whnf))
         refine ⟨(g2, c2), by simp only; omega, ⟨rfl, rfl, trivial⟩, ?_⟩
         simp only [Nat.zero_add, List.nil_append, hcutI]
         exact SubM.sel (by (repeat constructor); first | done | fail)
    ·refine rn_load (ld1 tab_ok (by (repeat constructor); first | done | fail) rfl rfl rfl) ?_
     conv => whnf
     refine ⟨SubM.sub (List.nil_sublist _), ?_⟩
     conv => whnf
     refine ⟨?_, ?_, trivial⟩
     ·intro z0
      conv => whnf
      refine ⟨SubM.sub (List.nil_sublist _), ?_⟩
      conv => whnf
      refine ⟨?_, trivial⟩
      ·refine rn_load (ld1 tab_ok (by (repeat constructor); first | done | fail) rfl rfl rfl) ?_
       conv => whnf
       refine ⟨SubM.sub (List.nil_sublist _), ?_⟩
       conv => whnf
       refine ⟨?_, trivial⟩
       ·refine rn_subm (SubM.torow (xs := []) (n := 0) (b := z0) (by (repeat constructor); first | done | fail) rfl rfl) (rn_appN (k := .i64) a.picks rfl tab_ok rfl rfl rfl rfl rfl rfl .here (fun w hm => hPk _ w hm) (by omega) (fun A2 c2 => ?_))
        conv => whnf
        refine ⟨SubM.sub (List.nil_sublist _), ?_⟩
        conv => whnf
        refine ⟨?_, trivial⟩
        ·refine rn_appP tab_ok rfl rfl rfl rfl rfl rfl (by (repeat constructor); first | done | fail) rfl (news_blk (by (repeat constructor); first | done | fail)) rfl (by omega) (by omega) (fun g2 c2 hc2 => ?_)
         conv => whnf
         refine ⟨SubM.sub (List.nil_sublist _), ?_⟩
         conv => whnf
         refine ⟨⟨by omega, by omega, by omega, .inr (Pl.mk _ _)⟩, ?_⟩
         conv => whnf
         (repeat ((first | refine stp (by (repeat constructor); first | done | fail) ?_ | refine stn (by (repeat constructor); first | done | fail) ?_ | refine sto (by (repeat constructor); first | done | fail) (by first | omega | (simp only; omega)) ?_ | refine .mk fun Ap capp => ?_ | refine ⟨?_, trivial⟩ | intro _); conv => whnf))
         refine ⟨(g2, c2), by simp only; omega, ⟨rfl, rfl, trivial⟩, ?_⟩
         simp only [Nat.zero_add, List.nil_append, hcutI]
         exact SubM.sel (by (repeat constructor); first | done | fail)
     ·refine rn_load (ld1 tab_ok (by (repeat constructor); first | done | fail) rfl rfl rfl) ?_
      conv => whnf
      refine ⟨SubM.sub (List.nil_sublist _), ?_⟩
      conv => whnf
      refine ⟨?_, trivial⟩
      ·intro z0
       conv => whnf
       refine ⟨SubM.sub (List.nil_sublist _), ?_⟩
       conv => whnf
       refine ⟨?_, trivial⟩
       ·refine rn_subm (SubM.torow (xs := []) (n := 0) (b := z0) (by (repeat constructor); first | done | fail) rfl rfl) (rn_appN (k := .i64) a.picks rfl tab_ok rfl rfl rfl rfl rfl rfl .here (fun w hm => hPk _ w hm) (by omega) (fun A2 c2 => ?_))
        conv => whnf
        refine ⟨SubM.sub (List.nil_sublist _), ?_⟩
        conv => whnf
        refine ⟨?_, trivial⟩
        ·refine rn_appP tab_ok rfl rfl rfl rfl rfl rfl (by (repeat constructor); first | done | fail) rfl (news_blk (by (repeat constructor); first | done | fail)) rfl (by omega) (by omega) (fun g2 c2 hc2 => ?_)
         conv => whnf
         refine ⟨SubM.sub (List.nil_sublist _), ?_⟩
         conv => whnf
         refine ⟨⟨by omega, by omega, by omega, .inr (Pl.mk _ _)⟩, ?_⟩
         conv => whnf
         (repeat ((first | refine stp (by (repeat constructor); first | done | fail) ?_ | refine stn (by (repeat constructor); first | done | fail) ?_ | refine sto (by (repeat constructor); first | done | fail) (by first | omega | (simp only; omega)) ?_ | refine .mk fun Ap capp => ?_ | refine ⟨?_, trivial⟩ | intro _); conv => whnf))
         refine ⟨(g2, c2), by simp only; omega, ⟨rfl, rfl, trivial⟩, ?_⟩
         simp only [Nat.zero_add, List.nil_append, hcutI]
         exact SubM.sel (by (repeat constructor); first | done | fail)
   ·refine rn_load (ld1 tab_ok (by (repeat constructor); first | done | fail) rfl rfl rfl) ?_
    conv => whnf
    refine ⟨SubM.sub (List.nil_sublist _), ?_⟩
    conv => whnf
    refine ⟨?_, ?_, ?_, trivial⟩
    ·intro z0
     conv => whnf
     refine ⟨SubM.sub (List.nil_sublist _), ?_⟩
     conv => whnf
     refine ⟨?_, ?_, trivial⟩
     ·refine rn_load (ld1 tab_ok (by (repeat constructor); first | done | fail) rfl rfl rfl) ?_
      conv => whnf
      refine ⟨SubM.sub (List.nil_sublist _), ?_⟩
      conv => whnf
      refine ⟨?_, ?_, trivial⟩
      ·refine rn_subm (SubM.torow (xs := []) (n := 0) (b := z0) (by (repeat constructor); first | done | fail) rfl rfl) (rn_appN (k := .i64) a.picks rfl tab_ok rfl rfl rfl rfl rfl rfl .here (fun w hm => hPk _ w hm) (by omega) (fun A2 c2 => ?_))
       conv => whnf
       refine ⟨SubM.sub (List.nil_sublist _), ?_⟩
       conv => whnf
       refine ⟨?_, trivial⟩
       ·intro z4
        conv => whnf
        refine ⟨SubM.sub (List.nil_sublist _), ?_⟩
        conv => whnf
        refine ⟨?_, trivial⟩
        ·refine rn_appP tab_ok rfl rfl rfl rfl rfl rfl (by (repeat constructor); first | done | fail) rfl (news_blk (by (repeat constructor); first | done | fail)) rfl (by omega) (by omega) (fun g2 c2 hc2 => ?_)
         conv => whnf
         refine ⟨SubM.sub (List.nil_sublist _), ?_⟩
         conv => whnf
         refine ⟨⟨by omega, by omega, by omega, .inr (Pl.mk _ _)⟩, ?_⟩
         conv => whnf
         (repeat ((first | refine stp (by (repeat constructor); first | done | fail) ?_ | refine stn (by (repeat constructor); first | done | fail) ?_ | refine sto (by (repeat constructor); first | done | fail) (by first | omega | (simp only; omega)) ?_ | refine .mk fun Ap capp => ?_ | refine ⟨?_, trivial⟩ | intro _); conv => whnf))
         refine ⟨(g2, c2), by simp only; omega, ⟨rfl, rfl, trivial⟩, ?_⟩
         simp only [Nat.zero_add, List.nil_append, hcutI]
         exact SubM.sel (by (repeat constructor); first | done | fail)
      ·intro z4
       conv => whnf
       refine ⟨SubM.sub (List.nil_sublist _), ?_⟩
       conv => whnf
       refine ⟨?_, trivial⟩
       ·refine rn_subm (SubM.torow (xs := []) (n := 0) (b := z0) (by (repeat constructor); first | done | fail) rfl rfl) (rn_appN (k := .i64) a.picks rfl tab_ok rfl rfl rfl rfl rfl rfl .here (fun w hm => hPk _ w hm) (by omega) (fun A2 c2 => ?_))
        conv => whnf
        refine ⟨SubM.sub (List.nil_sublist _), ?_⟩
        conv => whnf
        refine ⟨?_, trivial⟩
        ·refine rn_appP tab_ok rfl rfl rfl rfl rfl rfl (by (repeat constructor); first | done | fail) rfl (news_blk (by (repeat constructor); first | done | fail)) rfl (by omega) (by omega) (fun g2 c2 hc2 => ?_)
         conv => whnf
         refine ⟨SubM.sub (List.nil_sublist _), ?_⟩
         conv => whnf
         refine ⟨⟨by omega, by omega, by omega, .inr (Pl.mk _ _)⟩, ?_⟩
         conv => whnf
         (repeat ((first | refine stp (by (repeat constructor); first | done | fail) ?_ | refine stn (by (repeat constructor); first | done | fail) ?_ | refine sto (by (repeat constructor); first | done | fail) (by first | omega | (simp only; omega)) ?_ | refine .mk fun Ap capp => ?_ | refine ⟨?_, trivial⟩ | intro _); conv => whnf))
         refine ⟨(g2, c2), by simp only; omega, ⟨rfl, rfl, trivial⟩, ?_⟩
         simp only [Nat.zero_add, List.nil_append, hcutI]
         exact SubM.sel (by (repeat constructor); first | done | fail)
     ·intro z4
      conv => whnf
      refine ⟨SubM.sub (List.nil_sublist _), ?_⟩
      conv => whnf
      refine ⟨?_, trivial⟩
      ·refine rn_load (ld1 tab_ok (by (repeat constructor); first | done | fail) rfl rfl rfl) ?_
       conv => whnf
       refine ⟨SubM.sub (List.nil_sublist _), ?_⟩
       conv => whnf
       refine ⟨?_, trivial⟩
       ·refine rn_subm (SubM.torow (xs := []) (n := 0) (b := z0) (by (repeat constructor); first | done | fail) rfl rfl) (rn_appN (k := .i64) a.picks rfl tab_ok rfl rfl rfl rfl rfl rfl .here (fun w hm => hPk _ w hm) (by omega) (fun A2 c2 => ?_))
        conv => whnf
        refine ⟨SubM.sub (List.nil_sublist _), ?_⟩
        conv => whnf
        refine ⟨?_, trivial⟩
        ·refine rn_appP tab_ok rfl rfl rfl rfl rfl rfl (by (repeat constructor); first | done | fail) rfl (news_blk (by (repeat constructor); first | done | fail)) rfl (by omega) (by omega) (fun g2 c2 hc2 => ?_)
         conv => whnf
         refine ⟨SubM.sub (List.nil_sublist _), ?_⟩
         conv => whnf
         refine ⟨⟨by omega, by omega, by omega, .inr (Pl.mk _ _)⟩, ?_⟩
         conv => whnf
         (repeat ((first | refine stp (by (repeat constructor); first | done | fail) ?_ | refine stn (by (repeat constructor); first | done | fail) ?_ | refine sto (by (repeat constructor); first | done | fail) (by first | omega | (simp only; omega)) ?_ | refine .mk fun Ap capp => ?_ | refine ⟨?_, trivial⟩ | intro _); conv => whnf))
         refine ⟨(g2, c2), by simp only; omega, ⟨rfl, rfl, trivial⟩, ?_⟩
         simp only [Nat.zero_add, List.nil_append, hcutI]
         exact SubM.sel (by (repeat constructor); first | done | fail)
    ·refine rn_load (ld1 tab_ok (by (repeat constructor); first | done | fail) rfl rfl rfl) ?_
     conv => whnf
     refine ⟨SubM.sub (List.nil_sublist _), ?_⟩
     conv => whnf
     refine ⟨?_, ?_, trivial⟩
     ·intro z0
      conv => whnf
      refine ⟨SubM.sub (List.nil_sublist _), ?_⟩
      conv => whnf
      refine ⟨?_, ?_, trivial⟩
      ·refine rn_subm (SubM.torow (xs := []) (n := 0) (b := z0) (by (repeat constructor); first | done | fail) rfl rfl) (rn_appN (k := .i64) a.picks rfl tab_ok rfl rfl rfl rfl rfl rfl .here (fun w hm => hPk _ w hm) (by omega) (fun A2 c2 => ?_))
       conv => whnf
       refine ⟨SubM.sub (List.nil_sublist _), ?_⟩
       conv => whnf
       refine ⟨?_, trivial⟩
       ·intro z4
        conv => whnf
        refine ⟨SubM.sub (List.nil_sublist _), ?_⟩
        conv => whnf
        refine ⟨?_, trivial⟩
        ·refine rn_appP tab_ok rfl rfl rfl rfl rfl rfl (by (repeat constructor); first | done | fail) rfl (news_blk (by (repeat constructor); first | done | fail)) rfl (by omega) (by omega) (fun g2 c2 hc2 => ?_)
         conv => whnf
         refine ⟨SubM.sub (List.nil_sublist _), ?_⟩
         conv => whnf
         refine ⟨⟨by omega, by omega, by omega, .inr (Pl.mk _ _)⟩, ?_⟩
         conv => whnf
         (repeat ((first | refine stp (by (repeat constructor); first | done | fail) ?_ | refine stn (by (repeat constructor); first | done | fail) ?_ | refine sto (by (repeat constructor); first | done | fail) (by first | omega | (simp only; omega)) ?_ | refine .mk fun Ap capp => ?_ | refine ⟨?_, trivial⟩ | intro _); conv => whnf))
         refine ⟨(g2, c2), by simp only; omega, ⟨rfl, rfl, trivial⟩, ?_⟩
         simp only [Nat.zero_add, List.nil_append, hcutI]
         exact SubM.sel (by (repeat constructor); first | done | fail)
      ·intro z4
       conv => whnf
       refine ⟨SubM.sub (List.nil_sublist _), ?_⟩
       conv => whnf
       refine ⟨?_, trivial⟩
       ·refine rn_subm (SubM.torow (xs := []) (n := 0) (b := z0) (by (repeat constructor); first | done | fail) rfl rfl) (rn_appN (k := .i64) a.picks rfl tab_ok rfl rfl rfl rfl rfl rfl .here (fun w hm => hPk _ w hm) (by omega) (fun A2 c2 => ?_))
        conv => whnf
        refine ⟨SubM.sub (List.nil_sublist _), ?_⟩
        conv => whnf
        refine ⟨?_, trivial⟩
        ·refine rn_appP tab_ok rfl rfl rfl rfl rfl rfl (by (repeat constructor); first | done | fail) rfl (news_blk (by (repeat constructor); first | done | fail)) rfl (by omega) (by omega) (fun g2 c2 hc2 => ?_)
         conv => whnf
         refine ⟨SubM.sub (List.nil_sublist _), ?_⟩
         conv => whnf
         refine ⟨⟨by omega, by omega, by omega, .inr (Pl.mk _ _)⟩, ?_⟩
         conv => whnf
         (repeat ((first | refine stp (by (repeat constructor); first | done | fail) ?_ | refine stn (by (repeat constructor); first | done | fail) ?_ | refine sto (by (repeat constructor); first | done | fail) (by first | omega | (simp only; omega)) ?_ | refine .mk fun Ap capp => ?_ | refine ⟨?_, trivial⟩ | intro _); conv => whnf))
         refine ⟨(g2, c2), by simp only; omega, ⟨rfl, rfl, trivial⟩, ?_⟩
         simp only [Nat.zero_add, List.nil_append, hcutI]
         exact SubM.sel (by (repeat constructor); first | done | fail)
     ·intro z4
      conv => whnf
      refine ⟨SubM.sub (List.nil_sublist _), ?_⟩
      conv => whnf
      refine ⟨?_, trivial⟩
      ·intro z0
       conv => whnf
       refine ⟨SubM.sub (List.nil_sublist _), ?_⟩
       conv => whnf
       refine ⟨?_, trivial⟩
       ·refine rn_subm (SubM.torow (xs := []) (n := 0) (b := z0) (by (repeat constructor); first | done | fail) rfl rfl) (rn_appN (k := .i64) a.picks rfl tab_ok rfl rfl rfl rfl rfl rfl .here (fun w hm => hPk _ w hm) (by omega) (fun A2 c2 => ?_))
        conv => whnf
        refine ⟨SubM.sub (List.nil_sublist _), ?_⟩
        conv => whnf
        refine ⟨?_, trivial⟩
        ·refine rn_appP tab_ok rfl rfl rfl rfl rfl rfl (by (repeat constructor); first | done | fail) rfl (news_blk (by (repeat constructor); first | done | fail)) rfl (by omega) (by omega) (fun g2 c2 hc2 => ?_)
         conv => whnf
         refine ⟨SubM.sub (List.nil_sublist _), ?_⟩
         conv => whnf
         refine ⟨⟨by omega, by omega, by omega, .inr (Pl.mk _ _)⟩, ?_⟩
         conv => whnf
         (repeat ((first | refine stp (by (repeat constructor); first | done | fail) ?_ | refine stn (by (repeat constructor); first | done | fail) ?_ | refine sto (by (repeat constructor); first | done | fail) (by first | omega | (simp only; omega)) ?_ | refine .mk fun Ap capp => ?_ | refine ⟨?_, trivial⟩ | intro _); conv => whnf))
         refine ⟨(g2, c2), by simp only; omega, ⟨rfl, rfl, trivial⟩, ?_⟩
         simp only [Nat.zero_add, List.nil_append, hcutI]
         exact SubM.sel (by (repeat constructor); first | done | fail)
    ·intro z4
     conv => whnf
     refine ⟨SubM.sub (List.nil_sublist _), ?_⟩
     conv => whnf
     refine ⟨?_, ?_, trivial⟩
     ·intro z0
      conv => whnf
      refine ⟨SubM.sub (List.nil_sublist _), ?_⟩
      conv => whnf
      refine ⟨?_, trivial⟩
      ·refine rn_load (ld1 tab_ok (by (repeat constructor); first | done | fail) rfl rfl rfl) ?_
       conv => whnf
       refine ⟨SubM.sub (List.nil_sublist _), ?_⟩
       conv => whnf
       refine ⟨?_, trivial⟩
       ·refine rn_subm (SubM.torow (xs := []) (n := 0) (b := z0) (by (repeat constructor); first | done | fail) rfl rfl) (rn_appN (k := .i64) a.picks rfl tab_ok rfl rfl rfl rfl rfl rfl .here (fun w hm => hPk _ w hm) (by omega) (fun A2 c2 => ?_))
        conv => whnf
        refine ⟨SubM.sub (List.nil_sublist _), ?_⟩
        conv => whnf
        refine ⟨?_, trivial⟩
        ·refine rn_appP tab_ok rfl rfl rfl rfl rfl rfl (by (repeat constructor); first | done | fail) rfl (news_blk (by (repeat constructor); first | done | fail)) rfl (by omega) (by omega) (fun g2 c2 hc2 => ?_)
         conv => whnf
         refine ⟨SubM.sub (List.nil_sublist _), ?_⟩
         conv => whnf
         refine ⟨⟨by omega, by omega, by omega, .inr (Pl.mk _ _)⟩, ?_⟩
         conv => whnf
         (repeat ((first | refine stp (by (repeat constructor); first | done | fail) ?_ | refine stn (by (repeat constructor); first | done | fail) ?_ | refine sto (by (repeat constructor); first | done | fail) (by first | omega | (simp only; omega)) ?_ | refine .mk fun Ap capp => ?_ | refine ⟨?_, trivial⟩ | intro _); conv => whnf))
         refine ⟨(g2, c2), by simp only; omega, ⟨rfl, rfl, trivial⟩, ?_⟩
         simp only [Nat.zero_add, List.nil_append, hcutI]
         exact SubM.sel (by (repeat constructor); first | done | fail)
     ·refine rn_load (ld1 tab_ok (by (repeat constructor); first | done | fail) rfl rfl rfl) ?_
      conv => whnf
      refine ⟨SubM.sub (List.nil_sublist _), ?_⟩
      conv => whnf
      refine ⟨?_, trivial⟩
      ·intro z0
       conv => whnf
       refine ⟨SubM.sub (List.nil_sublist _), ?_⟩
       conv => whnf
       refine ⟨?_, trivial⟩
       ·refine rn_subm (SubM.torow (xs := []) (n := 0) (b := z0) (by (repeat constructor); first | done | fail) rfl rfl) (rn_appN (k := .i64) a.picks rfl tab_ok rfl rfl rfl rfl rfl rfl .here (fun w hm => hPk _ w hm) (by omega) (fun A2 c2 => ?_))
        conv => whnf
        refine ⟨SubM.sub (List.nil_sublist _), ?_⟩
        conv => whnf
        refine ⟨?_, trivial⟩
        ·refine rn_appP tab_ok rfl rfl rfl rfl rfl rfl (by (repeat constructor); first | done | fail) rfl (news_blk (by (repeat constructor); first | done | fail)) rfl (by omega) (by omega) (fun g2 c2 hc2 => ?_)
         conv => whnf
         refine ⟨SubM.sub (List.nil_sublist _), ?_⟩
         conv => whnf
         refine ⟨⟨by omega, by omega, by omega, .inr (Pl.mk _ _)⟩, ?_⟩
         conv => whnf
         (repeat ((first | refine stp (by (repeat constructor); first | done | fail) ?_ | refine stn (by (repeat constructor); first | done | fail) ?_ | refine sto (by (repeat constructor); first | done | fail) (by first | omega | (simp only; omega)) ?_ | refine .mk fun Ap capp => ?_ | refine ⟨?_, trivial⟩ | intro _); conv => whnf))
         refine ⟨(g2, c2), by simp only; omega, ⟨rfl, rfl, trivial⟩, ?_⟩
         simp only [Nat.zero_add, List.nil_append, hcutI]
         exact SubM.sel (by (repeat constructor); first | done | fail)
  ·rintro ⟨g2, c2⟩ hc2
   simp only at hc2
   conv => whnf
   (repeat ((first | refine stp (by (repeat constructor); first | done | fail) ?_ | refine stn (by (repeat constructor); first | done | fail) ?_ | refine sto (by (repeat constructor); first | done | fail) (by first | omega | (simp only; omega)) ?_ | refine .mk fun Ap capp => ?_ | refine ⟨?_, trivial⟩ | intro _); conv => whnf))
   exact finC1 rfl rfl (ldN tab_ok (by (repeat constructor); first | done | fail) rfl rfl rfl rfl) (fun w' hm => ⟨_, ⟨g1, c1, g2, c2, hc1, hc2, rfl, rfl⟩, hm.sel (by (repeat constructor); first | done | fail)⟩)
theorem copied_enters : Eng.Enters Tryz.prog 10 := enters_mk fun _ _ => by kernel_rfl
end Go.Proofs.YtbfbjgakmnckbaaGreatDoor
