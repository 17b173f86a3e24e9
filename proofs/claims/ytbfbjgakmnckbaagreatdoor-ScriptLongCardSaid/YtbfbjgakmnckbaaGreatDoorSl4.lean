/- The document's answer: only. No statement of the seat is proved here. -/
import Derived.Test.YtbfbjgakmnckbaaGreatDoorSl3
import Derived.Lib.ItoaNum
import Derived.Lib.ParseIntB
namespace Go.Proofs.YtbfbjgakmnckbaaGreatDoor
open Go Go.RowKit Eng
attribute [local irreducible] Br Rn RnU Cl RdG CpG Ld Rd Lp Dr Oth Cut fin Fits Eng.Enters Md NA

def nilAct (k : Int) : PAct := ⟨k, Str [], Str [], Str [], 0, 0, [], 0, 0, false, 0, 0, []⟩
/-- What a letter of a form takes of an act. -/
def takeL1 (c : UInt8) (a x : PAct) : PAct :=
 if c = 97 then { x with name := a.name } else if c = 111 ∨ c = 79 then { x with other := a.other } else if c = 116 then { x with third := a.third }
 else if c = 65 then { x with at_ := a.at_ } else if c = 78 then { x with n := a.n } else if c = 66 then { x with bits := a.bits } else if c = 82 then { x with order := a.order }
 else if c = 120 then { x with bytes := a.bytes } else { x with on := a.on }
def okL1 (c : UInt8) (a : PAct) : Bool :=
 if c = 97 then nameB a.name else if c = 111 ∨ c = 79 then nameB a.other || (decide (c = 79) && decide (a.other = Str [])) else if c = 116 then nameB a.third else true
def onlyX (f : List UInt8) (a : PAct) (x : PAct) : PAct := f.foldl (fun x c => takeL1 c a x) x
def onlyOk (f : List UInt8) (a : PAct) : Bool := f.all fun c => okL1 c a
theorem formL_len (k : Int) : (formL k).length ≤ 16 := by
 unfold formL
 split
 ·simp
 ·have : ∀ l ∈ formsL, l.length ≤ 16 := by decide
  rw [List.getD]
  cases h : formsL[k.toNat]? with
  | none => simp
  | some l => exact this l (List.mem_of_getElem? h)
theorem cutF_len : ∀ (l : List UInt8), (cutF l).1.length ≤ l.length ∧ (cutF l).2.length ≤ l.length
 | [] => by simp [cutF]
 | c :: r => by
  have := cutF_len r
  unfold cutF
  split
  ·simp
  ·simp; omega
theorem form_enters : Eng.Enters Tryz.prog 42 := enters_mk fun _ _ => by kernel_rfl
theorem cut_enters : Eng.Enters Tryz.prog 43 := enters_mk fun _ _ => by kernel_rfl
theorem name_enters : Eng.Enters Tryz.prog 90 := enters_mk fun _ _ => by kernel_rfl
theorem fold_take {α β : Type} (g : β → α → β) (l : List α) (d : α) (i : Nat) (b : β) (hi : i < l.length) : (l.take (i + 1)).foldl g b = g ((l.take i).foldl g b) (l.getD i d) := by
 rw [List.take_add_one, List.getElem?_eq_getElem hi, List.foldl_append, List.getD, List.getElem?_eq_getElem hi]
 rfl
theorem all_take {α : Type} (g : α → Bool) (l : List α) (d : α) (i : Nat) (hi : i < l.length) : (l.take (i + 1)).all g = ((l.take i).all g && g (l.getD i d)) := by
 rw [List.take_add_one, List.getElem?_eq_getElem hi, List.all_append, List.getD, List.getElem?_eq_getElem hi]
 simp only [Option.toList_some, List.all_cons, List.all_nil, Bool.and_true, Option.getD_some]
/-- The letters behind an act's word. -/
def lettersL (k : Int) : List UInt8 := (cutF (formL k)).2

set_option maxRecDepth 100000 in
set_option maxHeartbeats 1000000 in
theorem only_any (a : PAct) (bA pA : Option Addr) (bc pc : Nat) (w : World) (ha : a.Ok) :
  Calls Tryz.prog 48 #[.agg (actL a bA bc pA pc).toArray] w fun e w' => ∃ xA xc, (((onlyX (lettersL a.kind) a (nilAct a.kind)).bytes = a.bytes ∧ xA = bA ∧ xc = bc) ∨ (onlyX (lettersL a.kind) a (nilAct a.kind)).bytes = []) ∧
   e = .returned (.tuple #[.agg (actL (onlyX (lettersL a.kind) a (nilAct a.kind)) xA xc none 0).toArray, .bool (onlyOk (lettersL a.kind) a)]) ∧ Fr (fun _ => False) w w' := by
 refine enter (cx := CX 103 [] w) [(0, .agg (actL a bA bc pA pc).toArray)] tab_ok Tryz.func48 rfl rfl rfl rfl (MemOk.nil w _) ?_
 conv => whnf
 intro b1
 conv => whnf
 intro b2
 conv => whnf
 (repeat ((first | refine stp (by (repeat constructor); first | done | fail) ?_ | refine stn (by (repeat constructor); first | done | fail) ?_ | refine sto (by (repeat constructor); first | done | fail) (by first | omega | (simp only; omega)) ?_); conv => whnf))
 refine ⟨form_enters, cl_same _ (fun w' _ => form_any _ w') ?_⟩
 conv => whnf
 refine ⟨cut_enters, cl_same _ (fun w' _ => cut_any _ w' (by have := formL_len a.kind; omega)) ?_⟩
 conv => whnf
 (repeat ((first | refine stp (by (repeat constructor); first | done | fail) ?_ | refine stn (by (repeat constructor); first | done | fail) ?_ | refine sto (by (repeat constructor); first | done | fail) (by first | omega | (simp only; omega)) ?_); conv => whnf))
 intro b6
 conv => whnf
 (repeat ((first | refine stp (by (repeat constructor); first | done | fail) ?_ | refine stn (by (repeat constructor); first | done | fail) ?_ | refine sto (by (repeat constructor); first | done | fail) (by first | omega | (simp only; omega)) ?_); conv => whnf))
 generalize hf : lettersL a.kind = f
 have hfl : f.length ≤ 16 := by rw [← hf]; exact Nat.le_trans (cutF_len _).2 (formL_len _)
 have hfs := Str.size f
 refine lp tab_ok (γ := Nat × Option Addr × Nat) (fun g => g.1 ≤ f.length ∧ (((onlyX (f.take g.1) a (nilAct a.kind)).bytes = a.bytes ∧ g.2.1 = bA ∧ g.2.2 = bc) ∨ ((onlyX (f.take g.1) a (nilAct a.kind)).bytes = [] ∧ g.2.1 = none ∧ g.2.2 = 0)))
  (fun g => [(8, .int .i64 g.1), (5, .string (Str f)), (7, .bool (onlyOk (f.take g.1) a)), (1, .pointer (some ⟨b1, 0, none⟩)), (6, .pointer (some ⟨b6, 0, none⟩)), (2, .pointer (some ⟨b2, 0, none⟩))])
  (fun g => [.blk b6 (.cells (actL (onlyX (f.take g.1) a (nilAct a.kind)) g.2.1 g.2.2 none 0).toArray 29), .blk b2 (.cells (actL (nilAct 0) none 0 none 0).toArray 29), .blk b1 (.cells (actL a bA bc pA pc).toArray 29)]) (fun g => f.length - g.1) (0, none, 0) ⟨by simp, .inr ⟨rfl, rfl, rfl⟩⟩ ⟨rfl, by rw [← hf]; rfl, rfl, rfl, rfl, rfl, trivial⟩ (SubM.refl _ _) ?_
 rintro ⟨i, xA, xc⟩ ⟨hi, hx⟩
 simp only at hi hx
 change XC _ _ _ [(8, .int .i64 (i : Int)), (5, .string (Str f)), (7, .bool (onlyOk (f.take i) a)), (1, .pointer (some ⟨b1, 0, none⟩)), (6, .pointer (some ⟨b6, 0, none⟩)), (2, .pointer (some ⟨b2, 0, none⟩))] [.blk b6 (.cells (actL (onlyX (f.take i) a (nilAct a.kind)) xA xc none 0).toArray 29), .blk b2 (.cells (actL (nilAct 0) none 0 none 0).toArray 29), .blk b1 (.cells (actL a bA bc pA pc).toArray 29)]
 generalize hX : onlyX (f.take i) a (nilAct a.kind) = x at hx ⊢
 generalize hO : onlyOk (f.take i) a = ok
 conv => whnf
 (repeat ((first | refine stp (by (repeat constructor); first | done | fail) ?_ | refine stn (by (repeat constructor); first | done | fail) ?_ | refine sto (by (repeat constructor); first | done | fail) (by first | omega | (simp only; omega)) ?_); conv => whnf))
 refine br_d (fun hlt => ?_) (fun hge => ?_)
 ·have hX' := fold_take (fun x c => takeL1 c a x) f 0 i (nilAct a.kind) (by omega)
  have hO' := all_take (fun c => okL1 c a) f 0 i (by omega)
  change onlyX (f.take (i + 1)) a (nilAct a.kind) = takeL1 (f.getD i 0) a (onlyX (f.take i) a (nilAct a.kind)) at hX'
  change onlyOk (f.take (i + 1)) a = (onlyOk (f.take i) a && okL1 (f.getD i 0) a) at hO'
  rw [hX] at hX'
  rw [hO] at hO'
  have hby : ∀ c : UInt8, byteAt (Str f) (i : Int).toNat = (c.toNat : Int) → f.getD i 0 = c := fun c h => u8_of_int h
  have hnb : ∀ c : UInt8, ¬ byteAt (Str f) (i : Int).toNat = (c.toNat : Int) → f.getD i 0 ≠ c := fun c h hc => h (by rw [Str.get, Int.toNat_natCast, hc])
  conv => whnf
  (repeat ((first | refine stp (by (repeat constructor); first | done | fail) ?_ | refine stn (by (repeat constructor); first | done | fail) ?_ | refine sto (by (repeat constructor); first | done | fail) (by first | omega | (simp only; omega)) ?_); conv => whnf))
  refine br_d (fun h1 => ?_) (fun h1 => ?_)
  ·have hc := hby 97 h1
   rw [hc] at hX' hO'
   conv => whnf
   (repeat ((first | refine stp (by (repeat constructor); first | done | fail) ?_ | refine stn (by (repeat constructor); first | done | fail) ?_ | refine sto (by (repeat constructor); first | done | fail) (by first | omega | (simp only; omega)) ?_); conv => whnf))
   refine br (fun hk => ?_) (fun hk => ?_) <;> subst hk
   ·conv => whnf
    (repeat ((first | refine stp (by (repeat constructor); first | done | fail) ?_ | refine stn (by (repeat constructor); first | done | fail) ?_ | refine sto (by (repeat constructor); first | done | fail) (by first | omega | (simp only; omega)) ?_); conv => whnf))
    refine ⟨name_enters, cl_same _ (fun w' _ => name_any _ w' ha.name) ?_⟩
    conv => whnf
    (repeat ((first | refine stp (by (repeat constructor); first | done | fail) ?_ | refine stn (by (repeat constructor); first | done | fail) ?_ | refine sto (by (repeat constructor); first | done | fail) (by first | omega | (simp only; omega)) ?_); conv => whnf))
    exact ⟨(i + 1, xA, xc), ⟨by simp; omega, by rw [hX']; exact hx⟩, by simp; omega, ⟨rfl, rfl, by rw [hO']; rfl, rfl, rfl, rfl, trivial⟩, by rw [hX']; exact SubM.refl _ _⟩
   ·conv => whnf
    (repeat ((first | refine stp (by (repeat constructor); first | done | fail) ?_ | refine stn (by (repeat constructor); first | done | fail) ?_ | refine sto (by (repeat constructor); first | done | fail) (by first | omega | (simp only; omega)) ?_); conv => whnf))
    exact ⟨(i + 1, xA, xc), ⟨by simp; omega, by rw [hX']; exact hx⟩, by simp; omega, ⟨rfl, rfl, by rw [hO']; rfl, rfl, rfl, rfl, trivial⟩, by rw [hX']; exact SubM.refl _ _⟩
  ·have n1 := hnb 97 h1
   conv => whnf
   (repeat ((first | refine stp (by (repeat constructor); first | done | fail) ?_ | refine stn (by (repeat constructor); first | done | fail) ?_ | refine sto (by (repeat constructor); first | done | fail) (by first | omega | (simp only; omega)) ?_); conv => whnf))
   refine br_d (fun h2 => ?_) (fun h2 => ?_)
   ·have hc := hby 111 h2
    rw [hc] at hX' hO'
    conv => whnf
    refine br_t (decide_eq_true h2) ?_
    conv => whnf
    (repeat ((first | refine stp (by (repeat constructor); first | done | fail) ?_ | refine stn (by (repeat constructor); first | done | fail) ?_ | refine sto (by (repeat constructor); first | done | fail) (by first | omega | (simp only; omega)) ?_); conv => whnf))
    refine br (fun hk => ?_) (fun hk => ?_) <;> subst hk
    ·conv => whnf
     (repeat ((first | refine stp (by (repeat constructor); first | done | fail) ?_ | refine stn (by (repeat constructor); first | done | fail) ?_ | refine sto (by (repeat constructor); first | done | fail) (by first | omega | (simp only; omega)) ?_); conv => whnf))
     refine ⟨name_enters, cl_same _ (fun w' _ => name_any _ w' ha.other) ?_⟩
     conv => whnf
     (repeat ((first | refine stp (by (repeat constructor); first | done | fail) ?_ | refine stn (by (repeat constructor); first | done | fail) ?_ | refine sto (by (repeat constructor); first | done | fail) (by first | omega | (simp only; omega)) ?_); conv => whnf))
     have hv : okL1 111 a = (nameB a.other || (decide ((111 : UInt8) = 79) && decide (a.other = Str []))) := rfl
     rw [hv] at hO'
     refine br (fun hk => ?_) (fun hk => ?_)
     ·rw [hk] at hO'
      conv => whnf
      (repeat ((first | refine stp (by (repeat constructor); first | done | fail) ?_ | refine stn (by (repeat constructor); first | done | fail) ?_ | refine sto (by (repeat constructor); first | done | fail) (by first | omega | (simp only; omega)) ?_); conv => whnf))
      exact ⟨(i + 1, xA, xc), ⟨by simp; omega, by rw [hX']; exact hx⟩, by simp; omega, ⟨rfl, rfl, by rw [hO']; exact congrArg (fun b => some (Value.bool b)) (rfl), rfl, rfl, rfl, trivial⟩, by rw [hX']; exact SubM.refl _ _⟩
     ·rw [hk] at hO'
      conv => whnf
      (repeat ((first | refine stp (by (repeat constructor); first | done | fail) ?_ | refine stn (by (repeat constructor); first | done | fail) ?_ | refine sto (by (repeat constructor); first | done | fail) (by first | omega | (simp only; omega)) ?_); conv => whnf))
      refine br (fun hk2 => ?_) (fun hk2 => ?_)
      ·exact absurd (h2.symm.trans (of_decide_eq_true hk2)) (by decide)
      ·conv => whnf
       (repeat ((first | refine stp (by (repeat constructor); first | done | fail) ?_ | refine stn (by (repeat constructor); first | done | fail) ?_ | refine sto (by (repeat constructor); first | done | fail) (by first | omega | (simp only; omega)) ?_); conv => whnf))
       exact ⟨(i + 1, xA, xc), ⟨by simp; omega, by rw [hX']; exact hx⟩, by simp; omega, ⟨rfl, rfl, by rw [hO']; exact congrArg (fun b => some (Value.bool b)) (rfl), rfl, rfl, rfl, trivial⟩, by rw [hX']; exact SubM.refl _ _⟩
    ·conv => whnf
     (repeat ((first | refine stp (by (repeat constructor); first | done | fail) ?_ | refine stn (by (repeat constructor); first | done | fail) ?_ | refine sto (by (repeat constructor); first | done | fail) (by first | omega | (simp only; omega)) ?_); conv => whnf))
     exact ⟨(i + 1, xA, xc), ⟨by simp; omega, by rw [hX']; exact hx⟩, by simp; omega, ⟨rfl, rfl, by rw [hO']; exact congrArg (fun b => some (Value.bool b)) (rfl), rfl, rfl, rfl, trivial⟩, by rw [hX']; exact SubM.refl _ _⟩
   ·have n2 := hnb 111 h2
    conv => whnf
    (repeat ((first | refine stp (by (repeat constructor); first | done | fail) ?_ | refine stn (by (repeat constructor); first | done | fail) ?_ | refine sto (by (repeat constructor); first | done | fail) (by first | omega | (simp only; omega)) ?_); conv => whnf))
    refine br_d (fun h3 => ?_) (fun h3 => ?_)
    ·have hc := hby 79 h3
     rw [hc] at hX' hO'
     conv => whnf
     (repeat ((first | refine stp (by (repeat constructor); first | done | fail) ?_ | refine stn (by (repeat constructor); first | done | fail) ?_ | refine sto (by (repeat constructor); first | done | fail) (by first | omega | (simp only; omega)) ?_); conv => whnf))
     refine br (fun hk => ?_) (fun hk => ?_) <;> subst hk
     ·conv => whnf
      (repeat ((first | refine stp (by (repeat constructor); first | done | fail) ?_ | refine stn (by (repeat constructor); first | done | fail) ?_ | refine sto (by (repeat constructor); first | done | fail) (by first | omega | (simp only; omega)) ?_); conv => whnf))
      refine ⟨name_enters, cl_same _ (fun w' _ => name_any _ w' ha.other) ?_⟩
      conv => whnf
      (repeat ((first | refine stp (by (repeat constructor); first | done | fail) ?_ | refine stn (by (repeat constructor); first | done | fail) ?_ | refine sto (by (repeat constructor); first | done | fail) (by first | omega | (simp only; omega)) ?_); conv => whnf))
      have hv : okL1 79 a = (nameB a.other || (decide ((79 : UInt8) = 79) && decide (a.other = Str []))) := rfl
      rw [hv] at hO'
      refine br (fun hk => ?_) (fun hk => ?_)
      ·rw [hk] at hO'
       conv => whnf
       (repeat ((first | refine stp (by (repeat constructor); first | done | fail) ?_ | refine stn (by (repeat constructor); first | done | fail) ?_ | refine sto (by (repeat constructor); first | done | fail) (by first | omega | (simp only; omega)) ?_); conv => whnf))
       exact ⟨(i + 1, xA, xc), ⟨by simp; omega, by rw [hX']; exact hx⟩, by simp; omega, ⟨rfl, rfl, by rw [hO']; exact congrArg (fun b => some (Value.bool b)) (rfl), rfl, rfl, rfl, trivial⟩, by rw [hX']; exact SubM.refl _ _⟩
      ·rw [hk] at hO'
       conv => whnf
       (repeat ((first | refine stp (by (repeat constructor); first | done | fail) ?_ | refine stn (by (repeat constructor); first | done | fail) ?_ | refine sto (by (repeat constructor); first | done | fail) (by first | omega | (simp only; omega)) ?_); conv => whnf))
       refine br (fun hk2 => ?_) (fun hk2 => ?_)
       ·conv => whnf
        (repeat ((first | refine stp (by (repeat constructor); first | done | fail) ?_ | refine stn (by (repeat constructor); first | done | fail) ?_ | refine sto (by (repeat constructor); first | done | fail) (by first | omega | (simp only; omega)) ?_); conv => whnf))
        exact ⟨(i + 1, xA, xc), ⟨by simp; omega, by rw [hX']; exact hx⟩, by simp; omega, ⟨rfl, rfl, by rw [hO']; exact congrArg (fun b => some (Value.bool b)) (rfl), rfl, rfl, rfl, trivial⟩, by rw [hX']; exact SubM.refl _ _⟩
       ·exact absurd h3 (of_decide_eq_false hk2)
     ·conv => whnf
      (repeat ((first | refine stp (by (repeat constructor); first | done | fail) ?_ | refine stn (by (repeat constructor); first | done | fail) ?_ | refine sto (by (repeat constructor); first | done | fail) (by first | omega | (simp only; omega)) ?_); conv => whnf))
      exact ⟨(i + 1, xA, xc), ⟨by simp; omega, by rw [hX']; exact hx⟩, by simp; omega, ⟨rfl, rfl, by rw [hO']; exact congrArg (fun b => some (Value.bool b)) (rfl), rfl, rfl, rfl, trivial⟩, by rw [hX']; exact SubM.refl _ _⟩
    ·have n3 := hnb 79 h3
     conv => whnf
     (repeat ((first | refine stp (by (repeat constructor); first | done | fail) ?_ | refine stn (by (repeat constructor); first | done | fail) ?_ | refine sto (by (repeat constructor); first | done | fail) (by first | omega | (simp only; omega)) ?_); conv => whnf))
     refine br_d (fun h4 => ?_) (fun h4 => ?_)
     ·have hc := hby 116 h4
      rw [hc] at hX' hO'
      conv => whnf
      (repeat ((first | refine stp (by (repeat constructor); first | done | fail) ?_ | refine stn (by (repeat constructor); first | done | fail) ?_ | refine sto (by (repeat constructor); first | done | fail) (by first | omega | (simp only; omega)) ?_); conv => whnf))
      refine br (fun hk => ?_) (fun hk => ?_) <;> subst hk
      ·conv => whnf
       (repeat ((first | refine stp (by (repeat constructor); first | done | fail) ?_ | refine stn (by (repeat constructor); first | done | fail) ?_ | refine sto (by (repeat constructor); first | done | fail) (by first | omega | (simp only; omega)) ?_); conv => whnf))
       refine ⟨name_enters, cl_same _ (fun w' _ => name_any _ w' ha.third) ?_⟩
       conv => whnf
       (repeat ((first | refine stp (by (repeat constructor); first | done | fail) ?_ | refine stn (by (repeat constructor); first | done | fail) ?_ | refine sto (by (repeat constructor); first | done | fail) (by first | omega | (simp only; omega)) ?_); conv => whnf))
       exact ⟨(i + 1, xA, xc), ⟨by simp; omega, by rw [hX']; exact hx⟩, by simp; omega, ⟨rfl, rfl, by rw [hO']; exact congrArg (fun b => some (Value.bool b)) (rfl), rfl, rfl, rfl, trivial⟩, by rw [hX']; exact SubM.refl _ _⟩
      ·conv => whnf
       (repeat ((first | refine stp (by (repeat constructor); first | done | fail) ?_ | refine stn (by (repeat constructor); first | done | fail) ?_ | refine sto (by (repeat constructor); first | done | fail) (by first | omega | (simp only; omega)) ?_); conv => whnf))
       exact ⟨(i + 1, xA, xc), ⟨by simp; omega, by rw [hX']; exact hx⟩, by simp; omega, ⟨rfl, rfl, by rw [hO']; exact congrArg (fun b => some (Value.bool b)) (rfl), rfl, rfl, rfl, trivial⟩, by rw [hX']; exact SubM.refl _ _⟩
     ·have n4 := hnb 116 h4
      conv => whnf
      (repeat ((first | refine stp (by (repeat constructor); first | done | fail) ?_ | refine stn (by (repeat constructor); first | done | fail) ?_ | refine sto (by (repeat constructor); first | done | fail) (by first | omega | (simp only; omega)) ?_); conv => whnf))
      refine br_d (fun h5 => ?_) (fun h5 => ?_)
      ·have hc := hby 65 h5
       rw [hc] at hX' hO'
       conv => whnf
       (repeat ((first | refine stp (by (repeat constructor); first | done | fail) ?_ | refine stn (by (repeat constructor); first | done | fail) ?_ | refine sto (by (repeat constructor); first | done | fail) (by first | omega | (simp only; omega)) ?_); conv => whnf))
       exact ⟨(i + 1, xA, xc), ⟨by simp; omega, by rw [hX']; exact hx⟩, by simp; omega, ⟨rfl, rfl, by rw [hO']; exact congrArg (fun b => some (Value.bool b)) ((Bool.and_true _).symm), rfl, rfl, rfl, trivial⟩, by rw [hX']; exact SubM.refl _ _⟩
      ·have n5 := hnb 65 h5
       conv => whnf
       (repeat ((first | refine stp (by (repeat constructor); first | done | fail) ?_ | refine stn (by (repeat constructor); first | done | fail) ?_ | refine sto (by (repeat constructor); first | done | fail) (by first | omega | (simp only; omega)) ?_); conv => whnf))
       refine br_d (fun h6 => ?_) (fun h6 => ?_)
       ·have hc := hby 78 h6
        rw [hc] at hX' hO'
        conv => whnf
        (repeat ((first | refine stp (by (repeat constructor); first | done | fail) ?_ | refine stn (by (repeat constructor); first | done | fail) ?_ | refine sto (by (repeat constructor); first | done | fail) (by first | omega | (simp only; omega)) ?_); conv => whnf))
        exact ⟨(i + 1, xA, xc), ⟨by simp; omega, by rw [hX']; exact hx⟩, by simp; omega, ⟨rfl, rfl, by rw [hO']; exact congrArg (fun b => some (Value.bool b)) ((Bool.and_true _).symm), rfl, rfl, rfl, trivial⟩, by rw [hX']; exact SubM.refl _ _⟩
       ·have n6 := hnb 78 h6
        conv => whnf
        (repeat ((first | refine stp (by (repeat constructor); first | done | fail) ?_ | refine stn (by (repeat constructor); first | done | fail) ?_ | refine sto (by (repeat constructor); first | done | fail) (by first | omega | (simp only; omega)) ?_); conv => whnf))
        refine br_d (fun h7 => ?_) (fun h7 => ?_)
        ·have hc := hby 66 h7
         rw [hc] at hX' hO'
         conv => whnf
         (repeat ((first | refine stp (by (repeat constructor); first | done | fail) ?_ | refine stn (by (repeat constructor); first | done | fail) ?_ | refine sto (by (repeat constructor); first | done | fail) (by first | omega | (simp only; omega)) ?_); conv => whnf))
         exact ⟨(i + 1, xA, xc), ⟨by simp; omega, by rw [hX']; exact hx⟩, by simp; omega, ⟨rfl, rfl, by rw [hO']; exact congrArg (fun b => some (Value.bool b)) ((Bool.and_true _).symm), rfl, rfl, rfl, trivial⟩, by rw [hX']; exact SubM.refl _ _⟩
        ·have n7 := hnb 66 h7
         conv => whnf
         (repeat ((first | refine stp (by (repeat constructor); first | done | fail) ?_ | refine stn (by (repeat constructor); first | done | fail) ?_ | refine sto (by (repeat constructor); first | done | fail) (by first | omega | (simp only; omega)) ?_); conv => whnf))
         refine br_d (fun h8 => ?_) (fun h8 => ?_)
         ·have hc := hby 82 h8
          rw [hc] at hX' hO'
          conv => whnf
          (repeat ((first | refine stp (by (repeat constructor); first | done | fail) ?_ | refine stn (by (repeat constructor); first | done | fail) ?_ | refine sto (by (repeat constructor); first | done | fail) (by first | omega | (simp only; omega)) ?_); conv => whnf))
          exact ⟨(i + 1, xA, xc), ⟨by simp; omega, by rw [hX']; exact hx⟩, by simp; omega, ⟨rfl, rfl, by rw [hO']; exact congrArg (fun b => some (Value.bool b)) ((Bool.and_true _).symm), rfl, rfl, rfl, trivial⟩, by rw [hX']; exact SubM.refl _ _⟩
         ·have n8 := hnb 82 h8
          conv => whnf
          (repeat ((first | refine stp (by (repeat constructor); first | done | fail) ?_ | refine stn (by (repeat constructor); first | done | fail) ?_ | refine sto (by (repeat constructor); first | done | fail) (by first | omega | (simp only; omega)) ?_); conv => whnf))
          refine br_d (fun h9 => ?_) (fun h9 => ?_)
          ·have hc := hby 120 h9
           rw [hc] at hX' hO'
           conv => whnf
           (repeat ((first | refine stp (by (repeat constructor); first | done | fail) ?_ | refine stn (by (repeat constructor); first | done | fail) ?_ | refine sto (by (repeat constructor); first | done | fail) (by first | omega | (simp only; omega)) ?_); conv => whnf))
           exact ⟨(i + 1, bA, bc), ⟨by simp; omega, by rw [hX']; exact .inl ⟨rfl, rfl, rfl⟩⟩, by simp; omega, ⟨rfl, rfl, by rw [hO']; exact congrArg (fun b => some (Value.bool b)) ((Bool.and_true _).symm), rfl, rfl, rfl, trivial⟩, by rw [hX']; exact SubM.refl _ _⟩
          ·have n9 := hnb 120 h9
           have hx2 : takeL1 (f.getD i 0) a x = { x with on := a.on } := by
            unfold takeL1
            rw [if_neg n1, if_neg (fun h => h.elim n2 n3), if_neg n4, if_neg n5, if_neg n6, if_neg n7, if_neg n8, if_neg n9]
           have ho2 : okL1 (f.getD i 0) a = true := by
            unfold okL1
            rw [if_neg n1, if_neg (fun h => h.elim n2 n3), if_neg n4]
           rw [hx2] at hX'
           rw [ho2] at hO'
           conv => whnf
           (repeat ((first | refine stp (by (repeat constructor); first | done | fail) ?_ | refine stn (by (repeat constructor); first | done | fail) ?_ | refine sto (by (repeat constructor); first | done | fail) (by first | omega | (simp only; omega)) ?_); conv => whnf))
           exact ⟨(i + 1, xA, xc), ⟨by simp; omega, by rw [hX']; exact hx⟩, by simp; omega, ⟨rfl, rfl, by rw [hO']; exact congrArg (fun b => some (Value.bool b)) ((Bool.and_true _).symm), rfl, rfl, rfl, trivial⟩, by rw [hX']; exact SubM.refl _ _⟩
 ·have hfi : f.take i = f := List.take_of_length_le (by omega)
  rw [hfi] at hX hO
  conv => whnf
  (repeat ((first | refine stp (by (repeat constructor); first | done | fail) ?_ | refine stn (by (repeat constructor); first | done | fail) ?_ | refine sto (by (repeat constructor); first | done | fail) (by first | omega | (simp only; omega)) ?_); conv => whnf))
  refine finC2 rfl rfl (ldN tab_ok (by (repeat constructor); first | done | fail) rfl rfl rfl rfl) rfl (fun w' hm => ⟨xA, xc, ?_, ?_, hm.fr⟩)
  ·rw [hX]; exact hx.imp id (fun h => h.1)
  ·rw [hX, hO]; rfl
end Go.Proofs.YtbfbjgakmnckbaaGreatDoor
namespace Go.Proofs.YtbfbjgakmnckbaaGreatDoor
open Go Go.RowKit Eng
attribute [local irreducible] Br Rn RnU Cl RdG CpG Ld Rd Lp Dr Oth Cut fin Fits Eng.Enters Md NA

set_option maxRecDepth 100000 in
set_option maxHeartbeats 1000000 in
theorem rsame_any (a b : PAct) (bA bA' pA pA' : Option Addr) (bc bc' pc pc' : Nat) (w : World) (ha : ActIn w a bA pA) (hb : ActIn w b bA' pA') : 
  Calls Tryz.prog 16 #[.agg (actL a bA bc pA pc).toArray, .agg (actL b bA' bc' pA' pc').toArray] w fun e w' => e = .returned (.bool (sameB a b)) ∧ Fr (fun _ => False) w w' := by
 refine enter (cx := CX 110 [] w) [(0, .agg (actL a bA bc pA pc).toArray), (1, .agg (actL b bA' bc' pA' pc').toArray)] tab_ok Tryz.func16 rfl rfl rfl rfl (MemOk.nil w _) ?_
 have h1 := fun m => BytsIn.byts (cx := CX 110 [] w) (m := m) ha.bytes (fun _ h => h)
 have h2 := fun m => BytsIn.byts (cx := CX 110 [] w) (m := m) hb.bytes (fun _ h => h)
 have h3 := fun m => IntsIn.ints (cx := CX 110 [] w) (m := m) ha.picks (fun _ h => h)
 have h4 := fun m => IntsIn.ints (cx := CX 110 [] w) (m := m) hb.picks (fun _ h => h)
 have hlen := ha.ok.picks
 clear ha hb
 conv => whnf
 intro b1
 conv => whnf
 intro b2
 conv => whnf
 (repeat ((first | refine stp (by (repeat constructor); first | done | fail) ?_ | refine stn (by (repeat constructor); first | done | fail) ?_ | refine sto (by (repeat constructor); first | done | fail) (by first | omega | (simp only; omega)) ?_); conv => whnf))
 refine ⟨_, Rd.g (rd_byts tab_ok rfl rfl rfl rfl rfl rfl (h1 _) _), ?_⟩
 conv => whnf
 (repeat ((first | refine stp (by (repeat constructor); first | done | fail) ?_ | refine stn (by (repeat constructor); first | done | fail) ?_ | refine sto (by (repeat constructor); first | done | fail) (by first | omega | (simp only; omega)) ?_); conv => whnf))
 refine ⟨_, Rd.g (rd_byts tab_ok rfl rfl rfl rfl rfl rfl (h2 _) _), ?_⟩
 conv => whnf
 (repeat ((first | refine stp (by (repeat constructor); first | done | fail) ?_ | refine stn (by (repeat constructor); first | done | fail) ?_ | refine sto (by (repeat constructor); first | done | fail) (by first | omega | (simp only; omega)) ?_); conv => whnf))
 refine ⟨_, Rd.g (rd_all fun w => fate_neqS _ _ _ _ _ _ w), ?_⟩
 conv => whnf
 (repeat ((first | refine stp (by (repeat constructor); first | done | fail) ?_ | refine stn (by (repeat constructor); first | done | fail) ?_ | refine sto (by (repeat constructor); first | done | fail) (by first | omega | (simp only; omega)) ?_); conv => whnf))
 refine br (fun hb => ?_) (fun hb => ?_)
 ·conv => whnf
  refine fin1 rfl rfl (fun w' hm => ⟨ret_bool (sameB_f ?_).symm, hm.fr⟩)
  rintro rfl
  simp at hb
 ·conv => whnf
  refine lp tab_ok (γ := Nat) (fun i => i ≤ a.picks.length ∧ ∀ j, j < i → a.picks.getD j 0 = b.picks.getD j 0) (fun i => [(5, .int .i64 i), (2, .pointer (some ⟨b1, 0, none⟩)), (3, .pointer (some ⟨b2, 0, none⟩))]) (fun _ => _) (fun i => a.picks.length - i) 0 ⟨by omega, fun j h => by omega⟩ ⟨rfl, rfl, rfl, trivial⟩ (SubM.refl _ _) ?_
  rintro i ⟨hi, hj⟩
  conv => whnf
  (repeat ((first | refine stp (by (repeat constructor); first | done | fail) ?_ | refine stn (by (repeat constructor); first | done | fail) ?_ | refine sto (by (repeat constructor); first | done | fail) (by first | omega | (simp only; omega)) ?_); conv => whnf))
  simp only [Bool.or_eq_false_iff, Bool.not_eq_false', decide_eq_true_eq, Bool.and_eq_true, beq_iff_eq] at hb
  obtain ⟨⟨⟨⟨⟨⟨⟨⟨⟨⟨⟨q1, q2⟩, q3⟩, q4⟩, q5⟩, q6⟩, q7⟩, q8⟩, q9⟩, q10⟩, q11, q12⟩, q13⟩ := hb
  refine br_d (fun hlt => ?_) (fun hge => ?_)
  ·conv => whnf
   refine dr_quiet tab_ok mixed (by kernel_rfl) rfl ?_; conv => whnf
   (repeat ((first | refine stp (by (repeat constructor); first | done | fail) ?_ | refine stn (by (repeat constructor); first | done | fail) ?_ | refine sto (by (repeat constructor); first | done | fail) (by first | omega | (simp only; omega)) ?_); conv => whnf))
   refine ⟨⟨by omega, hlt, (h3 []).plain (by omega)⟩, ?_⟩
   conv => whnf
   refine ⟨_, ((h3 _).ld tab_ok rfl rfl (j := i) (by omega)).g, ?_⟩
   conv => whnf
   (repeat ((first | refine stp (by (repeat constructor); first | done | fail) ?_ | refine stn (by (repeat constructor); first | done | fail) ?_ | refine sto (by (repeat constructor); first | done | fail) (by first | omega | (simp only; omega)) ?_); conv => whnf))
   refine ⟨⟨by omega, by omega, (h4 []).plain (by omega)⟩, ?_⟩
   conv => whnf
   refine ⟨_, ((h4 _).ld tab_ok rfl rfl (j := i) (by omega)).g, ?_⟩
   conv => whnf
   refine br_n (br_d (fun heq => ?_) (fun hne => ?_))
   ·conv => whnf
    (repeat ((first | refine stp (by (repeat constructor); first | done | fail) ?_ | refine stn (by (repeat constructor); first | done | fail) ?_ | refine sto (by (repeat constructor); first | done | fail) (by first | omega | (simp only; omega)) ?_); conv => whnf))
    exact ⟨i + 1, ⟨by omega, fun j hj' => (Nat.lt_succ_iff_lt_or_eq.1 hj').elim (hj j) (fun e => e ▸ heq)⟩, by omega, ⟨rfl, rfl, rfl, trivial⟩, SubM.refl _ _⟩
   ·conv => whnf
    refine fin1 rfl rfl (fun w' hm => ⟨ret_bool (sameB_f ?_).symm, hm.fr⟩)
    rintro rfl
    exact hne rfl
  ·conv => whnf
   refine fin1 rfl rfl (fun w' hm => ⟨ret_bool ((sameB_iff a b).2 ?_).symm, hm.fr⟩)
   have hp := list_eq_getD (xs := a.picks) (ys := b.picks) (by omega) (fun j h => hj j (by omega))
   have hbb : a.bytes = b.bytes := by simpa using q7
   cases a; cases b
   simp only at *
   subst q1 q2 q3 q4 q5 q6 q8 q9 q10 q11 q12 hp hbb
   rfl
end Go.Proofs.YtbfbjgakmnckbaaGreatDoor
namespace Go.Proofs.YtbfbjgakmnckbaaGreatDoor
open Go Go.RowKit Eng
attribute [local irreducible] Br Rn RnU Cl RdG CpG Ld Rd Lp Dr Oth Cut fin Fits Eng.Enters Md NA

theorem takeL1_ok {a x : PAct} (c : UInt8) (ha : a.Ok) (hx : x.Ok) : (takeL1 c a x).Ok := by
 unfold takeL1
 split
 ·exact { hx with name := ha.name }
 split
 ·exact { hx with other := ha.other }
 split
 ·exact { hx with third := ha.third }
 split
 ·exact { hx with at_ := ha.at_ }
 split
 ·exact { hx with n := ha.n }
 split
 ·exact { hx with bits := ha.bits }
 split
 ·exact { hx with order := ha.order }
 split
 ·exact { hx with bytes := ha.bytes }
 ·exact { hx with kind := hx.kind }
theorem onlyX_ok {a : PAct} (ha : a.Ok) : ∀ (f : List UInt8) (x : PAct), x.Ok → (onlyX f a x).Ok
 | [], _, hx => hx
 | c :: f, x, hx => onlyX_ok ha f (takeL1 c a x) (takeL1_ok c ha hx)
theorem takeL1_picks (c : UInt8) (a x : PAct) : (takeL1 c a x).picks = x.picks := by
 unfold takeL1
 repeat (first | rfl | split)
theorem onlyX_picks (a : PAct) : ∀ (f : List UInt8) (x : PAct), (onlyX f a x).picks = x.picks
 | [], _ => rfl
 | c :: f, x => (onlyX_picks a f (takeL1 c a x)).trans (takeL1_picks c a x)
theorem BytsIn.nil (w : World) (p : Option Addr) : BytsIn w p [] := fun h => absurd h (by simp [numsOf])
theorem IntsIn.nil (k : IntKind) (w : World) (p : Option Addr) : IntsIn k w p [] := fun h => absurd h (by simp)
theorem nilAct_ok {k : Int} (h : -9223372036854775808 ≤ k ∧ k ≤ 9223372036854775807) : (nilAct k).Ok where
 kind := h
 at_ := by show (-9223372036854775808 : Int) ≤ 0 ∧ (0 : Int) ≤ 9223372036854775807; omega
 n := by show (-9223372036854775808 : Int) ≤ 0 ∧ (0 : Int) ≤ 9223372036854775807; omega
 bits := by show (-9223372036854775808 : Int) ≤ 0 ∧ (0 : Int) ≤ 9223372036854775807; omega
 order := by show (-9223372036854775808 : Int) ≤ 0 ∧ (0 : Int) ≤ 9223372036854775807; omega
 fk := by show (-9223372036854775808 : Int) ≤ 0 ∧ (0 : Int) ≤ 9223372036854775807; omega
 keep := by show (-9223372036854775808 : Int) ≤ 0 ∧ (0 : Int) ≤ 9223372036854775807; omega
 picksR := fun x hx => by cases hx
 name := by show 0 ≤ _; omega
 other := by show 0 ≤ _; omega
 third := by show 0 ≤ _; omega
 bytes := by show 0 ≤ _; omega
 picks := by show 0 ≤ _; omega
/-- The act with what its kind names, and no more. -/
def fullX (a : PAct) : PAct :=
 let x := onlyX (lettersL a.kind) a (nilAct a.kind)
 let y := if a.kind = 24 then { x with fk := a.fk, keep := a.keep } else x
 if a.kind = 25 then { y with picks := a.picks } else y
theorem fullX_ok {a : PAct} (ha : a.Ok) : (fullX a).Ok := by
 have hx := onlyX_ok ha (lettersL a.kind) (nilAct a.kind) (nilAct_ok ha.kind)
 have hy : (if a.kind = 24 then { onlyX (lettersL a.kind) a (nilAct a.kind) with fk := a.fk, keep := a.keep } else onlyX (lettersL a.kind) a (nilAct a.kind) : PAct).Ok := by
  split
  ·exact { hx with fk := ha.fk, keep := ha.keep }
  ·exact hx
 unfold fullX
 simp only
 split
 ·exact { hy with picksR := ha.picksR, picks := ha.picks }
 ·exact hy
/-- May the act be? -/
def bad1 (a : PAct) : Bool :=
 decide (Str (formL a.kind) = Str []) || decide ((524288 : Int) < a.bytes.length) || decide ((65536 : Int) < a.picks.length) || decide (a.fk < 0) || decide (2 < a.fk)
def badB (a : PAct) : Bool := bad1 a || (decide (a.fk = 0) && !decide (a.keep = 0))
def mayB (a : PAct) : Bool := !badB a && (onlyOk (lettersL a.kind) a && sameB (fullX a) a)
theorem only_enters : Eng.Enters Tryz.prog 48 := enters_mk fun _ _ => by kernel_rfl
theorem same_enters : Eng.Enters Tryz.prog 16 := enters_mk fun _ _ => by kernel_rfl

set_option maxRecDepth 100000 in
set_option maxHeartbeats 1000000 in
theorem may_any (a : PAct) (bA pA : Option Addr) (bc pc : Nat) (w : World) (ha : ActIn w a bA pA) :
  Calls Tryz.prog 18 #[.agg (actL a bA bc pA pc).toArray] w fun e w' => e = .returned (.bool (mayB a)) ∧ Fr (fun _ => False) w w' := by
 refine enter (cx := CXc 68 [] [1] w) [(0, .agg (actL a bA bc pA pc).toArray)] tab_ok Tryz.func18 rfl rfl rfl rfl (MemOk.nil w _) ?_
 have h1 := fun st m => BytsIn.byts (cx := CXc 68 [] st w) (m := m) ha.bytes (fun _ h => h)
 have h3 := fun st m => IntsIn.ints (cx := CXc 68 [] st w) (m := m) ha.picks (fun _ h => h)
 have hok := ha.ok
 clear ha
 conv => whnf
 intro b1
 conv => whnf
 refine cut (γ := Unit) [] [4] tab_ok (fun _ => badB a = false) (fun _ => [(1, .pointer (some ⟨b1, 0, none⟩))]) (fun _ => [.blk b1 (.cells (actL a bA bc pA pc).toArray 29)]) ?_ ?_
 ·have fT : badB a = true → mayB a = false := fun h => by simp only [mayB, h, Bool.not_true, Bool.false_and]
  conv => whnf
  (repeat ((first | refine stp (by (repeat constructor); first | done | fail) ?_ | refine stn (by (repeat constructor); first | done | fail) ?_ | refine sto (by (repeat constructor); first | done | fail) (by first | omega | (simp only; omega)) ?_); conv => whnf))
  refine ⟨form_enters, cl_same _ (fun w' _ => form_any _ w') ?_⟩
  conv => whnf
  (repeat ((first | refine stp (by (repeat constructor); first | done | fail) ?_ | refine stn (by (repeat constructor); first | done | fail) ?_ | refine sto (by (repeat constructor); first | done | fail) (by first | omega | (simp only; omega)) ?_); conv => whnf))
  refine br (fun hb => ?_) (fun hb => ?_)
  ·have hb1 : bad1 a = true := hb
   conv => whnf
   (repeat ((first | refine stp (by (repeat constructor); first | done | fail) ?_ | refine stn (by (repeat constructor); first | done | fail) ?_ | refine sto (by (repeat constructor); first | done | fail) (by first | omega | (simp only; omega)) ?_); conv => whnf))
   refine br_t rfl ?_
   conv => whnf
   (repeat ((first | refine stp (by (repeat constructor); first | done | fail) ?_ | refine stn (by (repeat constructor); first | done | fail) ?_ | refine sto (by (repeat constructor); first | done | fail) (by first | omega | (simp only; omega)) ?_); conv => whnf))
   refine fin1 rfl rfl (fun w' hm => ⟨ret_bool ?_, hm.fr⟩)
   rw [fT (by rw [badB, hb1, Bool.true_or])]
  ·have hb1 : bad1 a = false := hb
   conv => whnf
   (repeat ((first | refine stp (by (repeat constructor); first | done | fail) ?_ | refine stn (by (repeat constructor); first | done | fail) ?_ | refine sto (by (repeat constructor); first | done | fail) (by first | omega | (simp only; omega)) ?_); conv => whnf))
   refine br (fun hk => ?_) (fun hk => ?_)
   ·conv => whnf
    (repeat ((first | refine stp (by (repeat constructor); first | done | fail) ?_ | refine stn (by (repeat constructor); first | done | fail) ?_ | refine sto (by (repeat constructor); first | done | fail) (by first | omega | (simp only; omega)) ?_); conv => whnf))
    refine br (fun hk2 => ?_) (fun hk2 => ?_)
    ·have hk3 : (!decide (a.keep = 0)) = true := hk2
     conv => whnf
     (repeat ((first | refine stp (by (repeat constructor); first | done | fail) ?_ | refine stn (by (repeat constructor); first | done | fail) ?_ | refine sto (by (repeat constructor); first | done | fail) (by first | omega | (simp only; omega)) ?_); conv => whnf))
     refine fin1 rfl rfl (fun w' hm => ⟨ret_bool ?_, hm.fr⟩)
     rw [fT (by rw [badB, hb1, hk, hk3]; rfl)]
    ·have hk3 : (!decide (a.keep = 0)) = false := hk2
     conv => whnf
     (repeat ((first | refine stp (by (repeat constructor); first | done | fail) ?_ | refine stn (by (repeat constructor); first | done | fail) ?_ | refine sto (by (repeat constructor); first | done | fail) (by first | omega | (simp only; omega)) ?_); conv => whnf))
     exact ⟨(), by rw [badB, hb1, hk, hk3]; rfl, ⟨rfl, trivial⟩, SubM.refl _ _⟩
   ·conv => whnf
    (repeat ((first | refine stp (by (repeat constructor); first | done | fail) ?_ | refine stn (by (repeat constructor); first | done | fail) ?_ | refine sto (by (repeat constructor); first | done | fail) (by first | omega | (simp only; omega)) ?_); conv => whnf))
    refine br_f rfl ?_
    conv => whnf
    (repeat ((first | refine stp (by (repeat constructor); first | done | fail) ?_ | refine stn (by (repeat constructor); first | done | fail) ?_ | refine sto (by (repeat constructor); first | done | fail) (by first | omega | (simp only; omega)) ?_); conv => whnf))
    exact ⟨(), by rw [badB, hb1, hk]; rfl, ⟨rfl, trivial⟩, SubM.refl _ _⟩
 ·rintro ⟨⟩ hbad
  change XC _ _ _ [(1, .pointer (some ⟨b1, 0, none⟩))] [.blk b1 (.cells (actL a bA bc pA pc).toArray 29)]
  conv => whnf
  (repeat ((first | refine stp (by (repeat constructor); first | done | fail) ?_ | refine stn (by (repeat constructor); first | done | fail) ?_ | refine sto (by (repeat constructor); first | done | fail) (by first | omega | (simp only; omega)) ?_); conv => whnf))
  refine ⟨only_enters, cl_ex (fun w' _ => only_any a bA pA bc pc w' hok) (fun w' e w'' hm hR => ?_)⟩
  obtain ⟨xA, xc, hx, rfl, hf⟩ := hR
  refine ⟨_, hm.same hf, ?_⟩
  have hxk := onlyX_ok hok (lettersL a.kind) (nilAct a.kind) (nilAct_ok hok.kind)
  have hfull : fullX a = (if a.kind = 25 then { (if a.kind = 24 then { onlyX (lettersL a.kind) a (nilAct a.kind) with fk := a.fk, keep := a.keep } else onlyX (lettersL a.kind) a (nilAct a.kind) : PAct) with picks := a.picks } else (if a.kind = 24 then { onlyX (lettersL a.kind) a (nilAct a.kind) with fk := a.fk, keep := a.keep } else onlyX (lettersL a.kind) a (nilAct a.kind) : PAct)) := rfl
  have hfok := fullX_ok hok
  have hfb : (fullX a).bytes = (onlyX (lettersL a.kind) a (nilAct a.kind)).bytes := by rw [hfull]; split <;> split <;> rfl
  have hm1 : mayB a = (onlyOk (lettersL a.kind) a && sameB (fullX a) a) := by simp only [mayB, hbad, Bool.not_false, Bool.true_and]
  have hxp : (onlyX (lettersL a.kind) a (nilAct a.kind)).picks = [] := onlyX_picks _ _ _
  clear hf hm hbad w' w''
  generalize onlyX (lettersL a.kind) a (nilAct a.kind) = x at hx hxk hxp hfull hfb ⊢
  generalize onlyOk (lettersL a.kind) a = ok at hm1 ⊢
  conv => whnf
  (repeat ((first | refine stp (by (repeat constructor); first | done | fail) ?_ | refine stn (by (repeat constructor); first | done | fail) ?_ | refine sto (by (repeat constructor); first | done | fail) (by first | omega | (simp only; omega)) ?_); conv => whnf))
  intro b3
  conv => whnf
  (repeat ((first | refine stp (by (repeat constructor); first | done | fail) ?_ | refine stn (by (repeat constructor); first | done | fail) ?_ | refine sto (by (repeat constructor); first | done | fail) (by first | omega | (simp only; omega)) ?_); conv => whnf))
  refine cut (γ := Unit) [] [6] tab_ok (fun _ => True) (fun _ => [(4, .bool ok), (3, .pointer (some ⟨b3, 0, none⟩)), (1, .pointer (some ⟨b1, 0, none⟩))]) (fun _ => [.blk b3 (.cells (actL (if a.kind = 24 then { x with fk := a.fk, keep := a.keep } else x : PAct) xA xc none 0).toArray 29), .blk b1 (.cells (actL a bA bc pA pc).toArray 29)]) ?_ ?_
  ·conv => whnf
   (repeat ((first | refine stp (by (repeat constructor); first | done | fail) ?_ | refine stn (by (repeat constructor); first | done | fail) ?_ | refine sto (by (repeat constructor); first | done | fail) (by first | omega | (simp only; omega)) ?_); conv => whnf))
   refine br_d (fun hk => ?_) (fun hk => ?_)
   ·conv => whnf
    (repeat ((first | refine stp (by (repeat constructor); first | done | fail) ?_ | refine stn (by (repeat constructor); first | done | fail) ?_ | refine sto (by (repeat constructor); first | done | fail) (by first | omega | (simp only; omega)) ?_); conv => whnf))
    exact ⟨(), trivial, ⟨rfl, rfl, rfl, trivial⟩, by rw [if_pos hk]; exact SubM.refl _ _⟩
   ·conv => whnf
    (repeat ((first | refine stp (by (repeat constructor); first | done | fail) ?_ | refine stn (by (repeat constructor); first | done | fail) ?_ | refine sto (by (repeat constructor); first | done | fail) (by first | omega | (simp only; omega)) ?_); conv => whnf))
    exact ⟨(), trivial, ⟨rfl, rfl, rfl, trivial⟩, by rw [if_neg hk]; exact SubM.refl _ _⟩
  ·rintro ⟨⟩ _
   have hyp : (if a.kind = 24 then { x with fk := a.fk, keep := a.keep } else x : PAct).picks = [] := by split <;> exact hxp
   generalize hy : (if a.kind = 24 then { x with fk := a.fk, keep := a.keep } else x : PAct) = y at hfull hyp ⊢
   change XC _ _ _ [(4, .bool ok), (3, .pointer (some ⟨b3, 0, none⟩)), (1, .pointer (some ⟨b1, 0, none⟩))] [.blk b3 (.cells (actL y xA xc none 0).toArray 29), .blk b1 (.cells (actL a bA bc pA pc).toArray 29)]
   conv => whnf
   refine cut (γ := Option Addr × Nat) [] [] tab_ok (fun g => (fullX a).picks = a.picks ∧ g.1 = pA ∨ (fullX a).picks = []) (fun _ => [(4, .bool ok), (3, .pointer (some ⟨b3, 0, none⟩)), (1, .pointer (some ⟨b1, 0, none⟩))]) (fun g => [.blk b3 (.cells (actL (fullX a) xA xc g.1 g.2).toArray 29), .blk b1 (.cells (actL a bA bc pA pc).toArray 29)]) ?_ ?_
   ·conv => whnf
    (repeat ((first | refine stp (by (repeat constructor); first | done | fail) ?_ | refine stn (by (repeat constructor); first | done | fail) ?_ | refine sto (by (repeat constructor); first | done | fail) (by first | omega | (simp only; omega)) ?_); conv => whnf))
    refine br_d (fun hk => ?_) (fun hk => ?_)
    ·have hf2 : fullX a = { y with picks := a.picks } := by rw [hfull, if_pos hk]
     conv => whnf
     (repeat ((first | refine stp (by (repeat constructor); first | done | fail) ?_ | refine stn (by (repeat constructor); first | done | fail) ?_ | refine sto (by (repeat constructor); first | done | fail) (by first | omega | (simp only; omega)) ?_); conv => whnf))
     refine ⟨(pA, pc), .inl ⟨by rw [hf2], rfl⟩, ⟨rfl, rfl, rfl, trivial⟩, by rw [hf2]; exact SubM.refl _ _⟩
    ·have hf2 : fullX a = y := by rw [hfull, if_neg hk]
     conv => whnf
     (repeat ((first | refine stp (by (repeat constructor); first | done | fail) ?_ | refine stn (by (repeat constructor); first | done | fail) ?_ | refine sto (by (repeat constructor); first | done | fail) (by first | omega | (simp only; omega)) ?_); conv => whnf))
     refine ⟨(none, 0), .inr (by rw [hf2]; exact hyp), ⟨rfl, rfl, rfl, trivial⟩, by rw [hf2]; exact SubM.refl _ _⟩
   ·rintro ⟨qA, qc⟩ hq
    change XC _ _ _ [(4, .bool ok), (3, .pointer (some ⟨b3, 0, none⟩)), (1, .pointer (some ⟨b1, 0, none⟩))] [.blk b3 (.cells (actL (fullX a) xA xc qA qc).toArray 29), .blk b1 (.cells (actL a bA bc pA pc).toArray 29)]
    conv => whnf
    (repeat ((first | refine stp (by (repeat constructor); first | done | fail) ?_ | refine stn (by (repeat constructor); first | done | fail) ?_ | refine sto (by (repeat constructor); first | done | fail) (by first | omega | (simp only; omega)) ?_); conv => whnf))
    refine br (fun hk => ?_) (fun hk => ?_)
    ·subst hk
     conv => whnf
     (repeat ((first | refine stp (by (repeat constructor); first | done | fail) ?_ | refine stn (by (repeat constructor); first | done | fail) ?_ | refine sto (by (repeat constructor); first | done | fail) (by first | omega | (simp only; omega)) ?_); conv => whnf))
     refine ⟨same_enters, cl_same _ (fun w' hm => rsame_any (fullX a) a xA bA qA pA xc bc qc pc w' ⟨hfok, ?_, ?_⟩ ⟨hok, Byts.in_ (h1 _ _) hm, Ints.in_ (h3 _ _) hm⟩) ?_⟩
     ·rw [hfb]
      rcases hx with ⟨e1, e2, _⟩ | e1
      ·rw [e1, e2]; exact Byts.in_ (h1 _ _) hm
      ·rw [e1]; exact BytsIn.nil _ _
     ·rcases hq with ⟨e1, e2⟩ | e1
      ·have e2 : qA = pA := e2
       rw [e1, e2]; exact Ints.in_ (h3 _ _) hm
      ·rw [e1]; exact IntsIn.nil _ _ _
     ·conv => whnf
      (repeat ((first | refine stp (by (repeat constructor); first | done | fail) ?_ | refine stn (by (repeat constructor); first | done | fail) ?_ | refine sto (by (repeat constructor); first | done | fail) (by first | omega | (simp only; omega)) ?_); conv => whnf))
      refine fin1 rfl rfl (fun w' hm => ⟨ret_bool ?_, hm.fr⟩)
      rw [hm1]; rfl
    ·subst hk
     conv => whnf
     (repeat ((first | refine stp (by (repeat constructor); first | done | fail) ?_ | refine stn (by (repeat constructor); first | done | fail) ?_ | refine sto (by (repeat constructor); first | done | fail) (by first | omega | (simp only; omega)) ?_); conv => whnf))
     refine fin1 rfl rfl (fun w' hm => ⟨ret_bool ?_, hm.fr⟩)
     rw [hm1]; rfl
end Go.Proofs.YtbfbjgakmnckbaaGreatDoor
namespace Go.Proofs.YtbfbjgakmnckbaaGreatDoor
open Go Go.RowKit Eng

/-! ## lines and their words -/
def joinB : List (List UInt8) → List UInt8
 | [] => []
 | w :: r => w ++ r.flatMap fun x => 32 :: x
theorem wordsL_ne (l : List UInt8) : wordsL l ≠ [] := by
 cases l with
 | nil => simp [wordsL]
 | cons c r =>
  unfold wordsL
  split
  ·simp
  ·split <;> simp
theorem wordsL_blank (w r : List UInt8) (h : (32 : UInt8) ∉ w) : wordsL (w ++ 32 :: r) = w :: wordsL r := by
 induction w with
 | nil => simp [wordsL]
 | cons c w ih =>
  have hc : c ≠ 32 := fun e => h (by rw [e]; exact List.mem_cons_self ..)
  have := ih (fun hm => h (List.mem_cons_of_mem _ hm))
  rw [List.cons_append, wordsL, if_neg hc, this]
theorem wordsL_one (w : List UInt8) (h : (32 : UInt8) ∉ w) : wordsL w = [w] := by
 induction w with
 | nil => simp [wordsL]
 | cons c w ih =>
  have hc : c ≠ 32 := fun e => h (by rw [e]; exact List.mem_cons_self ..)
  have := ih (fun hm => h (List.mem_cons_of_mem _ hm))
  rw [wordsL, if_neg hc, this]
theorem wordsL_join : ∀ (w : List UInt8) (r : List (List UInt8)), (32 : UInt8) ∉ w → (∀ x ∈ r, (32 : UInt8) ∉ x) → wordsL (joinB (w :: r)) = w :: r
 | w, [], h, _ => by simp [joinB, wordsL_one w h]
 | w, x :: r, h, hr => by
  have := wordsL_join x r (hr x (List.mem_cons_self ..)) (fun y hy => hr y (List.mem_cons_of_mem _ hy))
  simp only [joinB, List.flatMap_cons] at this ⊢
  rw [List.cons_append, wordsL_blank w _ h, this]
theorem wordsTo_spec (l : List UInt8) : ∀ i, i ≤ l.length → wordsL l = (wordsTo l i).1 ++ wordsL (l.drop (wordsTo l i).2) ∧ ∀ j, (wordsTo l i).2 ≤ j → j < i → l.getD j 0 ≠ 32
 | 0, _ => by simp [wordsTo]
 | i + 1, hi => by
  obtain ⟨h1, h2⟩ := wordsTo_spec l i (by omega)
  have hle := wordsTo_le l i
  unfold wordsTo
  split
  ·rename_i h32
   refine ⟨?_, fun j hj hj' => by simp only at hj; omega⟩
   rw [h1]
   generalize (wordsTo l i).1 = ws at *
   generalize (wordsTo l i).2 = f at *
   have hsplit : l.drop f = (l.drop f).take (i - f) ++ 32 :: l.drop (i + 1) := by
    conv => lhs; rw [← List.take_append_drop (i - f) (l.drop f)]
    have : l[i] = 32 := by simpa [List.getD, List.getElem?_eq_getElem (show i < l.length by omega)] using h32
    rw [List.drop_drop, show f + (i - f) = i by omega, List.drop_eq_getElem_cons (i := i) (by omega), this]
   rw [List.append_assoc]
   congr 1
   conv => lhs; rw [hsplit]
   rw [wordsL_blank]
   ·simp
   ·intro hm
    obtain ⟨j, hj, he⟩ := List.getElem_of_mem hm
    simp only [List.length_take, List.length_drop] at hj
    rw [List.getElem_take, List.getElem_drop] at he
    refine h2 (f + j) (by omega) (by omega) ?_
    simp [List.getD, List.getElem?_eq_getElem (show f + j < l.length by omega), he]
  ·rename_i h32
   refine ⟨h1, fun j hj hj' => ?_⟩
   by_cases hji : j = i
   ·subst hji; exact h32
   ·exact h2 j hj (by omega)
theorem allWords_eq (l : List UInt8) : allWords l = wordsL l := by
 obtain ⟨h1, h2⟩ := wordsTo_spec l l.length (Nat.le_refl _)
 have hle := wordsTo_le l l.length
 rw [h1, allWords]
 congr 1
 rw [List.take_of_length_le (by simp), wordsL_one]
 intro hm
 obtain ⟨j, hj, he⟩ := List.getElem_of_mem hm
 simp only [List.length_drop] at hj
 rw [List.getElem_drop] at he
 refine h2 ((wordsTo l l.length).2 + j) (by omega) (by omega) ?_
 simp [List.getD, List.getElem?_eq_getElem (show (wordsTo l l.length).2 + j < l.length by omega), he]

/-! ## numerals -/
open Go.Lib in
theorem decDigits_mem (u : Nat) : ∀ c ∈ decDigits u, 48 ≤ c.toNat ∧ c.toNat ≤ 57 := by
 induction u using Nat.strongRecOn with
 | _ u ih =>
  rw [decDigits]
  split
  ·intro c hc
   simp only [List.mem_singleton] at hc
   subst hc
   rw [UInt8.toNat_ofNat']
   omega
  ·intro c hc
   rcases List.mem_append.1 hc with hc | hc
   ·exact ih (u / 10) (by omega) c hc
   ·simp only [List.mem_singleton] at hc
    subst hc
    rw [UInt8.toNat_ofNat']
    omega
open Go.Lib in
theorem decDigits_ne (u : Nat) : decDigits u ≠ [] := by
 rw [decDigits]
 split <;> simp
open Go.Lib in
theorem itoa_blank (n : Int) : (32 : UInt8) ∉ itoa n := by
 intro h
 unfold itoa at h
 split at h
 ·rcases List.mem_cons.1 h with h | h
  ·exact absurd h (by decide)
  ·have := decDigits_mem _ _ h; simp at this
 ·have := decDigits_mem _ _ h; simp at this
def numSt (n : Int) (c : UInt8) : Int := IntKind.i64.wrap (IntKind.i64.wrap (10 * n) - IntKind.u8.wrap ((c.toNat : Int) - 48))
theorem numN_fold : ∀ (l : List UInt8) (k : Nat) (n : Int), l.length ≤ k → numN l k n = l.foldl numSt n
 | [], k, n, _ => by cases k <;> rfl
 | c :: l, 0, n, h => absurd h (by simp)
 | c :: l, k + 1, n, h => numN_fold l k _ (by simpa using h)
open Go.Lib in
theorem num_dec (u : Nat) (h : u ≤ 9223372036854775808) : (decDigits u).foldl numSt 0 = -(u : Int) := by
 induction u using Nat.strongRecOn with
 | _ u ih =>
  rw [decDigits]
  split
  ·rename_i hu
   simp only [List.foldl_cons, List.foldl_nil, numSt]
   rw [UInt8.toNat_ofNat', show (48 + u) % 2 ^ 8 = 48 + u by omega, IntKind.wrap_u8, IntWalk.i64_in (10 * 0) (by omega)]
   rw [IntWalk.i64_in _ (by omega)]
   omega
  ·rename_i hu
   rw [List.foldl_append, ih (u / 10) (by omega) (by omega)]
   simp only [List.foldl_cons, List.foldl_nil, numSt]
   rw [UInt8.toNat_ofNat', show (48 + u % 10) % 2 ^ 8 = 48 + u % 10 by omega, IntKind.wrap_u8, IntWalk.i64_in (10 * -((u / 10 : Nat) : Int)) (by omega)]
   rw [IntWalk.i64_in _ (by omega)]
   omega
open Go.Lib in
theorem nDigits_le19 (u : Nat) (h : u < 10000000000000000000) : nDigits u ≤ 19 := by
 rcases Nat.lt_or_ge 19 (nDigits u) with hlt | hle
 ·exfalso
  have key : ∀ k v : Nat, k < nDigits v → 10 ^ k ≤ v ∨ k = 0 := by
   intro k
   induction k with
   | zero => intro v _; exact .inr rfl
   | succ k ih =>
    intro v hv
    by_cases h10 : v < 10
    ·rw [nDigits_small h10] at hv; omega
    ·rw [nDigits_big h10] at hv
     refine .inl ?_
     have := ih (v / 10) (by omega)
     rw [Nat.pow_succ]
     rcases this with h1 | h1
     ·omega
     ·subst h1; omega
  have := key 19 u hlt
  omega
 ·exact hle
open Go.Lib in
theorem numF_itoa (n : Int) (h : -9223372036854775808 ≤ n ∧ n ≤ 9223372036854775807) : numF (itoa n) = n := by
 unfold itoa
 split
 ·rename_i hn
  rw [numF, if_pos ⟨by simp, rfl⟩, List.drop_one, List.tail_cons, numN_fold _ _ _ (by rw [decDigits_length]; exact nDigits_le19 _ (by omega)), num_dec _ (by omega)]
  omega
 ·rename_i hn
  have hne := decDigits_ne n.toNat
  have hm := decDigits_mem n.toNat
  rw [numF, if_neg, numN_fold _ _ _ (by rw [decDigits_length]; exact nDigits_le19 _ (by omega)), num_dec _ (by omega), IntWalk.i64_in _ (by omega)]
  ·omega
  ·rintro ⟨h0, h45⟩
   cases hd : decDigits n.toNat with
   | nil => exact hne hd
   | cons c r =>
    rw [hd] at h45 hm
    have := hm c (List.mem_cons_self ..)
    have h45 : c = 45 := h45
    subst h45
    simp at this

/-! ## digits of bytes -/
theorem hexD_ne : ∀ n : Fin 16, hexD n.val ≠ 32 := by decide
theorem dig8_hex : ∀ b : Fin 256, dig8 (hexD (b.val / 16)) (hexD (b.val % 16)) = UInt8.ofNat b.val := by decide +kernel
theorem bytesL_hexs (bs : List UInt8) : bytesL (hexs bs) = bs := by
 induction bs with
 | nil => rfl
 | cons b r ih =>
  show dig8 (hexD (b.toNat / 16)) (hexD (b.toNat % 16)) :: bytesL (hexs r) = b :: r
  rw [ih, dig8_hex ⟨b.toNat, b.toNat_lt⟩]
  simp
theorem bytesL_hexF (bs : List UInt8) : bytesL (hexF bs) = bs := by
 unfold hexF
 split
 ·rename_i h; rw [h]; rfl
 ·exact bytesL_hexs bs
theorem hexF_blank (bs : List UInt8) : (32 : UInt8) ∉ hexF bs := by
 unfold hexF
 split
 ·decide
 ·intro h
  simp only [hexs, List.mem_flatMap] at h
  obtain ⟨b, _, hb⟩ := h
  have hlt := b.toNat_lt
  simp only [List.mem_cons, List.not_mem_nil, or_false] at hb
  rcases hb with hb | hb
  ·exact hexD_ne ⟨b.toNat / 16, by omega⟩ hb.symm
  ·exact hexD_ne ⟨b.toNat % 16, by omega⟩ hb.symm
end Go.Proofs.YtbfbjgakmnckbaaGreatDoor
namespace Go.Proofs.YtbfbjgakmnckbaaGreatDoor
open Go Go.RowKit Eng

def bs (s : ByteArray) : List UInt8 := s.data.toList
theorem Str_bs (s : ByteArray) : Str (bs s) = s := by cases s; simp [bs]
theorem bs_Str (l : List UInt8) : bs (Str l) = l := by simp [bs]
theorem bs_size (s : ByteArray) : (bs s).length = s.size := by cases s; simp [bs, ByteArray.size]
theorem bs_eq {s t : ByteArray} (h : bs s = bs t) : s = t := by rw [← Str_bs s, h, Str_bs]

/-- A letter's word. -/
def letS (c : UInt8) (a : PAct) : List UInt8 :=
 if c = 97 then bs a.name else if c = 111 then bs a.other else if c = 79 then (if a.other = Str [] then [45] else bs a.other) else if c = 116 then bs a.third
 else if c = 65 then Lib.itoa a.at_ else if c = 78 then Lib.itoa a.n else if c = 66 then Lib.itoa a.bits else if c = 82 then Lib.itoa a.order
 else if c = 120 then hexF a.bytes else flagW (c.toNat : Int) a.on
def wGood : List UInt8 := [103, 111, 111, 100]
def wFail : List UInt8 := [102, 97, 105, 108]
def wFull : List UInt8 := [102, 117, 108, 108]
def fateW (a : PAct) : List (List UInt8) :=
 if a.kind = 24 then (if a.fk = 0 then [wGood] else [if a.fk = 1 then wFail else wFull, Lib.itoa a.keep]) else []
def wordL (k : Int) : List UInt8 := (cutF (formL k)).1
def restW (a : PAct) : List (List UInt8) := (lettersL a.kind).map (fun c => letS c a) ++ (fateW a ++ a.picks.map Lib.itoa)
def lineW (a : PAct) : List (List UInt8) := wordL a.kind :: restW a
def lineL (a : PAct) : List UInt8 := joinB (lineW a)

/-! ## facts of the 25 kinds -/
theorem all_forms {Q : List UInt8 → Prop} (h0 : Q []) (h : ∀ l ∈ formsL, Q l) (k : Int) : Q (formL k) := by
 unfold formL
 split
 ·exact h0
 ·rw [List.getD]
  cases hk : formsL[k.toNat]? with
  | none => exact h0
  | some l => exact h l (List.mem_of_getElem? hk)
def okF : List UInt8 → Bool
 | [] => true
 | c :: r => (if c = 79 ∨ c = 111 then !r.contains 79 && !r.contains 111 else true) && okF r
theorem okF_letters (k : Int) : okF (lettersL k) = true :=
 all_forms (Q := fun l => okF (cutF l).2 = true) rfl (by decide) k
theorem word_blank (k : Int) : (32 : UInt8) ∉ wordL k :=
 all_forms (Q := fun l => (32 : UInt8) ∉ (cutF l).1) (by decide) (by decide) k
theorem letters24 : lettersL 24 = [] := rfl
theorem letters25 : lettersL 25 = [] := rfl
theorem words_inj : ∀ i j : Fin 26, 1 ≤ i.val → 1 ≤ j.val → wordL i.val = wordL j.val → i = j := by decide
theorem wordL_inj {k m : Int} (hk : 1 ≤ k ∧ k < 26) (hm : 1 ≤ m ∧ m < 26) (h : wordL k = wordL m) : k = m := by
 have := words_inj ⟨k.toNat, by omega⟩ ⟨m.toNat, by omega⟩ (by simp; omega) (by simp; omega) (by simp only; rw [Int.toNat_of_nonneg (by omega), Int.toNat_of_nonneg (by omega)]; exact h)
 have := congrArg Fin.val this
 simp only at this
 omega

/-! ## an act that may be -/
theorem nameB_mem {s : ByteArray} (h : nameB s = true) : ∀ c ∈ bs s, 33 ≤ c.toNat ∧ c.toNat ≤ 126 := by
 intro c hc
 simp only [nameB, Bool.and_eq_true, List.all_eq_true] at h
 have := h.1 c hc
 simp only [okByte, Bool.and_eq_true, decide_eq_true_eq] at this
 omega
theorem nameB_blank {s : ByteArray} (h : nameB s = true) : (32 : UInt8) ∉ bs s := fun hm => by
 have := nameB_mem h _ hm
 simp at this
theorem nameB_ne {s : ByteArray} (h : nameB s = true) : s ≠ Str [] ∧ bs s ≠ [45] := by
 simp only [nameB, Bool.and_eq_true, decide_eq_true_eq, Bool.not_eq_true', decide_eq_false_iff_not] at h
 refine ⟨?_, fun e => h.2.2 (bs_eq (e.trans (bs_Str [45]).symm))⟩
 rintro rfl
 have := h.2.1.1
 simp [ByteArray.size] at this
theorem nameB_size {s : ByteArray} (h : nameB s = true) : s.size ≤ 64 := by
 simp only [nameB, Bool.and_eq_true, decide_eq_true_eq] at h
 omega
theorem sameB_full {a : PAct} (h : mayB a = true) : fullX a = a := by
 simp only [mayB, Bool.and_eq_true] at h
 exact (sameB_iff _ _).1 h.2.2
theorem may_ok {a : PAct} (h : mayB a = true) : onlyOk (lettersL a.kind) a = true := by
 simp only [mayB, Bool.and_eq_true] at h
 exact h.2.1
theorem may_kind {a : PAct} (h : mayB a = true) : 1 ≤ a.kind ∧ a.kind < 26 := by
 simp only [mayB, badB, bad1, Bool.and_eq_true, Bool.not_eq_true', Bool.or_eq_false_iff, decide_eq_false_iff_not] at h
 have := h.1.1.1.1.1.1
 rcases Classical.em (a.kind < 1 ∨ 26 ≤ a.kind) with hh | hh
 ·rw [formL, if_pos hh] at this; exact absurd rfl this
 ·omega
theorem may_bytes {a : PAct} (h : mayB a = true) : a.bytes.length ≤ 524288 ∧ a.picks.length ≤ 65536 := by
 simp only [mayB, badB, bad1, Bool.and_eq_true, Bool.not_eq_true', Bool.or_eq_false_iff, decide_eq_false_iff_not] at h
 omega
theorem may_fate {a : PAct} (h : mayB a = true) : 0 ≤ a.fk ∧ a.fk ≤ 2 ∧ (a.fk = 0 → a.keep = 0) := by
 simp only [mayB, badB, bad1, Bool.and_eq_true, Bool.not_eq_true', Bool.or_eq_false_iff, decide_eq_false_iff_not, Bool.and_eq_false_iff, Bool.not_eq_false', decide_eq_true_eq] at h
 obtain ⟨⟨⟨⟨_, h1⟩, h2⟩, h3⟩, _⟩ := h
 refine ⟨by omega, by omega, fun h0 => h3.resolve_left (fun hh => hh h0)⟩
theorem okL1_mem {f : List UInt8} {a : PAct} (h : onlyOk f a = true) : ∀ c ∈ f, okL1 c a = true := by
 simpa [onlyOk, List.all_eq_true] using h
theorem flagW_blank (c : Int) (on : Bool) : (32 : UInt8) ∉ flagW c on := by
 unfold flagW
 repeat' split
 all_goals decide
theorem letS_blank {c : UInt8} {a : PAct} (h : okL1 c a = true) : (32 : UInt8) ∉ letS c a := by
 unfold okL1 at h
 unfold letS
 by_cases h1 : c = 97
 ·rw [if_pos h1] at h ⊢; exact nameB_blank h
 rw [if_neg h1] at h ⊢
 by_cases h2 : c = 111
 ·rw [if_pos (.inl h2)] at h
  rw [if_pos h2]
  subst h2
  simp only [Bool.or_eq_true, Bool.and_eq_true] at h
  exact nameB_blank (h.resolve_right (fun hh => absurd hh.1 (by decide)))
 rw [if_neg h2]
 by_cases h3 : c = 79
 ·rw [if_pos (.inr h3)] at h
  rw [if_pos h3]
  split
  ·decide
  ·rename_i ho
   simp only [Bool.or_eq_true, Bool.and_eq_true, decide_eq_true_eq] at h
   exact nameB_blank (h.resolve_right (fun hh => ho hh.2))
 rw [if_neg (fun hh => hh.elim h2 h3)] at h
 rw [if_neg h3]
 by_cases h4 : c = 116
 ·rw [if_pos h4] at h ⊢; exact nameB_blank h
 rw [if_neg h4]
 repeat' split
 all_goals first | exact itoa_blank _ | exact hexF_blank _ | exact flagW_blank _ _
theorem restW_blank {a : PAct} (h : onlyOk (lettersL a.kind) a = true) : ∀ w ∈ restW a, (32 : UInt8) ∉ w := by
 intro w hw
 simp only [restW, List.mem_append, List.mem_map] at hw
 rcases hw with ⟨c, hc, rfl⟩ | hw | ⟨p, _, rfl⟩
 ·exact letS_blank (okL1_mem h c hc)
 ·unfold fateW at hw
  split at hw
  ·split at hw
   ·simp only [List.mem_singleton] at hw; subst hw; decide
   ·simp only [List.mem_cons, List.not_mem_nil, or_false] at hw
    rcases hw with rfl | rfl
    ·split <;> decide
    ·exact itoa_blank _
  ·cases hw
 ·exact itoa_blank _
theorem words_line {a : PAct} (h : onlyOk (lettersL a.kind) a = true) : wordsL (lineL a) = lineW a := wordsL_join _ _ (word_blank _) (restW_blank h)

/-! ## what words say -/
/-- What a letter's word says. -/
def takeW (c : UInt8) (w : List UInt8) (x : PAct) : PAct :=
 if c = 97 then { x with name := Str w } else if c = 111 then { x with other := Str w } else if c = 79 then (if w = [45] then x else { x with other := Str w }) else if c = 116 then { x with third := Str w }
 else if c = 65 then { x with at_ := numF w } else if c = 78 then { x with n := numF w } else if c = 66 then { x with bits := numF w } else if c = 82 then { x with order := numF w }
 else if c = 120 then { x with bytes := bytesL w } else { x with on := decide (w = flagW (c.toNat : Int) true) }
def fieldsF : List UInt8 → List (List UInt8) → PAct → PAct
 | c :: f, w :: ws, x => fieldsF f ws (takeW c w x)
 | _, _, x => x
theorem takeW_letS {c : UInt8} {a x : PAct} (ha : a.Ok) (h : okL1 c a = true) (hx : c = 79 → x.other = Str []) : takeW c (letS c a) x = takeL1 c a x := by
 unfold takeW letS takeL1
 unfold okL1 at h
 by_cases h1 : c = 97
 ·simp only [if_pos h1, Str_bs]
 simp only [if_neg h1]
 by_cases h2 : c = 111
 ·simp only [if_pos h2, if_pos (Or.inl h2 : c = 111 ∨ c = 79), Str_bs]
 simp only [if_neg h2]
 by_cases h3 : c = 79
 ·simp only [if_pos h3, if_pos (Or.inr h3 : c = 111 ∨ c = 79)]
  rw [if_neg h1, if_pos (Or.inr h3)] at h
  simp only [Bool.or_eq_true, Bool.and_eq_true, decide_eq_true_eq] at h
  by_cases ho : a.other = Str []
  ·rw [if_pos ho, if_pos rfl, ho, ← hx h3]
  ·rw [if_neg ho, if_neg (nameB_ne (h.resolve_right (fun hh => ho hh.2))).2, Str_bs]
 simp only [if_neg h3, if_neg (fun hh => hh.elim h2 h3 : ¬ (c = 111 ∨ c = 79))]
 by_cases h4 : c = 116
 ·simp only [if_pos h4, Str_bs]
 simp only [if_neg h4]
 by_cases h5 : c = 65
 ·simp only [if_pos h5, numF_itoa _ ha.at_]
 simp only [if_neg h5]
 by_cases h6 : c = 78
 ·simp only [if_pos h6, numF_itoa _ ha.n]
 simp only [if_neg h6]
 by_cases h7 : c = 66
 ·simp only [if_pos h7, numF_itoa _ ha.bits]
 simp only [if_neg h7]
 by_cases h8 : c = 82
 ·simp only [if_pos h8, numF_itoa _ ha.order]
 simp only [if_neg h8]
 by_cases h9 : c = 120
 ·simp only [if_pos h9, bytesL_hexF]
 simp only [if_neg h9]
 have : decide (flagW (c.toNat : Int) a.on = flagW (c.toNat : Int) true) = a.on := by
  cases a.on with
  | true => simp
  | false =>
   rw [decide_eq_false]
   unfold flagW
   repeat' split
   all_goals (try decide)
   all_goals simp_all
 rw [this]
theorem takeL1_other {c : UInt8} (h : c ≠ 79 ∧ c ≠ 111) (a x : PAct) : (takeL1 c a x).other = x.other := by
 unfold takeL1
 by_cases h1 : c = 97
 ·rw [if_pos h1]
 rw [if_neg h1, if_neg (fun hh => hh.elim h.2 h.1)]
 repeat' split
 all_goals rfl
theorem fields_letS {a : PAct} (ha : a.Ok) : ∀ (f : List UInt8) (x : PAct) (more : List (List UInt8)), okF f = true → (∀ c ∈ f, okL1 c a = true) → ((79 : UInt8) ∈ f → x.other = Str []) → fieldsF f (f.map (fun c => letS c a) ++ more) x = onlyX f a x
 | [], x, more, _, _, _ => by cases more <;> rfl
 | c :: f, x, more, hf, ho, hx => by
  have hc := ho c (List.mem_cons_self ..)
  simp only [okF, Bool.and_eq_true] at hf
  have h1 : takeW c (letS c a) x = takeL1 c a x := takeW_letS ha hc (fun e => hx (by rw [e]; exact List.mem_cons_self ..))
  simp only [List.map_cons, List.cons_append, fieldsF, h1]
  show _ = onlyX f a (takeL1 c a x)
  refine fields_letS ha f _ more hf.2 (fun d hd => ho d (List.mem_cons_of_mem _ hd)) (fun hm => ?_)
  by_cases hcc : c = 79 ∨ c = 111
  ·rw [if_pos hcc] at hf
   have h1 : f.contains (79 : UInt8) = true := by simpa using hm
   rw [h1] at hf
   simp at hf
  ·rw [takeL1_other (by constructor <;> (intro e; exact hcc (by simp [e])))]
   exact hx (List.mem_cons_of_mem _ hm)

/-- What the words of a fate say. -/
def fateF (ws : List (List UInt8)) (x : PAct) : PAct :=
 { x with fk := if ws[1]? = some wFail then 1 else if ws[1]? = some wFull then 2 else x.fk, keep := match ws[2]? with
  | some w => numF w
  | none => x.keep }
/-- The act that a line's words say, if it is of this kind. -/
def candF (k : Int) (ws : List (List UInt8)) : PAct :=
 let x := fieldsF (lettersL k) (ws.drop 1) (nilAct k)
 let y := if k = 24 then fateF ws x else x
 if k = 25 then { y with picks := (ws.drop 1).map numF } else y
theorem cand_line {a : PAct} (ha : a.Ok) (h : mayB a = true) : candF a.kind (lineW a) = a := by
 conv => rhs; rw [← sameB_full h]
 have hfull := sameB_full h
 have hfa := may_fate h
 have hok := may_ok h
 unfold candF
 have hx : fieldsF (lettersL a.kind) ((lineW a).drop 1) (nilAct a.kind) = onlyX (lettersL a.kind) a (nilAct a.kind) := by
  have := fields_letS ha (lettersL a.kind) (nilAct a.kind) (fateW a ++ a.picks.map Lib.itoa) (okF_letters _) (okL1_mem hok) (fun _ => rfl)
  exact this
 rw [hx]
 unfold fullX
 simp only
 have e24 : a.kind = 24 → fateF (lineW a) (onlyX (lettersL a.kind) a (nilAct a.kind)) = { onlyX (lettersL a.kind) a (nilAct a.kind) with fk := a.fk, keep := a.keep } := by
  intro hk
  have hp : a.picks = [] := by
   have : (fullX a).picks = [] := by
    unfold fullX
    simp only
    rw [if_neg (by omega), if_pos hk]
    exact onlyX_picks _ _ _
   rw [hfull] at this
   exact this
  have hw : lineW a = wordL 24 :: fateW a := by
   rw [lineW, restW, hp, hk]; simp [letters24]
  have hX : onlyX (lettersL a.kind) a (nilAct a.kind) = nilAct 24 := by rw [hk]; rfl
  rw [hX, hw]
  unfold fateW
  rw [if_pos hk]
  by_cases h0 : a.fk = 0
  ·rw [if_pos h0, h0, hfa.2.2 h0]; rfl
  ·rw [if_neg h0]
   by_cases h1 : a.fk = 1
   ·rw [if_pos h1, h1]
    simp only [fateF, List.getElem?_cons_succ, List.getElem?_cons_zero, if_pos, numF_itoa _ ha.keep]
   ·have h2 : a.fk = 2 := by omega
    rw [if_neg h1, h2]
    have : wFull ≠ wFail := by decide
    simp only [fateF, List.getElem?_cons_succ, List.getElem?_cons_zero, Option.some.injEq, if_neg this, if_pos, numF_itoa _ ha.keep]
 have e25 : a.kind = 25 → ((lineW a).drop 1).map numF = a.picks := by
  intro hk
  have hw : (lineW a).drop 1 = a.picks.map Lib.itoa := by
   rw [lineW, restW, fateW, if_neg (by omega), hk]; simp [letters25]
  rw [hw, List.map_map]
  conv => rhs; rw [← List.map_id a.picks]
  refine List.map_congr_left fun p hp => ?_
  exact numF_itoa p (ha.picksR p hp)
 by_cases h24 : a.kind = 24
 ·rw [if_pos h24, if_pos h24, if_neg (by omega), if_neg (by omega)]
  exact e24 h24
 ·rw [if_neg h24, if_neg h24]
  by_cases h25 : a.kind = 25
  ·rw [if_pos h25, if_pos h25, e25 h25]
  ·rw [if_neg h25, if_neg h25]

/-- Which act a line has: r. -/
def ReadIs (l : List UInt8) : Option PAct → Prop
 | some a => a.Ok ∧ mayB a = true ∧ lineL a = l
 | none => ∀ a : PAct, a.Ok → mayB a = true → lineL a ≠ l
theorem line_inj {a b : PAct} (ha : a.Ok) (hb : b.Ok) (ma : mayB a = true) (mb : mayB b = true) (h : lineL a = lineL b) : a = b := by
 have hw : lineW a = lineW b := by rw [← words_line (may_ok ma), ← words_line (may_ok mb), h]
 have hk : a.kind = b.kind := wordL_inj (may_kind ma) (may_kind mb) (List.cons.inj hw).1
 rw [← cand_line ha ma, ← cand_line hb mb, hk, hw]
theorem ReadIs.uniq {l : List UInt8} {r s : Option PAct} (hr : ReadIs l r) (hs : ReadIs l s) : r = s := by
 cases r with
 | none =>
  cases s with
  | none => rfl
  | some b => exact absurd hs.2.2 (hr b hs.1 hs.2.1)
 | some a =>
  cases s with
  | none => exact absurd hr.2.2 (hs a hr.1 hr.2.1)
  | some b => rw [line_inj hr.1 hs.1 hr.2.1 hs.2.1 (hr.2.2.trans hs.2.2.symm)]
/-- The one act of a line. -/
noncomputable def readF (l : List UInt8) : Option PAct := open Classical in if h : ∃ a : PAct, a.Ok ∧ mayB a = true ∧ lineL a = l then some h.choose else none
theorem readF_is (l : List UInt8) : ReadIs l (readF l) := by
 unfold readF
 split
 ·rename_i h; exact h.choose_spec
 ·rename_i h; exact fun a h1 h2 h3 => h ⟨a, h1, h2, h3⟩
theorem readF_eq {l : List UInt8} {r : Option PAct} (h : ReadIs l r) : readF l = r := (readF_is l).uniq h
end Go.Proofs.YtbfbjgakmnckbaaGreatDoor
