/- The engine, part 6: contracts over a part of the memory, and the frame rule: what the call does not own stays as it is. No statement of the seat is proved here. -/
import Derived.Test.YtbfbjgakmnckbaaGreatDoorSl2
import Derived.Recover
import Derived.Test.YtbfbjgakmnckbaaGreatDoorProg
import Derived.RangeFuncRecord
import Derived.TacticsIn
import Derived.Scope
import Derived.Laws.StructEq
namespace Go.Proofs.YtbfbjgakmnckbaaGreatDoor.Eng
open Go Go.RowKit

/-- The blocks of what is known. -/
def Foot (m : Mem) (b : Nat) : Prop := ∃ r ∈ m, r.foot = some b
/-- A part of what is known, by itself, from now on. -/
theorem MemOk.part {w0 w : World} {S : Nat → Prop} {m r : Mem} (h : MemOk w0 S (m ++ r) w) : MemOk w (Foot m) m w :=
 ⟨Fr.refl _ _, fun x hx => h.ok x (List.mem_append_left _ hx), fun x hx b hb => .inr ⟨x, hx, hb⟩, (List.pairwise_append.1 h.apart).1⟩
/-- What lies beside the part stays as it is. -/
theorem MemOk.beside {w0 w w' : World} {S : Nat → Prop} {m r : Mem} (h : MemOk w0 S (m ++ r) w) (hf : Fr (Foot m) w w') : MemOk w0 S r w' := by
 have hcross := (List.pairwise_append.1 h.apart).2.2
 refine ⟨⟨hf.os.trans h.fr.os, hf.tape.trans h.fr.tape, hf.output.trans h.fr.output, Nat.le_trans h.fr.size hf.size, fun k hk hs => ?_⟩, fun x hx => ?_, fun x hx => h.own x (List.mem_append_right _ hx), (List.pairwise_append.1 h.apart).2.1⟩
 ·refine (hf.block k (Nat.lt_of_lt_of_le hk h.fr.size) fun ⟨x, hx, hb⟩ => ?_).trans (h.fr.block k hk hs)
  exact (h.own x (List.mem_append_left _ hx) k hb).elim (fun h => absurd hk (by omega)) hs
 ·have hok := h.ok x (List.mem_append_right _ hx)
  refine Res.ok_of hok fun b hb => hf.block b (Res.ok_lt hok hb) fun ⟨y, hy, hyb⟩ => ?_
  exact hcross y hy x hx b hyb hb
theorem MemOk.frame {w0 w w' : World} {S : Nat → Prop} {m m' r : Mem} (h : MemOk w0 S (m ++ r) w) (h' : MemOk w (Foot m) m' w') : MemOk w0 S (m' ++ r) w' := by
 have hb := h.beside h'.fr
 have hcross := (List.pairwise_append.1 h.apart).2.2
 refine ⟨hb.fr, fun x hx => (List.mem_append.1 hx).elim (h'.ok x) (hb.ok x), fun x hx b hbf => ?_, List.pairwise_append.2 ⟨h'.apart, hb.apart, fun x hx y hy b hbx hby => ?_⟩⟩
 ·rcases List.mem_append.1 hx with hx | hx
  ·rcases h'.own x hx b hbf with h1 | ⟨y, hy, hyb⟩
   ·exact .inl (Nat.le_trans h.fr.size h1)
   ·exact h.own y (List.mem_append_left _ hy) b hyb
  ·exact hb.own x hx b hbf
 ·rcases h'.own x hx b hbx with h1 | ⟨z, hz, hzb⟩
  ·have := Res.ok_lt (h.ok y (List.mem_append_right _ hy)) hby
   omega
  ·exact hcross z hz y hy b hzb hby

/-- A contract over the part m of the memory. -/
def Ctr (P : Program) (g : Nat) (args : List Value) (m : Mem) (R : Ending → Mem → Prop) (w : World) : Prop :=
 Calls P g args.toArray w fun e w' => ∃ m', R e m' ∧ MemOk w (Foot m) m' w'
/-- Something that stays true whatever the part m becomes. -/
def Stb (m : Mem) (w : World) (p : World → Prop) : Prop := ∀ w', Fr (Foot m) w w' → p w'

/-- A choice of things. -/
inductive Sel : Mem → Mem → Mem → Prop
 | nil {m : Mem} : Sel m [] m
 | cons {m m' m1 r : Mem} {x : Res} : Out m x m' → Sel m' m1 r → Sel m (x :: m1) r
theorem Sel.perm {m m1 r : Mem} (h : Sel m m1 r) : m.Perm (m1 ++ r) := by
 induction h with
 | nil => exact List.Perm.refl _
 | cons ho _ ih => exact ho.perm.trans (ih.cons _)

section
variable {cx : Cx}
theorem cl_mem {m m1 r : Mem} {g : Nat} {vs9 : List Value} {K : Value → Mem → Prop} {KP : List PanicEntry → Mem → Prop} {R : Ending → Mem → Prop} (hs : Sel m m1 r)
  (h : ∀ w, MemOk cx.w0 cx.S (m1 ++ r) w → Ctr cx.P g vs9 m1 R w)
  (hk : ∀ e m', R e m' → match e with
   | .returned v => K v (m' ++ r)
   | .panicked ch => KP ch (m' ++ r)
   | .outgrown => False) : Cl cx m g vs9 K KP := by
 intro w hm
 have hm' := hm.perm hs.perm
 refine (h w hm').mono fun e w' ⟨m', hr, ho⟩ => ?_
 have hf := hm'.frame ho
 have := hk e m' hr
 cases e with
 | returned v => exact ⟨_, hf, this⟩
 | panicked ch => exact ⟨_, hf, this⟩
 | outgrown => exact this
theorem SubM.drop {m m' : Mem} (h : SubM cx m m') {r : Mem} : SubM cx (m ++ r) m' := fun w hm => h w (hm.sublist (List.sublist_append_left _ _))
/-- What is read of the rest of the memory stays readable. -/
theorem stb {m r : Mem} {w : World} {p : World → Prop} (hm : MemOk cx.w0 cx.S (m ++ r) w) (h : ∀ w, MemOk cx.w0 cx.S r w → p w) : Stb m w p := fun _ hf => h _ (hm.beside hf)
theorem Stb.at_ {m : Mem} {w0 w : World} {p : World → Prop} (h : Stb m w0 p) {m' : Mem} (hm : MemOk w0 (Foot m) m' w) : p w := h w hm.fr
theorem Stb.now {m : Mem} {w : World} {p : World → Prop} (h : Stb m w p) : p w := h w (Fr.refl _ _)
theorem MemOk.sel {w0 w : World} {S : Nat → Prop} {m m1 r : Mem} (h : MemOk w0 S m w) (hs : Sel m m1 r) : MemOk w0 S m1 w := (h.perm hs.perm).sublist (List.sublist_append_left _ _)
theorem SubM.sel {m m1 r : Mem} (hs : Sel m m1 r) : SubM cx m m1 := fun _ h => h.sel hs
/-- append onto a row that is owned, of cells that lie in a block that is known; bounds told simply. -/
theorem rn_app (ht : TabOk cx.P cx.tab) {m m' : Mem} {t e ty : Nat} {i ti : TyI} {A : Option Addr} {cap n size : Nat} {xs : List Value} {a : Addr} {k c : Nat} {news : List Value} {K : Value → Mem → Prop}
  (hi : cx.tab.get t = some i) (hk : i.kind = .slice e) (hti : cx.tab.get e = some ti) (hz : ti.zero.length = ti.cells) (hs : ti.cells = size) (hp : (Nat.ble 1 ti.cells && Nat.ble ti.bytes 4096) = true)
  (hu : Out m (.row A cap n e size xs) m') (hl : news.length = k * size) (hnews : ∀ w, MemOk cx.w0 cx.S m w → ∀ j u, news[j]? = some u → w.cell? (a.add j) = some u) (h1 : allOne news = true)
  (hb : n + k ≤ 34359738368) (hK : ∀ A' cap', K (.slice A' (n + k) cap') (.row A' cap' (n + k) e size (xs ++ news) :: m')) :
  Rn cx m (Builtin.append_ #[t, t] ty #[.slice A n cap, .slice (some a) k c]) K := by
 simp only [Bool.and_eq_true, Nat.ble_eq] at hp
 refine rn_append ht hi hk hti hz hs hp.1 hu hl hnews h1 ?_ (by omega) hK
 exact Nat.le_trans (Nat.mul_le_mul_left _ hp.2) (by omega)
theorem Stb.ints {m0 m : Mem} {k : IntKind} {p : Option Addr} {xs : List Int} (h : Stb m0 cx.w0 (fun w => IntsIn k w p xs)) (hS : cx.S = Foot m0) : Ints cx m k p xs := by
 intro hn
 obtain ⟨b, o, rfl, _⟩ := h.now hn
 refine ⟨b, o, rfl, fun w hm i hi => ?_⟩
 obtain ⟨b', o', hb, hc⟩ := h w (hS ▸ hm.fr) hn
 injection hb with hb; injection hb with hb1 hb2
 subst hb1 hb2
 exact hc i hi
theorem Stb.byts {m0 m : Mem} {p : Option Addr} {bs : List UInt8} (h : Stb m0 cx.w0 (fun w => BytsIn w p bs)) (hS : cx.S = Foot m0) : Byts cx m p bs := Stb.ints h hS
/-- A store into a row that is owned. -/
theorem rn_storeR (ht : TabOk cx.P cx.tab) {m m' : Mem} {t : Nat} {i : TyI} {A : Option Addr} {cap n t' size off : Nat} {xs xs' : List Value} {v : Value} {K : Mem → Prop} (hi : cx.tab.get t = some i) (hu : Out m (.row A cap n t' size xs) m')
  (hl : (cellsL v).length = i.cells) (h1 : allOne (cellsL v) = true) (hfit : off + (cellsL v).length ≤ n * size) (hpos : 0 < (cellsL v).length) (hxs : setsL off (cellsL v) xs = xs') (hk : K (.row A cap n t' size xs' :: m')) : RnU cx m (Instr.storeAt t (.pointer (pl A off)) v) K := by
 intro w hm
 have hm1 := hm.perm hu.perm
 have hown : w.ownsRow 0 t' size (.slice A n cap) n xs := hm1.ok _ (List.mem_cons_self ..)
 have hlen := hown.1
 rcases hown.2 with ⟨_, h0⟩ | ⟨b, cap', cur, hv, _, hb, hc, hmax, hsz, hcur⟩
 ·subst h0; omega
 ·injection hv with e1 _ e3
  subst e1 e3
  have hcap : n * size ≤ cap * size := Nat.mul_le_mul_right _ hc
  have hst := run_storeCells_at cx.P b off t' (cellsL v) 0 cur w hb (by omega) (allOne_ok h1)
  simp only [Nat.add_zero] at hst
  rw [← setsL_take _ _ _ (by simp; omega)] at hst
  have hxs' : (setsL off (cellsL v) cur.toList).take (n * size) = xs' := by
   rw [← hxs, ← hcur, setsL_take _ _ _ (by simp; omega), setsL_take _ _ _ (by simp; omega)]
   rw [List.append_assoc, List.append_assoc, List.take_append, List.take_take, List.length_take, Array.length_toList, List.take_append, List.drop_take, List.take_take]
   rw [show min (n * size) off = off by omega, show min off (n * size) = off by omega, show min off cur.size = off by omega]
   rw [List.take_of_length_le (l := cellsL v) (by omega), show n * size - off - (cellsL v).length = n * size - (off + (cellsL v).length) by omega]
  have hlen' : (setsL off (cellsL v) cur.toList).length = cur.size := by
   rw [setsL_take _ _ _ (by simp; omega)]
   simp; omega
  refine ⟨w.setRow b (setsL off (cellsL v) cur.toList).toArray, .row (some ⟨b, 0, none⟩) cap n t' size xs' :: m', ?_, ?_, hk⟩
  ·have hsv : v.cells.size = i.cells := by rw [cellsL_arr]; simpa using hl
   simp only [Instr.storeAt, Instr.sureAddr, pl, Option.map_some, Sem.run_bind, Sem.run_pure, Result.andThen_ok, storeVar, run_sizeOf' (ht _ _ hi), Nat.zero_add]
   rw [if_neg (by simp [hsv]), cellsL_eq]
   simpa using hst
  ·have hf := Fr.setRow w b (setsL off (cellsL v) cur.toList).toArray
   have hown1 := hm1.own _ (List.mem_cons_self ..) b rfl
   refine (hm1.tail.step hf (fun k hkk hT => ?_) (fun r hr k hkk hT => ?_)).cons ?_ (fun k hkk => ?_) (fun k hkk s hs => ?_)
   ·subst hT; exact hown1.elim (fun hb => absurd hkk (by omega)) id
   ·subst hT; exact (List.pairwise_cons.1 hm1.apart).1 r hr k rfl hkk
   ·refine ⟨?_, .inr ⟨b, cap, _, rfl, Nat.zero_le _, setRow_at hb, hc, hmax, by simp [hlen', hsz], by simpa using hxs'⟩⟩
    rw [← hxs', List.length_take, hlen']
    omega
   ·cases hkk; exact hown1
   ·cases hkk; exact (List.pairwise_cons.1 hm1.apart).1 s hs b rfl
theorem cl_sub {m m1 : Mem} {g : Nat} {vs9 : List Value} {K : Value → Mem → Prop} {KP : List PanicEntry → Mem → Prop} (hs : SubM cx m m1) (h : Cl cx m1 g vs9 K KP) : Cl cx m g vs9 K KP := fun w hm => h w (hs w hm)
/-- A block that is known whole is a row. -/
theorem SubM.torow {m m' : Mem} {b t n : Nat} {xs : List Value} (h : Out m (.blk b (.cells xs.toArray t)) m') (hn : xs.length = n) (hmax : Nat.ble n 9223372036854775807 = true) : SubM cx m (.row (some ⟨b, 0, none⟩) n n t 1 xs :: m') := by
 intro w hm
 have hm1 := hm.perm h.perm
 have hb : w.heap[b]? = some (.cells xs.toArray t) := hm1.ok _ (List.mem_cons_self ..)
 have hown := hm1.own _ (List.mem_cons_self ..) b rfl
 refine hm1.tail.cons ⟨by omega, .inr ⟨b, n, xs.toArray, rfl, Nat.zero_le _, hb, Nat.le_refl _, by simp only [maxLen]; exact Nat.le_of_ble_eq_true hmax, by simp [hn], by simp [← hn]⟩⟩ (fun b' hb' => ?_) (fun b' hb' s hs => ?_)
 ·cases hb'; exact hown
 ·cases hb'
  exact (List.pairwise_cons.1 hm1.apart).1 s hs b rfl
/-- A function's end, in the words of a contract over a part. -/
theorem ctr_end {m m1 : Mem} {w w' : World} {R : Ending → Mem → Prop} {e : Ending} (hm : MemOk w (Foot m) m1 w') (h : R e m1) : ∃ m', R e m' ∧ MemOk w (Foot m) m' w' := ⟨m1, h, hm⟩
end
end Go.Proofs.YtbfbjgakmnckbaaGreatDoor.Eng
namespace Go.Proofs.YtbfbjgakmnckbaaGreatDoor.Eng
open Go Go.RowKit

/-- What is to be shown of the rest of the text of a function that defers. -/
def WD (P : Program) (fn : Func) (R : Ending → World → Prop) (n : Nat) (w0 : World) (S : Nat → Prop) (D : List Deferred) (y : Code) (e : Env) (m : Mem) : Prop :=
 ∀ a w, EnvOk n D e a → MemOk w0 S m w → y.wp P (bodyPostD P fn R) a w

section
variable {cx : Cx}
/-- How a function that defers ends: behind its deferred calls. -/
def finD (cx : Cx) (fn : Func) (R : Ending → World → Prop) (ex : Exit) (e : Env) (m : Mem) : Prop :=
 match ex with
 | .normal | .ret => ∀ a w, EnvOk cx.n cx.df e a → MemOk cx.w0 cx.S m w → Leaves cx.P fn a.tmps R cx.df .returning w
 | .panic ch => ∀ a w, EnvOk cx.n cx.df e a → MemOk cx.w0 cx.S m w → Leaves cx.P fn a.tmps R cx.df (.panicking ch) w
 | _ => False

theorem wd_of (ht : TabOk cx.P cx.tab) {fn : Func} {R : Ending → World → Prop} {y : Code} {e : Env} {m : Mem} (h : XC cx y (finD cx fn R) e m) : WD cx.P fn R cx.n cx.w0 cx.S cx.df y e m := by
 intro a w he hm
 refine wp_mono (XC_ok ht y _ e m a w he hm h) ?_
 rintro ex a' w' ⟨e', m', he', hm', hk⟩
 cases ex with
 | normal => have := hk a' w' he' hm'; rw [← he'.1] at this; exact this
 | ret => have := hk a' w' he' hm'; rw [← he'.1] at this; exact this
 | panic ch => have := hk a' w' he' hm'; rw [← he'.1] at this; exact this
 | exit id => exact hk.elim
 | goto l => exact hk.elim
 | outgrown => exact hk.elim

theorem wd_seq (ht : TabOk cx.P cx.tab) {fn : Func} {R : Ending → World → Prop} {x y : Code} {e : Env} {m : Mem} (h : XC cx x (fun ex e m => match ex with
   | .normal => WD cx.P fn R cx.n cx.w0 cx.S cx.df y e m
   | ex => finD cx fn R ex e m) e m) : WD cx.P fn R cx.n cx.w0 cx.S cx.df (.seq x y) e m := by
 intro a w he hm
 refine wp_seq (wp_mono (XC_ok ht x _ e m a w he hm h) ?_)
 rintro ex a' w' ⟨e', m', he', hm', hk⟩
 cases ex with
 | normal => exact hk a' w' he' hm'
 | ret => have := hk a' w' he' hm'; rw [← he'.1] at this; exact this
 | panic ch => have := hk a' w' he' hm'; rw [← he'.1] at this; exact this
 | exit id => exact hk.elim
 | goto l => exact hk.elim
 | outgrown => exact hk.elim

theorem upon_then {P : Program} (o : Oper) (a : Act) (next X : Act → World → Prop) (Q : Exit → Act → World → Prop) (r : Result Next) (h : o.upon P a next (Exit.then X Q) r) : o.upon P a next Q r := by
 cases r with
 | ok x w' => cases x <;> exact h
 | halt x w' => cases x <;> exact h
theorem wpList_append {P : Program} {ops : Array Oper} : ∀ (l r : List Oper) (Q : Exit → Act → World → Prop) (a : Act) (w : World), wpList P ops (Exit.then (wpList P ops Q r) Q) l a w → wpList P ops Q (l ++ r) a w := by
 intro l
 induction l with
 | nil => intro r Q a w h; exact h
 | cons o l ih =>
  intro r Q a w h
  show wpList P ops Q (o :: (l ++ r)) a w
  unfold wpList at h ⊢
  split
  ·rename_i hw
   rw [if_pos hw] at h
   refine h.imp (fun h => ?_) (fun h => h)
   exact upon_then o a _ _ Q _ (Oper.wp_mono (fun a w h => ih r Q a w h) h)
  ·rename_i hw
   rw [if_neg hw] at h
   exact ih r Q _ _ h

theorem upon_mono {P : Program} (o : Oper) (a : Act) {next next' : Act → World → Prop} {Q Q' : Exit → Act → World → Prop} (hn : ∀ a w, next a w → next' a w) (hq : ∀ ex a w, Q ex a w → Q' ex a w) (r : Result Next) (h : o.upon P a next Q r) : o.upon P a next' Q' r := by
 cases r with
 | ok x w' =>
  cases x <;> simp only [Oper.upon] at h ⊢
  case value => exact hn _ _ h
  case skip => exact hn _ _ h
  case defer => exact hn _ _ h
  case enter =>
   refine h.mono fun en w'' hh => ?_
   cases en with
   | returned v => exact hn _ _ hh
   | panicked ch => exact hq _ _ _ hh
   | outgrown => obtain ⟨a, w, h⟩ := hh; exact ⟨a, w, hq _ _ _ h⟩
  case row => exact h.mono fun v w'' hh => hn _ _ hh
 | halt x w' =>
  cases x <;> simp only [Oper.upon] at h ⊢
  case panic => exact hq _ _ _ h
theorem wpList_mono {P : Program} {ops : Array Oper} {Q Q' : Exit → Act → World → Prop} (hq : ∀ ex a w, Q ex a w → Q' ex a w) : ∀ (l : List Oper) (a : Act) (w : World), wpList P ops Q l a w → wpList P ops Q' l a w := by
 intro l
 induction l with
 | nil => intro a w h; exact hq _ _ _ h
 | cons o l ih =>
  intro a w h
  unfold wpList at h ⊢
  split
  ·rename_i hw
   rw [if_pos hw] at h
   refine h.imp (fun h => upon_mono o a ih hq _ h) (fun h => ⟨h.1, ?_⟩)
   obtain ⟨a, w, h⟩ := h.2
   exact ⟨a, w, hq _ _ _ h⟩
  ·rename_i hw
   rw [if_neg hw] at h
   exact ih _ _ h

/-- A region whose last operation defers a call of a function value. -/
theorem wd_defer (ht : TabOk cx.P cx.tab) {fn : Func} {R : Ending → World → Prop} {id : Nat} {ops : Array Oper} {y : Code} {e : Env} {m : Mem} (n : Nat) {f : Operand} {args : Array Operand} {tys : Array TypeId} {ty : Nat} {pos : String} {after : Array Edge}
  (hlast : dropL n ops.toList = [⟨none, .defer ⟨.value f, args, tys⟩, ty, pos, after, none⟩]) (hds : dstsOk cx.n (takeL n ops.toList) = true)
  (h : XL cx ops (fun ex e m => match ex with
   | .normal => ∃ g first cap vs9, e.ev f = some (.func (.func g) first cap) ∧ Env.evs e args.toList = some vs9 ∧ WD cx.P fn R cx.n cx.w0 cx.S ({ target := .fn (.func g) cap, args := first ++ vs9.toArray } :: cx.df) y e m
   | ex => finD cx fn R ex e m) (takeL n ops.toList) none [] e m) : WD cx.P fn R cx.n cx.w0 cx.S cx.df (.seq (.region id ops false) y) e m := by
 rw [takeL_eq] at h hds
 rw [dropL_eq] at hlast
 intro a w he hm
 refine wp_seq (wp_region_list ?_)
 conv => arg 4; rw [← List.take_append_drop n ops.toList]
 refine wpList_append _ _ _ _ _ ?_
 refine wpList_mono ?_ _ _ _ (XL_ok ht _ none [] e m a w hds he hm ScOk.none_ (KnOk.nil e) h)
 rintro ex a' w' ⟨e', m', he', hm', hk⟩
 cases ex with
 | normal =>
  obtain ⟨g, first, cap, vs9, hf, ha, hk⟩ := hk
  show wpList _ _ _ _ _ _
  rw [hlast]
  have hev := he'.ev hf
  have hevs := evs_arr he' ha
  refine wpList_on rfl ?_
  unfold Oper.wp
  have hrun : (execOp a'.eval ⟨none, .defer ⟨.value f, args, tys⟩, ty, pos, after, none⟩).run cx.P w' = .ok (.defer { target := .fn (.func g) cap, args := first ++ vs9.toArray }) w' := by
   simp only [execOp, resolve, hev, hevs, Deferred.ofValue]
   rfl
  rw [hrun, Oper.upon_defer]
  refine hk _ w' ⟨?_, he'.2.1, he'.2.2⟩ hm'
  show _ :: a'.defers = _
  rw [he'.1]
 | ret => have := hk a' w' he' hm'; rw [← he'.1] at this; exact this
 | panic ch => have := hk a' w' he' hm'; rw [← he'.1] at this; exact this
 | exit id => exact hk.elim
 | goto l => exact hk.elim
 | outgrown => exact hk.elim

theorem finD_r {fn : Func} {R : Ending → World → Prop} {e : Env} {m : Mem} {ex : Exit} (hx : ex = .ret ∨ ex = .normal) (h : ∀ a w, EnvOk cx.n cx.df e a → MemOk cx.w0 cx.S m w → Leaves cx.P fn a.tmps R cx.df .returning w) : finD cx fn R ex e m := by
 rcases hx with rfl | rfl <;> exact h
theorem finD_p {fn : Func} {R : Ending → World → Prop} {e : Env} {m : Mem} {ch : List PanicEntry} (h : ∀ a w, EnvOk cx.n cx.df e a → MemOk cx.w0 cx.S m w → Leaves cx.P fn a.tmps R cx.df (.panicking ch) w) : finD cx fn R (.panic ch) e m := h
/-- How the function ends behind its deferred call, in this mode. -/
def DEnd (cx : Cx) (fn : Func) (R : Ending → World → Prop) (e : Env) (m : Mem) : FrameMode → Prop
 | .returning => ∃ vs, resL cx m e fn.results.toList vs ∧ ∀ w, MemOk cx.w0 cx.S m w → R (.returned (packL vs)) w
 | .panicking ch => ∀ w, MemOk cx.w0 cx.S m w → R (.panicked ch) w
 | .run => False
theorem dend_c1 {fn : Func} {R : Ending → World → Prop} {e : Env} {m : Mem} {t : Tmp} {ty : TypeId} (hr : fn.results = #[.cell t ty]) {u v : Value} (hu : e.get t = some u) (hv : Ld cx m ty u v) (h : ∀ w, MemOk cx.w0 cx.S m w → R (.returned v) w) : DEnd cx fn R e m .returning :=
 ⟨[v], (by rw [hr]; exact ⟨u, v, [], hu, hv, rfl, rfl⟩), h⟩
/-- The one deferred call is made. -/
theorem leaves_one {fn : Func} {R : Ending → World → Prop} {e : Env} {m : Mem} {g : Nat} {vs9 : Array Value} {cap : Array Value} {u : FrameMode} (hdf : cx.df = [{ target := .fn (.func g) cap, args := vs9 }]) (hu : u ≠ .run) (hE : Enters cx.P g)
  (h : ∀ w, MemOk cx.w0 cx.S m w → CallsD cx.P g (vs9 ++ cap) u w fun en u' w' => match en with
   | .returned _ => ∃ m', MemOk cx.w0 cx.S m' w' ∧ DEnd cx fn R e m' (settle u')
   | .panicked ch => ∃ m', MemOk cx.w0 cx.S m' w' ∧ DEnd cx fn R e m' (raised u' ch)
   | .outgrown => False) :
  ∀ a w, EnvOk cx.n cx.df e a → MemOk cx.w0 cx.S m w → Leaves cx.P fn a.tmps R cx.df u w := by
 intro a w he hm
 have fin : ∀ u m' w', MemOk cx.w0 cx.S m' w' → DEnd cx fn R e m' u → Leaves cx.P fn a.tmps R [] u w' := by
  intro u m' w' hm' hk
  cases u with
  | run => exact hk.elim
  | returning =>
   obtain ⟨vs, h1, h2⟩ := hk
   exact ⟨_, results_run he hm' h1, h2 w' hm'⟩
  | panicking ch => exact hk w' hm'
 rw [hdf]
 refine leaves_cons hu (hE _ _) ((h w hm).mono fun en u' w' hh => ?_)
 cases en with
 | returned v => obtain ⟨m', h1, h2⟩ := hh; exact fin _ m' w' h1 h2
 | panicked ch => obtain ⟨m', h1, h2⟩ := hh; exact fin _ m' w' h1 h2
 | outgrown => exact hh.elim

/-- A function that defers is entered. -/
theorem enter_d (e0 : Env) (_ : TabOk cx.P cx.tab) {f : FuncId} {fn : Func} {c : Code} (hf : cx.P.funcs[f]? = some fn) (hb : fn.body = some c) (hn : fn.ntmps = cx.n) (he0 : slotsOk 0 e0 = true) (hl : Nat.ble e0.length cx.n = true) {m : Mem} {w : World} (hm : MemOk cx.w0 cx.S m w)
  {R : Ending → World → Prop} (h : WD cx.P fn R cx.n cx.w0 cx.S [] c e0 m) : Calls cx.P f (e0.map (·.2)).toArray w R := by
 have he0' := slotsOk_eq he0
 generalize hargs : e0.map (·.2) = args at he0'
 subst he0'
 refine calls_of_wp_defers hf hb (h _ w ⟨rfl, ?_, ?_⟩ hm)
 ·have hle := Nat.le_of_ble_eq_true hl
  have hlen : args.length ≤ cx.n := by rw [← hargs]; simpa using hle
  simp; omega
 ·intro t v hv
  obtain ⟨_, h2⟩ := argEnv_get _ _ _ _ hv
  simp at h2
  have h3 : (args.toArray ++ Array.replicate (fn.ntmps - args.toArray.size) undef)[t]? = some v := by
   rw [Array.getElem?_append_left (by simpa using (List.getElem?_eq_some_iff.1 h2).1)]
   simpa using h2
  rw [Array.getD_eq_getD_getElem?, h3]
  rfl

/-- A deferred function that does not recover. -/
theorem enter_def (e0 : Env) (ht : TabOk cx.P cx.tab) {f : FuncId} {fn : Func} {c : Code} (hf : cx.P.funcs[f]? = some fn) (hb : fn.body = some c) (hn : fn.ntmps = cx.n) (he0 : slotsOk 0 e0 = true) (hl : Nat.ble e0.length cx.n = true) {m : Mem} {w : World} (hm : MemOk cx.w0 cx.S m w)
  {R : Ending → World → Prop} {u : FrameMode} (h : XC cx c (fin cx fn R) e0 m) (hD : cx.df = [] := by rfl) : CallsD cx.P f (e0.map (·.2)).toArray u w fun e u' w' => u' = u ∧ R e w' := by
 have he0' := slotsOk_eq he0
 generalize hargs : e0.map (·.2) = args at he0'
 subst he0'
 refine callsD_of_wp hf hb (wp_mono (XC_ok ht c _ _ m _ w ⟨hD.symm, ?_, ?_⟩ hm h) ?_)
 ·have hle := Nat.le_of_ble_eq_true hl
  have hlen : args.length ≤ cx.n := by rw [← hargs]; simpa using hle
  simp; omega
 ·intro t v hv
  obtain ⟨_, h2⟩ := argEnv_get _ _ _ _ hv
  simp at h2
  have h3 : (args.toArray ++ Array.replicate (fn.ntmps - args.toArray.size) undef)[t]? = some v := by
   rw [Array.getElem?_append_left (by simpa using (List.getElem?_eq_some_iff.1 h2).1)]
   simpa using h2
  rw [Array.getD_eq_getD_getElem?, h3]
  rfl
 ·rintro ex a' w' ⟨e', m', he', hm', hk⟩
  cases ex with
  | normal => obtain ⟨vs, h1, h2⟩ := hk; exact ⟨he'.1.trans hD, _, results_run he' hm' h1, h2 w' hm'⟩
  | ret => obtain ⟨vs, h1, h2⟩ := hk; exact ⟨he'.1.trans hD, _, results_run he' hm' h1, h2 w' hm'⟩
  | panic ch => exact ⟨he'.1.trans hD, hk w' hm'⟩
  | exit id => exact hk.elim
  | goto l => exact hk.elim
  | outgrown => exact hk.elim

/-- What recover hands out in a mode, and the mode behind it. -/
def recV : FrameMode → Value × FrameMode
 | .panicking ({ v, recovered := false, goexit := false } :: older) => (v, .panicking ({ v, recovered := true } :: older))
 | u => (.nilIface, u)
theorem recoverD_eq (c : Frame) (cs : List Frame) : (match recoverD (c :: cs) with
  | some (v, cs') => (v, cs')
  | none => (.nilIface, c :: cs)) = ((recV c.mode).1, { c with mode := (recV c.mode).2 } :: cs) := by
 obtain ⟨fn, tmps, todo, defers, mode, kind, ro⟩ := c
 cases mode with
 | run => rfl
 | returning => rfl
 | panicking ch =>
  cases ch with
  | nil => rfl
  | cons p older =>
   obtain ⟨v, r, g⟩ := p
   cases r <;> cases g <;> rfl

/-- A deferred function whose first region is one recover. -/
theorem enter_rec (e0 : Env) (ht : TabOk cx.P cx.tab) {f : FuncId} {fn : Func} {c : Code} (hf : cx.P.funcs[f]? = some fn) {id d : Nat} {ty : Nat} {pos : String} {tys : Array TypeId} (hb : fn.body = some (.seq (.region id #[⟨some d, .call ⟨.builtin .recover, #[], tys⟩, ty, pos, #[], none⟩] false) c)) (hn : fn.ntmps = cx.n) (he0 : slotsOk 0 e0 = true) (hl : Nat.ble e0.length cx.n = true) (hd : Nat.blt d cx.n = true) {m : Mem} {w : World} (hm : MemOk cx.w0 cx.S m w)
  {R : Ending → World → Prop} {u : FrameMode} (h : XC cx c (fin cx fn R) ((d, (recV u).1) :: e0) m) (hD : cx.df = [] := by rfl) : CallsD cx.P f (e0.map (·.2)).toArray u w fun e u' w' => u' = (recV u).2 ∧ R e w' := by
 have he0' := slotsOk_eq he0
 generalize hargs : e0.map (·.2) = args at he0'
 subst he0'
 refine callsD_of_wpS hf hb fun c₀ cs hu => ?_
 have he : EnvOk cx.n cx.df (argEnv 0 args) { tmps := args.toArray ++ Array.replicate (fn.ntmps - args.toArray.size) undef, defers := [] } := by
  refine ⟨hD.symm, ?_, ?_⟩
  ·have hle := Nat.le_of_ble_eq_true hl
   have hlen : args.length ≤ cx.n := by rw [← hargs]; simpa using hle
   simp; omega
  ·intro t v hv
   obtain ⟨_, h2⟩ := argEnv_get _ _ _ _ hv
   simp at h2
   have h3 : (args.toArray ++ Array.replicate (fn.ntmps - args.toArray.size) undef)[t]? = some v := by
    rw [Array.getElem?_append_left (by simpa using (List.getElem?_eq_some_iff.1 h2).1)]
    simpa using h2
   rw [Array.getD_eq_getD_getElem?, h3]
   rfl
 have hd' : (some d).all (fun i => decide (i < cx.n)) = true := by
  have : d < cx.n := Nat.le_of_ble_eq_true hd
  simp [this]
 have rest : ∀ a, EnvOk cx.n cx.df ((d, (recV u).1) :: argEnv 0 args) a → c.wpS cx.P (bodyPostS cx.P fn c₀ cs fun e u' w' => u' = (recV u).2 ∧ R e w') a ({ c₀ with mode := (recV u).2 } :: cs) w := by
  intro a ha
  refine wpS_of_wp (wp_mono (XC_ok ht c _ _ m _ w ha hm h) ?_)
  rintro ex a' w' ⟨e', m', he', hm', hk⟩
  cases ex with
  | normal => obtain ⟨vs, h1, h2⟩ := hk; exact ⟨he'.1.trans hD, _, rfl, _, results_run he' hm' h1, rfl, h2 w' hm'⟩
  | ret => obtain ⟨vs, h1, h2⟩ := hk; exact ⟨he'.1.trans hD, _, rfl, _, results_run he' hm' h1, rfl, h2 w' hm'⟩
  | panic ch => exact ⟨he'.1.trans hD, _, rfl, rfl, hk w' hm'⟩
  | exit id => exact hk.elim
  | goto l => exact hk.elim
  | outgrown => exact hk.elim
 refine wpS_seq (wpS_region ?_)
 have hr := recoverD_eq c₀ cs
 rw [hu] at hr
 generalize ha : ({ tmps := args.toArray ++ Array.replicate (fn.ntmps - args.toArray.size) undef, defers := [] } : Act) = a at he
 show wpOpsS _ _ _ [0] _ _ _
 have hrun : (execOp a.eval ⟨some d, .call ⟨.builtin .recover, #[], tys⟩, ty, pos, #[], none⟩).run cx.P w = .ok .recover w := rfl
 simp only [wpOpsS, List.getElem?_toArray, List.getElem?_cons_zero, Region.wanted, if_true, hrun]
 cases hrec : recoverD (c₀ :: cs) with
 | none =>
  rw [hrec] at hr
  simp only [Prod.mk.injEq] at hr
  simp only [Exit.thenS]
  rw [hr.2, hr.1]
  exact rest _ (he.put hd' _)
 | some p =>
  obtain ⟨v, cs'⟩ := p
  rw [hrec] at hr
  simp only [Prod.mk.injEq] at hr
  simp only [Exit.thenS]
  rw [hr.2, hr.1]
  exact rest _ (he.put hd' _)
/-- A call that owns the part m1 of the memory; what it leaves comes behind the rest. -/
theorem cl_perm {m m1 r : Mem} {g : Nat} {vs9 : List Value} {K : Value → Mem → Prop} {KP : List PanicEntry → Mem → Prop} {R : Ending → Mem → Prop} (hp : m.Perm (m1 ++ r))
  (h : ∀ w, MemOk cx.w0 cx.S (m1 ++ r) w → Ctr cx.P g vs9 m1 R w)
  (hk : ∀ e m', R e m' → match e with
   | .returned v => K v (r ++ m')
   | .panicked ch => KP ch (r ++ m')
   | .outgrown => False) : Cl cx m g vs9 K KP := by
 intro w hm
 have hm' := hm.perm hp
 refine (h w hm').mono fun e w' ⟨m', hr, ho⟩ => ?_
 have hf := (hm'.frame ho).perm (List.perm_append_comm)
 have := hk e m' hr
 cases e with
 | returned v => exact ⟨_, hf, this⟩
 | panicked ch => exact ⟨_, hf, this⟩
 | outgrown => exact this
/-- A deferred call's contract over a part of the memory. -/
def CtrD (P : Program) (g : Nat) (args : List Value) (u : FrameMode) (m : Mem) (R : Ending → FrameMode → Mem → Prop) (w : World) : Prop :=
 CallsD P g args.toArray u w fun e u' w' => ∃ m', R e u' m' ∧ MemOk w (Foot m) m' w'
theorem leaves_mem {fn : Func} {R : Ending → World → Prop} {e : Env} {m m1 r : Mem} {g : Nat} {vs9 : Array Value} {cap : Array Value} {args : List Value} {u : FrameMode} {RD : Ending → FrameMode → Mem → Prop} (hdf : cx.df = [{ target := .fn (.func g) cap, args := vs9 }]) (hu : u ≠ .run) (hE : Enters cx.P g) (ha : vs9 ++ cap = args.toArray) (hs : Sel m m1 r)
  (h : ∀ w, MemOk cx.w0 cx.S (m1 ++ r) w → CtrD cx.P g args u m1 RD w)
  (hk : ∀ en u' m', RD en u' m' → match en with
   | .returned _ => DEnd cx fn R e (m' ++ r) (settle u')
   | .panicked ch => DEnd cx fn R e (m' ++ r) (raised u' ch)
   | .outgrown => False) :
  ∀ a w, EnvOk cx.n cx.df e a → MemOk cx.w0 cx.S m w → Leaves cx.P fn a.tmps R cx.df u w := by
 refine leaves_one hdf hu hE fun w hm => ?_
 have hm' := hm.perm hs.perm
 rw [ha]
 refine (h w hm').mono fun en u' w' ⟨m', hr, ho⟩ => ?_
 have hf := hm'.frame ho
 have := hk en u' m' hr
 cases en with
 | returned v => exact ⟨_, hf, this⟩
 | panicked ch => exact ⟨_, hf, this⟩
 | outgrown => exact this
end
end Go.Proofs.YtbfbjgakmnckbaaGreatDoor.Eng
namespace Go.Proofs.YtbfbjgakmnckbaaGreatDoor
open Go Eng

def ty29 : TyI := ⟨.struct [(0, 1), (1, 1), (2, 1), (3, 1), (4, 1), (5, 1), (6, 1), (7, 1), (8, 1), (9, 1), (10, 2), (12, 1)], 13, 160, [.int .i64 0, .string ⟨#[]⟩, .string ⟨#[]⟩, .string ⟨#[]⟩, .int .i64 0, .int .i64 0, .slice none 0 0, .int .i64 0, .int .i64 0, .bool false, .int .i64 0, .int .i64 0, .slice none 0 0]⟩
theorem ty29_ok : ty29.ok Tryz.prog 29 := ty_struct (by kernel_rfl) (by kernel_rfl)
def ty9 : TyI := ⟨.str, 1, 16, [.string ⟨#[]⟩]⟩
theorem ty9_ok : ty9.ok Tryz.prog 9 := ty_str (by kernel_rfl) (by kernel_rfl)
def ty46 : TyI := ⟨.slice 29, 1, 24, [.slice none 0 0]⟩
theorem ty46_ok : ty46.ok Tryz.prog 46 := ty_slice (by kernel_rfl) (by kernel_rfl)
def ty3 : TyI := ⟨.int .i64, 1, 8, [.int .i64 0]⟩
theorem ty3_ok : ty3.ok Tryz.prog 3 := ty_int (by kernel_rfl) (by kernel_rfl)
def ty68 : TyI := ⟨.slice 9, 1, 24, [.slice none 0 0]⟩
theorem ty68_ok : ty68.ok Tryz.prog 68 := ty_slice (by kernel_rfl) (by kernel_rfl)
def ty23 : TyI := ⟨.slice 5, 1, 24, [.slice none 0 0]⟩
theorem ty23_ok : ty23.ok Tryz.prog 23 := ty_slice (by kernel_rfl) (by kernel_rfl)
def ty27 : TyI := ⟨.slice 3, 1, 24, [.slice none 0 0]⟩
theorem ty27_ok : ty27.ok Tryz.prog 27 := ty_slice (by kernel_rfl) (by kernel_rfl)
def ty5 : TyI := ⟨.int .u8, 1, 1, [.int .u8 0]⟩
theorem ty5_ok : ty5.ok Tryz.prog 5 := ty_int (by kernel_rfl) (by kernel_rfl)
def ty22 : TyI := ⟨.int .i64, 1, 8, [.int .i64 0]⟩
theorem ty22_ok : ty22.ok Tryz.prog 22 := ty_int (by kernel_rfl) (by kernel_rfl)
def ty78 : TyI := ⟨.struct [(0, 1), (1, 1)], 2, 24, [.string ⟨#[]⟩, .nilFunc]⟩
theorem ty78_ok : ty78.ok Tryz.prog 78 := ty_struct (by kernel_rfl) (by kernel_rfl)
def ty33 : TyI := ⟨.int .i64, 1, 8, [.int .i64 0]⟩
theorem ty33_ok : ty33.ok Tryz.prog 33 := ty_int (by kernel_rfl) (by kernel_rfl)
def ty4 : TyI := ⟨.bool, 1, 1, [.bool false]⟩
theorem ty4_ok : ty4.ok Tryz.prog 4 := ty_bool (by kernel_rfl) (by kernel_rfl)
def ty2 : TyI := ⟨.int .i64, 1, 8, [.int .i64 0]⟩
theorem ty2_ok : ty2.ok Tryz.prog 2 := ty_int (by kernel_rfl) (by kernel_rfl)
def ty26 : TyI := ⟨.struct [(0, 1), (1, 1)], 2, 16, [.int .i64 0, .int .i64 0]⟩
theorem ty26_ok : ty26.ok Tryz.prog 26 := ty_struct (by kernel_rfl) (by kernel_rfl)
def ty124 : TyI := ⟨.plain, 1, 8, [.pointer none]⟩
theorem ty124_ok : ty124.ok Tryz.prog 124 := ty_plain (by kernel_rfl) (by kernel_rfl)
def ty62 : TyI := ⟨.slice 46, 1, 24, [.slice none 0 0]⟩
theorem ty62_ok : ty62.ok Tryz.prog 62 := ty_slice (by kernel_rfl) (by kernel_rfl)
def ty24 : TyI := ⟨.int .i64, 1, 8, [.int .i64 0]⟩
theorem ty24_ok : ty24.ok Tryz.prog 24 := ty_int (by kernel_rfl) (by kernel_rfl)
def ty145 : TyI := ⟨.struct [(0, 1)], 1, 8, [.int .i64 0]⟩
theorem ty145_ok : ty145.ok Tryz.prog 145 := ty_struct (by kernel_rfl) (by kernel_rfl)
def ty131 : TyI := ⟨.plain, 1, 8, [.pointer none]⟩
theorem ty131_ok : ty131.ok Tryz.prog 131 := ty_plain (by kernel_rfl) (by kernel_rfl)
def ty83 : TyI := ⟨.plain, 1, 8, [.pointer none]⟩
theorem ty83_ok : ty83.ok Tryz.prog 83 := ty_plain (by kernel_rfl) (by kernel_rfl)
def ty135 : TyI := ⟨.plain, 1, 8, [.pointer none]⟩
theorem ty135_ok : ty135.ok Tryz.prog 135 := ty_plain (by kernel_rfl) (by kernel_rfl)
def ty85 : TyI := ⟨.struct [(0, 1)], 1, 24, [.slice none 0 0]⟩
theorem ty85_ok : ty85.ok Tryz.prog 85 := ty_struct (by kernel_rfl) (by kernel_rfl)
def ty75 : TyI := ⟨.slice 78, 1, 24, [.slice none 0 0]⟩
theorem ty75_ok : ty75.ok Tryz.prog 75 := ty_slice (by kernel_rfl) (by kernel_rfl)
def ty133 : TyI := ⟨.plain, 1, 8, [.pointer none]⟩
theorem ty133_ok : ty133.ok Tryz.prog 133 := ty_plain (by kernel_rfl) (by kernel_rfl)
def ty82 : TyI := ⟨.plain, 1, 8, [.pointer none]⟩
theorem ty82_ok : ty82.ok Tryz.prog 82 := ty_plain (by kernel_rfl) (by kernel_rfl)
def ty129 : TyI := ⟨.iface, 1, 16, [.nilIface]⟩
theorem ty129_ok : ty129.ok Tryz.prog 129 := ty_iface (by kernel_rfl) (by kernel_rfl)
def ty137 : TyI := ⟨.plain, 1, 8, [.pointer none]⟩
theorem ty137_ok : ty137.ok Tryz.prog 137 := ty_plain (by kernel_rfl) (by kernel_rfl)
def ty125 : TyI := ⟨.struct [(0, 1)], 1, 24, [.slice none 0 0]⟩
theorem ty125_ok : ty125.ok Tryz.prog 125 := ty_struct (by kernel_rfl) (by kernel_rfl)
def ty53 : TyI := ⟨.plain, 1, 8, [.nilFunc]⟩
theorem ty53_ok : ty53.ok Tryz.prog 53 := ty_plain (by kernel_rfl) (by kernel_rfl)
def ty108 : TyI := ⟨.struct [(0, 1), (1, 1)], 2, 32, [.pointer none, .slice none 0 0]⟩
theorem ty108_ok : ty108.ok Tryz.prog 108 := ty_struct (by kernel_rfl) (by kernel_rfl)
def ty76 : TyI := ⟨.plain, 1, 8, [.nilFunc]⟩
theorem ty76_ok : ty76.ok Tryz.prog 76 := ty_plain (by kernel_rfl) (by kernel_rfl)
def ty20 : TyI := ⟨.iface, 1, 16, [.nilIface]⟩
theorem ty20_ok : ty20.ok Tryz.prog 20 := ty_iface (by kernel_rfl) (by kernel_rfl)
def ty139 : TyI := ⟨.plain, 1, 8, [.pointer none]⟩
theorem ty139_ok : ty139.ok Tryz.prog 139 := ty_plain (by kernel_rfl) (by kernel_rfl)
def ty80 : TyI := ⟨.plain, 1, 8, [.nilFunc]⟩
theorem ty80_ok : ty80.ok Tryz.prog 80 := ty_plain (by kernel_rfl) (by kernel_rfl)
def ty42 : TyI := ⟨.plain, 1, 8, [.nilFunc]⟩
theorem ty42_ok : ty42.ok Tryz.prog 42 := ty_plain (by kernel_rfl) (by kernel_rfl)
def ty231 : TyI := ⟨.plain, 1, 8, [.nilFunc]⟩
theorem ty231_ok : ty231.ok Tryz.prog 231 := ty_plain (by kernel_rfl) (by kernel_rfl)
def ty143 : TyI := ⟨.plain, 1, 8, [.pointer none]⟩
theorem ty143_ok : ty143.ok Tryz.prog 143 := ty_plain (by kernel_rfl) (by kernel_rfl)
def ty141 : TyI := ⟨.plain, 1, 8, [.pointer none]⟩
theorem ty141_ok : ty141.ok Tryz.prog 141 := ty_plain (by kernel_rfl) (by kernel_rfl)
def ty120 : TyI := ⟨.plain, 1, 8, [.nilFunc]⟩
theorem ty120_ok : ty120.ok Tryz.prog 120 := ty_plain (by kernel_rfl) (by kernel_rfl)
def ty110 : TyI := ⟨.iface, 1, 16, [.nilIface]⟩
theorem ty110_ok : ty110.ok Tryz.prog 110 := ty_iface (by kernel_rfl) (by kernel_rfl)
def ty102 : TyI := ⟨.plain, 1, 8, [.nilFunc]⟩
theorem ty102_ok : ty102.ok Tryz.prog 102 := ty_plain (by kernel_rfl) (by kernel_rfl)
def ty1 : TyI := ⟨.plain, 1, 8, [.nilFunc]⟩
theorem ty1_ok : ty1.ok Tryz.prog 1 := ty_plain (by kernel_rfl) (by kernel_rfl)
def tab : Tab := [(29, ty29), (9, ty9), (46, ty46), (3, ty3), (68, ty68), (23, ty23), (27, ty27), (5, ty5), (22, ty22), (78, ty78), (33, ty33), (4, ty4), (2, ty2), (26, ty26), (124, ty124), (62, ty62), (24, ty24), (145, ty145), (131, ty131), (83, ty83), (135, ty135), (85, ty85), (75, ty75), (133, ty133), (82, ty82), (129, ty129), (137, ty137), (125, ty125), (53, ty53), (108, ty108), (76, ty76), (20, ty20), (139, ty139), (80, ty80), (42, ty42), (231, ty231), (143, ty143), (141, ty141), (120, ty120), (110, ty110), (102, ty102), (1, ty1)]
theorem tab_ok : TabOk Tryz.prog tab := .cons ty29_ok (.cons ty9_ok (.cons ty46_ok (.cons ty3_ok (.cons ty68_ok (.cons ty23_ok (.cons ty27_ok (.cons ty5_ok (.cons ty22_ok (.cons ty78_ok (.cons ty33_ok (.cons ty4_ok (.cons ty2_ok (.cons ty26_ok (.cons ty124_ok (.cons ty62_ok (.cons ty24_ok (.cons ty145_ok (.cons ty131_ok (.cons ty83_ok (.cons ty135_ok (.cons ty85_ok (.cons ty75_ok (.cons ty133_ok (.cons ty82_ok (.cons ty129_ok (.cons ty137_ok (.cons ty125_ok (.cons ty53_ok (.cons ty108_ok (.cons ty76_ok (.cons ty20_ok (.cons ty139_ok (.cons ty80_ok (.cons ty42_ok (.cons ty231_ok (.cons ty143_ok (.cons ty141_ok (.cons ty120_ok (.cons ty110_ok (.cons ty102_ok (.cons ty1_ok (.nil _))))))))))))))))))))))))))))))))))))))))))
end Go.Proofs.YtbfbjgakmnckbaaGreatDoor
namespace Go.Proofs.YtbfbjgakmnckbaaGreatDoor
open Go Go.RowKit Eng

/-- A function of n slots that writes no old memory; wr: the slots whose sums may wrap. -/
noncomputable def CX (n : Nat) (wr : List Nat) (w : World) : Cx := ⟨Tryz.prog, n, w, fun _ => False, tab, wr, [], [], []⟩
/-- .. whose walk is to stand at the parts that begin with the regions st. -/
noncomputable def CXc (n : Nat) (wr st : List Nat) (w : World) : Cx := ⟨Tryz.prog, n, w, fun _ => False, tab, wr, [], st, []⟩
/-- A function that may write the old blocks S. -/
noncomputable def CXS (n : Nat) (wr : List Nat) (w : World) (S : Nat → Prop) : Cx := ⟨Tryz.prog, n, w, S, tab, wr, [], [], []⟩

/-- An act as plain data. -/
structure PAct where
 kind : Int
 name : ByteArray
 other : ByteArray
 third : ByteArray
 at_ : Int
 n : Int
 bytes : List UInt8
 bits : Int
 order : Int
 on : Bool
 fk : Int
 keep : Int
 picks : List Int

/-- What every act that comes from memory is: its numbers fit, its lengths are lengths. -/
structure PAct.Ok (a : PAct) : Prop where
 kind : -9223372036854775808 ≤ a.kind ∧ a.kind ≤ 9223372036854775807
 at_ : -9223372036854775808 ≤ a.at_ ∧ a.at_ ≤ 9223372036854775807
 n : -9223372036854775808 ≤ a.n ∧ a.n ≤ 9223372036854775807
 bits : -9223372036854775808 ≤ a.bits ∧ a.bits ≤ 9223372036854775807
 order : -9223372036854775808 ≤ a.order ∧ a.order ≤ 9223372036854775807
 fk : -9223372036854775808 ≤ a.fk ∧ a.fk ≤ 9223372036854775807
 keep : -9223372036854775808 ≤ a.keep ∧ a.keep ≤ 9223372036854775807
 picksR : ∀ x ∈ a.picks, -9223372036854775808 ≤ x ∧ x ≤ 9223372036854775807
 name : a.name.size ≤ 140737488355328
 other : a.other.size ≤ 140737488355328
 third : a.third.size ≤ 140737488355328
 bytes : a.bytes.length ≤ 140737488355328
 picks : a.picks.length ≤ 140737488355328

/-- The act's value; where its slices lie: bA, bc, pA, pc. -/
def actL (a : PAct) (bA : Option Addr) (bc : Nat) (pA : Option Addr) (pc : Nat) : List Value :=
 [.int .i64 a.kind, .string a.name, .string a.other, .string a.third, .int .i64 a.at_, .int .i64 a.n, .slice bA a.bytes.length bc, .int .i64 a.bits, .int .i64 a.order, .bool a.on, .int .i64 a.fk, .int .i64 a.keep, .slice pA a.picks.length pc]

/-- Where an act's slices lie, in a world. -/
structure ActIn (w : World) (a : PAct) (bA pA : Option Addr) : Prop where
 ok : a.Ok
 bytes : BytsIn w bA a.bytes
 picks : IntsIn .i64 w pA a.picks

/-- Are two acts the same? -/
def sameB (a b : PAct) : Bool :=
 decide (a.kind = b.kind) && decide (a.name = b.name) && decide (a.other = b.other) && decide (a.third = b.third) && decide (a.at_ = b.at_) && decide (a.n = b.n) && decide (a.bytes = b.bytes) && decide (a.bits = b.bits) && decide (a.order = b.order) && decide (a.on = b.on) && (decide (a.fk = b.fk) && decide (a.keep = b.keep)) && decide (a.picks = b.picks)
theorem sameB_iff (a b : PAct) : sameB a b = true ↔ a = b := by
 obtain ⟨a1, a2, a3, a4, a5, a6, a7, a8, a9, a10, a11, a12, a13⟩ := a
 obtain ⟨b1, b2, b3, b4, b5, b6, b7, b8, b9, b10, b11, b12, b13⟩ := b
 simp only [sameB, Bool.and_eq_true, decide_eq_true_eq, PAct.mk.injEq]
 constructor
 ·rintro ⟨⟨⟨⟨⟨⟨⟨⟨⟨⟨⟨q1, q2⟩, q3⟩, q4⟩, q5⟩, q6⟩, q7⟩, q8⟩, q9⟩, q10⟩, q11, q12⟩, q13⟩
  exact ⟨q1, q2, q3, q4, q5, q6, q7, q8, q9, q10, q11, q12, q13⟩
 ·rintro ⟨q1, q2, q3, q4, q5, q6, q7, q8, q9, q10, q11, q12, q13⟩
  exact ⟨⟨⟨⟨⟨⟨⟨⟨⟨⟨⟨q1, q2⟩, q3⟩, q4⟩, q5⟩, q6⟩, q7⟩, q8⟩, q9⟩, q10⟩, q11, q12⟩, q13⟩
theorem sameB_f {a b : PAct} (h : a ≠ b) : sameB a b = false := by
 cases hs : sameB a b with
 | false => rfl
 | true => exact absurd ((sameB_iff a b).1 hs) h
theorem ret_bool {x y : Bool} (h : x = y) : Ending.returned (.bool x) = .returned (.bool y) := by rw [h]
theorem list_eq_getD {xs ys : List Int} (hl : xs.length = ys.length) (h : ∀ j, j < xs.length → xs.getD j 0 = ys.getD j 0) : xs = ys := by
 apply List.ext_getElem hl
 intro i h1 h2
 have := h i h1
 simpa [List.getD, List.getElem?_eq_getElem h1, List.getElem?_eq_getElem h2] using this
end Go.Proofs.YtbfbjgakmnckbaaGreatDoor
namespace Go.Proofs.YtbfbjgakmnckbaaGreatDoor
open Go Go.RowKit Eng
theorem g_load {cx : Cx} {m : Mem} {t : Nat} {x : Value} {K : Value → Mem → Prop} (h : Rn cx m (Instr.loadAt t x) K) : Rn cx m (Instr.loadAt t x) K := h
theorem g_ldg {cx : Cx} {m : Mem} {t : Nat} {x : Value} {g : Prop} {K : Value → Prop} (h : ∃ v, RdG cx g m (Instr.loadAt t x) v ∧ K v) : ∃ v, RdG cx g m (Instr.loadAt t x) v ∧ K v := h
theorem g_store {cx : Cx} {m : Mem} {t : Nat} {x v : Value} {K : Mem → Prop} (h : RnU cx m (Instr.storeAt t x v) K) : RnU cx m (Instr.storeAt t x v) K := h
theorem g_app {cx : Cx} {m : Mem} {ts : Array Nat} {ty : Nat} {vs : Array Value} {K : Value → Mem → Prop} (h : Rn cx m (Builtin.append_ ts ty vs) K) : Rn cx m (Builtin.append_ ts ty vs) K := h
theorem g_leI {a b : Int} {K : Prop} (h : a ≤ b ∧ K) : a ≤ b ∧ K := h
theorem g_ltI {a b : Int} {K : Prop} (h : a < b ∧ K) : a < b ∧ K := h
theorem g_leN {a b : Nat} {K : Prop} (h : a ≤ b ∧ K) : a ≤ b ∧ K := h
theorem g_neI {a b : Int} {K : Prop} (h : a ≠ b ∧ K) : a ≠ b ∧ K := h
theorem g_imp {a : Bool} {q K : Prop} (h : (a = true → q) ∧ K) : (a = true → q) ∧ K := h
theorem g_impf {a : Bool} {q K : Prop} (h : (a = false → q) ∧ K) : (a = false → q) ∧ K := h
theorem g_fits {k : IntKind} {n : Int} {K : Prop} (h : Fits k n ∧ K) : Fits k n ∧ K := h
theorem g_ix {a b c d : Int} {K : Prop} (h : (a ≤ b ∧ c < d) ∧ K) : (a ≤ b ∧ c < d) ∧ K := h
theorem g_cl {cx : Cx} {f g : Nat} {m : Mem} {vs : List Value} {K : Value → Mem → Prop} {KP : List PanicEntry → Mem → Prop} (h : Eng.Enters cx.P f ∧ Cl cx m g vs K KP) : Eng.Enters cx.P f ∧ Cl cx m g vs K KP := h
theorem g_sub {cx : Cx} {m m' : Mem} {K : Prop} (h : SubM cx m m' ∧ K) : SubM cx m m' ∧ K := h

/-- What is told of every row that append may have made. -/
structure Ap2 (K : Option Addr → Nat → Prop) : Prop where
 go : ∀ A c, K A c
/-- The plain steps: the second follows, and from it the first. -/
inductive St : Prop → Prop → Prop
 | load {cx : Cx} {m : Mem} {t : Nat} {i : TyI} {b off t' : Nat} {cs : List Value} {v : Value} {K : Value → Mem → Prop} (hP : cx.P = Tryz.prog) (hT : cx.tab = tab) (hi : cx.tab.get t = some i) (hk : i.kind.flat = true) (hh : Has m (.blk b (.cells cs.toArray t'))) (hv : nth cs off = some v) :
  St (Rn cx m (Instr.loadAt t (.pointer (some ⟨b, off, none⟩))) K) (K v m)
 | ldg {cx : Cx} {m : Mem} {t : Nat} {i : TyI} {b off t' : Nat} {cs : List Value} {v : Value} {g : Prop} {K : Value → Prop} (hP : cx.P = Tryz.prog) (hT : cx.tab = tab) (hi : cx.tab.get t = some i) (hk : i.kind.flat = true) (hh : Has m (.blk b (.cells cs.toArray t'))) (hv : nth cs off = some v) :
  St (∃ v, RdG cx g m (Instr.loadAt t (.pointer (some ⟨b, off, none⟩))) v ∧ K v) (K v)
 | store {cx : Cx} {m m' : Mem} {t : Nat} {i : TyI} {b off t' : Nat} {cs cs' : List Value} {v : Value} {K : Mem → Prop} (hP : cx.P = Tryz.prog) (hT : cx.tab = tab) (hi : cx.tab.get t = some i) (hu : Upd m (.blk b (.cells cs.toArray t')) (.blk b (.cells cs'.toArray t')) m')
  (hl : (cellsL v).length = i.cells) (h1 : allOne (cellsL v) = true) (hfit : Nat.ble (off + (cellsL v).length) cs.length = true) (hcs : setsL off (cellsL v) cs = cs') : St (RnU cx m (Instr.storeAt t (.pointer (some ⟨b, off, none⟩)) v) K) (K m')
 | pl {b o : Nat} {K : Prop} : St (Pl (some ⟨b, o, none⟩) ∧ K) K
 | plf {g : Prop} {b o : Nat} {K : Prop} : St ((g → Pl (some ⟨b, o, none⟩)) ∧ K) K
 | sub {cx : Cx} {m : Mem} {K : Prop} : St (SubM cx m [] ∧ K) K
 | same {α : Sort 1} {a : α} {K : Prop} : St (a = a ∧ K) K
 | never {q K : Prop} : St ((false = true → q) ∧ K) K
 | fsame {α : Sort 1} {g : Prop} {a : α} {K : Prop} : St ((g → a = a) ∧ K) K
/-- .. loads of a struct. -/
inductive Sn : Prop → Prop → Prop
 | load {cx : Cx} {m : Mem} {t : Nat} {i : TyI} {b off t' : Nat} {cs vs : List Value} {fs : List (Nat × Nat)} {K : Value → Mem → Prop} (hP : cx.P = Tryz.prog) (hT : cx.tab = tab) (hi : cx.tab.get t = some i) (hk : i.kind = .struct fs) (hh : Has m (.blk b (.cells cs.toArray t'))) (hv : takeL i.cells (dropL off cs) = vs) (hl : vs.length = i.cells) :
  Sn (Rn cx m (Instr.loadAt t (.pointer (some ⟨b, off, none⟩))) K) (K (.agg vs.toArray) m)
 | ldg {cx : Cx} {m : Mem} {t : Nat} {i : TyI} {b off t' : Nat} {cs vs : List Value} {fs : List (Nat × Nat)} {g : Prop} {K : Value → Prop} (hP : cx.P = Tryz.prog) (hT : cx.tab = tab) (hi : cx.tab.get t = some i) (hk : i.kind = .struct fs) (hh : Has m (.blk b (.cells cs.toArray t'))) (hv : takeL i.cells (dropL off cs) = vs) (hl : vs.length = i.cells) :
  Sn (∃ v, RdG cx g m (Instr.loadAt t (.pointer (some ⟨b, off, none⟩))) v ∧ K v) (K (.agg vs.toArray))
/-- .. steps that owe something. -/
inductive So : Prop → Prop → Prop → Prop
 | fits {n : Int} {K : Prop} : So (-9223372036854775808 ≤ n ∧ n ≤ 9223372036854775807) (Fits .i64 n ∧ K) K
 | ix {a b c d : Int} {K : Prop} : So (a ≤ b ∧ c < d) ((a ≤ b ∧ c < d) ∧ K) K
 | sl {a b c d e f : Int} {K : Prop} : So (a ≤ b ∧ c ≤ d ∧ e ≤ f) ((a ≤ b ∧ c ≤ d ∧ e ≤ f) ∧ K) K
 | ll {a b c d : Int} {K : Prop} : So (a ≤ b ∧ c ≤ d) ((a ≤ b ∧ c ≤ d) ∧ K) K
 | leI {a b : Int} {K : Prop} : So (a ≤ b) (a ≤ b ∧ K) K
 | ltI {a b : Int} {K : Prop} : So (a < b) (a < b ∧ K) K
 | neI {a b : Int} {K : Prop} : So (a ≠ b) (a ≠ b ∧ K) K
 | eqI {a b : Int} {K : Prop} : So (a = b) (a = b ∧ K) K
 | eqN {a b : Nat} {K : Prop} : So (a = b) (a = b ∧ K) K
 | ltN {a b : Nat} {K : Prop} : So (a < b) (a < b ∧ K) K
 | leN {a b : Nat} {K : Prop} : So (a ≤ b) (a ≤ b ∧ K) K
 | imp {P q K : Prop} {d : Decidable P} : So (P → q) ((@decide P d = true → q) ∧ K) K
 | impf {P q K : Prop} {d : Decidable P} : So (¬ P → q) ((@decide P d = false → q) ∧ K) K
 | app {cx : Cx} {m m' : Mem} {t e ty : Nat} {i ti : TyI} {A : Option Addr} {cap n size b k c t' : Nat} {xs news : List Value} {K : Value → Mem → Prop} (hP : cx.P = Tryz.prog) (hT : cx.tab = tab)
  (hi : cx.tab.get t = some i) (hk : i.kind = .slice e) (hti : cx.tab.get e = some ti) (hz : ti.zero.length = ti.cells) (hs : ti.cells = size) (hp : (Nat.ble 1 ti.cells && Nat.ble ti.bytes 4096) = true)
  (hu : Out m (.row A cap n e size xs) m') (hnews : Has m (.blk b (.cells news.toArray t'))) (hl : news.length = k * size) (h1 : allOne news = true) :
  So (n + k ≤ 34359738368) (Rn cx m (Builtin.append_ #[t, t] ty #[.slice A n cap, .slice (some ⟨b, 0, none⟩) k c]) K) (Ap2 fun A' cap' => K (.slice A' (n + k) cap') (.row A' cap' (n + k) e size (xs ++ news) :: m'))
theorem tab_cx {cx : Cx} (hP : cx.P = Tryz.prog) (hT : cx.tab = tab) : TabOk cx.P cx.tab := by rw [hP, hT]; exact tab_ok
theorem stp {p q : Prop} (s : St p q) (h : q) : p := by
 cases s with
 | load hP hT hi hk hh hv => exact rn_load (ld1 (tab_cx hP hT) hh hi hk hv) h
 | ldg hP hT hi hk hh hv => exact ⟨_, Ld.g (ld1 (tab_cx hP hT) hh hi hk hv), h⟩
 | store hP hT hi hu hl h1 hfit hcs => exact rn_store (tab_cx hP hT) hi hu hl h1 hfit hcs h
 | pl => exact ⟨Pl.mk _ _, h⟩
 | plf => exact ⟨fun _ => Pl.mk _ _, h⟩
 | sub => exact ⟨SubM.sub (List.nil_sublist _), h⟩
 | same => exact ⟨rfl, h⟩
 | never => exact ⟨fun h => absurd h (by decide), h⟩
 | fsame => exact ⟨fun _ => rfl, h⟩
theorem stn {p q : Prop} (s : Sn p q) (h : q) : p := by
 cases s with
 | load hP hT hi hk hh hv hl => exact rn_load (ldN (tab_cx hP hT) hh hi hk hv hl) h
 | ldg hP hT hi hk hh hv hl => exact ⟨_, Ld.g (ldN (tab_cx hP hT) hh hi hk hv hl), h⟩
theorem sto {o p q : Prop} (s : So o p q) (ho : o) (h : q) : p := by
 cases s with
 | fits => exact ⟨fits_i64 ho, h⟩
 | ix => exact ⟨ho, h⟩
 | sl => exact ⟨ho, h⟩
 | ll => exact ⟨ho, h⟩
 | leI => exact ⟨ho, h⟩
 | ltI => exact ⟨ho, h⟩
 | leN => exact ⟨ho, h⟩
 | neI => exact ⟨ho, h⟩
 | eqI => exact ⟨ho, h⟩
 | eqN => exact ⟨ho, h⟩
 | ltN => exact ⟨ho, h⟩
 | imp => exact ⟨fun e => ho (of_decide_eq_true e), h⟩
 | impf => exact ⟨fun e => ho (of_decide_eq_false e), h⟩
 | app hP hT hi hk hti hz hs hp hu hnews hl h1 => exact rn_app (tab_cx hP hT) hi hk hti hz hs hp hu hl (news_blk hnews) h1 ho h.go
end Go.Proofs.YtbfbjgakmnckbaaGreatDoor
namespace Go.Proofs.YtbfbjgakmnckbaaGreatDoor.Eng
open Go Go.RowKit
/-- The fence that asks nothing, in a round or in none. -/
abbrev wr (r : Option Nat) : Fence := { Fence.wide with round := r }
theorem callsIn_wr {r : Option Nat} {n : Nat} {P : Program} {f : FuncId} {args : Array Value} {w : World} {R : Ending → World → Prop} (h : Calls P f args w R) : CallsIn (wr r) n P f args w R := (callsIn_wide (n := n)).2 h
theorem op_wr {r : Option Nat} {n : Nat} {P : Program} {o : Oper} {a : Act} {w : World} {next next' : Act → World → Prop} {Q : Exit → Act → World → Prop} (hd : ∀ c, o.op ≠ .defer c) (hn : ∀ a w, next a w → next' a w) (h : o.wp P a w next Q) : o.wpIn (wr r) n P a w next' Q := by
 refine ⟨fun _ _ => trivial, ?_⟩
 rw [show (wr r).round = r from rfl, Oper.semAt_eq _ _ _ hd]
 unfold Oper.wp at h
 generalize (execOp a.eval o).run P w = x at h ⊢
 cases x with
 | ok v w' =>
  cases v with
  | value v => exact hn _ _ h
  | skip => exact hn _ _ h
  | defer d => exact hn _ _ h
  | enter f args =>
   refine ⟨fun hx => (by cases hx), callsIn_wr (Calls.mono h fun e w'' he => ?_)⟩
   cases e with
   | returned v => exact hn _ _ he
   | panicked ch => exact he
   | outgrown => exact he
  | row row args => exact ⟨fun hx => (by cases hx), fun c cs _ => let ⟨v, w', r, s⟩ := h c cs; ⟨v, w', hn _ _ r, stepsIn_wide.2 s⟩⟩
  | _ => exact h.elim
 | halt hl w' =>
  cases hl with
  | panic v => exact h
  | _ => exact h.elim
def noDef : List Oper → Bool
 | [] => true
 | o :: r => match o.op with
  | .defer _ => false
  | _ => noDef r
theorem noDef_cons {o : Oper} {r : List Oper} (h : noDef (o :: r) = true) : (∀ c, o.op ≠ .defer c) ∧ noDef r = true := by
 unfold noDef at h
 split at h
 ·cases h
 ·rename_i hh
  exact ⟨fun c e => hh c e, h⟩
theorem list_wr {r : Option Nat} {n : Nat} {P : Program} {ops : Array Oper} {Q : Exit → Act → World → Prop} (hQ : ∀ a w, ¬ Q .outgrown a w) : ∀ (l : List Oper) (a : Act) (w : World), noDef l = true → wpList P ops Q l a w → wpListIn (wr r) n P ops Q l a w
 | [], a, w, _, h => h
 | o :: rest, a, w, hd, h => by
  obtain ⟨hd1, hd2⟩ := noDef_cons hd
  unfold wpList at h
  unfold wpListIn
  split at h
  ·rename_i hw
   rw [if_pos hw]
   rcases h with h | ⟨_, a', w', h⟩
   ·exact op_wr hd1 (fun a w h => list_wr hQ rest a w hd2 h) h
   ·exact absurd h (hQ _ _)
  ·rename_i hw
   rw [if_neg hw]
   exact ⟨fun _ _ => trivial, list_wr hQ rest _ _ hd2 h⟩
/-- A region that calls nothing that ranges, in a round or in none. -/
theorem reg_wr {cx : Cx} (ht : TabOk cx.P cx.tab) {r : Option Nat} {n id : Nat} {ops : Array Oper} {k : KK} {e : Env} {m : Mem} {a : Act} {w : World} (hk : ∀ e m, ¬ k .outgrown e m) (hnd : noDef ops.toList = true) (he : EnvOk cx.n cx.df e a) (hm : MemOk cx.w0 cx.S m w) (h : XC cx (.region id ops false) k e m) :
  (Code.region id ops false).wpIn (wr r) n cx.P (Qk cx k) a w := by
 refine wpIn_region_list (list_wr (fun a w ⟨e, m, _, _, h⟩ => hk e m h) _ _ _ hnd ?_)
 have h : (match dstsOk cx.n ops.toList with
   | true => XL cx ops k ops.toList none [] e m
   | false => False) := h
 split at h
 ·rename_i hds
  exact XL_ok ht _ _ _ _ _ _ _ hds he hm ScOk.none_ (KnOk.nil _) h
 ·exact h.elim
/-- Parts one behind another, the first walked by the engine. -/
theorem stepC {cx : Cx} (ht : TabOk cx.P cx.tab) {x y : Code} {Q : Exit → Act → World → Prop} {e : Env} {m : Mem} {a : Act} {w : World} (he : EnvOk cx.n cx.df e a) (hm : MemOk cx.w0 cx.S m w)
  (h : XC cx x (fun ex e m => ∀ a w, EnvOk cx.n cx.df e a → MemOk cx.w0 cx.S m w → match ex with
   | .normal => y.wp cx.P Q a w
   | ex => Q ex a w) e m) : (Code.seq x y).wp cx.P Q a w := by
 refine wp_seq (wp_mono (XC_ok ht x _ e m a w he hm h) ?_)
 rintro ex a' w' ⟨e', m', he', hm', hk⟩
 have := hk a' w' he' hm'
 cases ex <;> exact this
/-- Where the walk was told to stand: the first part is shown by itself. -/
theorem cutX {γ : Type} {cx : Cx} (ht : TabOk cx.P cx.tab) {x y : Code} {k : KK} {e e' : Env} {m : Mem} {m' : γ → Mem}
  (h : ∀ a w, EnvOk cx.n cx.df e a → MemOk cx.w0 cx.S m w → x.wp cx.P (fun ex a' w' => ex = .normal ∧ EnvOk cx.n cx.df e' a' ∧ ∃ g, MemOk cx.w0 cx.S (m' g) w') a w) (hk : ∀ g, XC cx y k e' (m' g)) : Cut cx x y k e m := by
 intro a w he hm
 refine wp_seq (wp_mono (h a w he hm) ?_)
 rintro ex a' w' ⟨rfl, he', g, hm'⟩
 exact XC_ok ht y k e' (m' g) a' w' he' hm' (hk g)
theorem cutX2 {γ : Type} {cx : Cx} (ht : TabOk cx.P cx.tab) {x c y : Code} {k : KK} {e e' : Env} {m : Mem} {m' : γ → Mem}
  (h : ∀ a w, EnvOk cx.n cx.df e a → MemOk cx.w0 cx.S m w → x.wp cx.P (fun ex a' w' => ex = .normal ∧ EnvOk cx.n cx.df e' a' ∧ ∃ g, MemOk cx.w0 cx.S (m' g) w') a w) (hk : ∀ g, XC cx c (fun ex e m => match ex with
   | .normal => XC cx y k e m
   | ex => k ex e m) e' (m' g)) : Cut cx (.seq x c) y k e m := by
 intro a w he hm
 refine wp_seq (wp_seq (wp_mono (h a w he hm) ?_))
 rintro ex a' w' ⟨rfl, he', g, hm'⟩
 refine wp_mono (XC_ok ht c _ e' (m' g) a' w' he' hm' (hk g)) ?_
 rintro ex a2 w2 ⟨e2, m2, he2, hm2, hk2⟩
 cases ex with
 | normal => exact XC_ok ht y k e2 m2 a2 w2 he2 hm2 hk2
 | _ => exact ⟨e2, m2, he2, hm2, hk2⟩
theorem exec_yield {P : Program} {n : Nat} {D : List Deferred} {e : Env} {a : Act} {w : World} (he : EnvOk n D e a) {o : Oper} {f : Operand} {args : Array Operand} {tys : Array Nat} {vs : List Value} {l fn : Nat} {tmps : Array Value} {assign body : Code} (ho : o.op = .call ⟨.value f, args, tys⟩)
  (hf : e.ev f = some (.func (.yield l) #[] #[])) (ha : Env.evs e args.toList = some vs) (hy : (Instr.yield l vs.toArray).run P w = .ok (.round l fn tmps assign body) w) :
  (execOp a.eval o).run P w = .ok (.round l fn tmps assign body) w := by
 obtain ⟨dst, op, ty, pos, after, guard⟩ := o
 dsimp only at ho
 subst ho
 have h2 := evs_arr he ha
 have h3 := he.ev hf
 simp only [execOp, resolve, h2, h3, Deferred.ofValue, Sem.run_bind, Sem.run_pure, Result.andThen_ok, invoke]
 simpa using hy
/-- A scope that nothing jumps in. -/
theorem oth_scope {cx : Cx} (ht : TabOk cx.P cx.tab) {bd : Code} {k : KK} {e : Env} {m : Mem} (h : XC cx bd (fun ex e m => match ex with
   | .goto _ => False
   | ex => k ex e m) e m) : Oth cx (.scope bd) k e m := by
 intro a w he hm
 refine wp_scope_straight (wp_mono (XC_ok ht bd _ e m a w he hm h) ?_)
 rintro ex a' w' ⟨e', m', he', hm', hk⟩
 cases ex with
 | goto l => exact hk.elim
 | _ => exact ⟨e', m', he', hm', hk⟩
/-- A function's mark is come to: its block is empty. -/
theorem marks_end {P : Program} {fn : Func} {R : Ending → World → Prop} {a : Act} {w : World} {D : Nat} (hd : a.defers = [{ target := .collected D, args := #[] }]) (hD : w.heap[D]? = some (.deferred (some []))) {v : Value}
  (hr : (results fn a.tmps).run P (w.putObj D (.deferred none)) = .ok v (w.putObj D (.deferred none))) (hR : R (.returned v) (w.putObj D (.deferred none))) : bodyPostM Fence.wide 0 P fn R .ret a w := by
 show LeavesInM Fence.wide 0 P fn a.tmps R a.defers .returning w
 rw [hd]
 refine ⟨by simp, .inl ⟨D, _, rfl, run_takeDeferred hD, ?_⟩⟩
 show LeavesIn Fence.wide 0 P fn a.tmps R [] .returning (w.putObj D (.deferred none))
 unfold LeavesIn
 exact ⟨v, hr, hR⟩
/-- THE STATEMENT, where no round is left by a jump. -/
theorem range_wp {P : Program} {g : Operand} {ps : Array Tmp} {assign body : Code} {Q : Exit → Act → World → Prop} {a : Act} {w : World} {gf : Nat} {lb : Array Value} (hg : a.eval g = .func (.func gf) #[] lb) (eg : Enters P gf)
  (h : ∀ (fn : FuncId) (rec : Loop), rec = { state := .ready, pending := none, fn, tmps := a.tmps, params := ps, assign, body, defers := w.heap.size } → Calls P gf (#[.func (.yield (w.heap.size + 1)) #[] #[]] ++ lb) ((w.alloc (.deferred (some []))).alloc (.loop rec)) fun e W =>
   ∃ v, e = .returned v ∧ W.heap[w.heap.size + 1]? = some (.loop rec) ∧
    Q .normal { a with defers := { target := .collected w.heap.size, args := #[] } :: a.defers } (W.putObj (w.heap.size + 1) (.loop { rec with state := .exhausted }))) :
  (Code.rangeFunc g ps assign body).wp P Q a w := by
 rw [← wpIn_wide (n := 1)]
 refine wpIn_rangeFunc ?_
 intro fn _
 obtain ⟨rec, hrec⟩ : ∃ rec : Loop, rec = { state := .ready, pending := none, fn, tmps := a.tmps, params := ps, assign, body, defers := w.heap.size } := ⟨_, rfl⟩
 have h := h fn rec hrec
 have hb : rec.state ≠ .busy := by rw [hrec]; simp
 have hp : rec.pending = none := by rw [hrec]
 have hen := run_enterLoop_outer (P := P) (w := w) fn a.tmps ps assign body
 rw [← hrec] at hen
 obtain ⟨W1, hW1⟩ : ∃ W1, (w.alloc (.deferred (some []))).alloc (.loop rec) = W1 := ⟨_, rfl⟩
 rw [hW1] at h hen
 refine ⟨w.heap.size + 1, [{ target := .collected w.heap.size, args := #[] }], W1, { target := .fn (.func gf) lb, args := #[.func (.yield (w.heap.size + 1)) #[] #[]] }, W1, gf, #[.func (.yield (w.heap.size + 1)) #[] #[]] ++ lb, W1, hen, ?_, ?_, ?_, fun _ => Nat.le_refl _, ?_⟩
 ·simp only [resolve, hg]
  simp [go_sem]
 ·intro f' _; trivial
 ·simp [invoke, go_sem, eg _ _]
 ·refine callsIn_wide.2 (h.mono ?_)
  rintro e W ⟨v, rfl, hl, hq⟩
  exact ⟨none, _, (run_endLoop (P := P) hl hb).trans (by rw [hp]), hq⟩
/-- A function with a range over a function is entered. -/
theorem enterM {P : Program} (e0 : Env) {f : FuncId} {fn : Func} {c : Code} (hf : P.funcs[f]? = some fn) (hb : fn.body = some c) (he0 : slotsOk 0 e0 = true) (hl : Nat.ble e0.length fn.ntmps = true) {w : World}
  {R : Ending → World → Prop} (h : ∀ a, EnvOk fn.ntmps [] e0 a → c.wp P (bodyPostM Fence.wide 0 P fn R) a w) : Calls P f (e0.map (·.2)).toArray w R := by
 have he0' := slotsOk_eq he0
 generalize hargs : e0.map (·.2) = args at he0'
 subst he0'
 refine (callsIn_wide (n := 0)).1 (callsIn_of_wp_marks hf hb trivial ((wpIn_wide (n := 0)).2 (h _ ⟨rfl, ?_, ?_⟩)))
 ·have hle := Nat.le_of_ble_eq_true hl
  have hlen : args.length ≤ fn.ntmps := by rw [← hargs]; simpa using hle
  simp; omega
 ·intro t v hv
  obtain ⟨_, h2⟩ := argEnv_get _ _ _ _ hv
  simp at h2
  have hlt : t < args.length := (List.getElem?_eq_some_iff.1 h2).1
  have h3 : (args.toArray ++ Array.replicate (fn.ntmps - args.toArray.size) undef)[t]? = some v := by
   rw [Array.getElem?_append_left (by simpa using hlt)]
   simpa using h2
  rw [Array.getD_eq_getD_getElem?, h3]
  rfl
theorem MemOk.far_fr {w W w' : World} {m : Mem} (h : MemOk w (Foot []) m W) (hf : Fr (Foot m) W w') : Fr (fun _ => False) w w' := by
 refine ⟨hf.os.trans h.fr.os, hf.tape.trans h.fr.tape, hf.output.trans h.fr.output, Nat.le_trans h.fr.size hf.size, fun k hk _ => ?_⟩
 refine (hf.block k (Nat.lt_of_lt_of_le hk h.fr.size) fun ⟨x, hx, hb⟩ => ?_).trans (h.fr.block k hk fun ⟨x, hx, _⟩ => by cases hx)
 rcases h.own x hx k hb with h1 | ⟨y, hy, _⟩
 ·omega
 ·cases hy
theorem MemOk.now {w0 w : World} {S : Nat → Prop} {m : Mem} (h : MemOk w0 S m w) : MemOk w (Foot m) m w := MemOk.part (r := []) (by rw [List.append_nil]; exact h)
theorem MemOk.join {w0 w w' : World} {S : Nat → Prop} {m m' : Mem} (h : MemOk w0 S m w) (h' : MemOk w (Foot m) m' w') : MemOk w0 S m' w' := by
 have := MemOk.frame (r := []) (m := m) (by rw [List.append_nil]; exact h) h'
 rwa [List.append_nil] at this
theorem Fr.putObj (w : World) (l : Nat) (o : Obj) : Fr (· = l) w (w.putObj l o) := ⟨rfl, rfl, rfl, by simp, fun k _ hk => World.putObj_heap_other hk⟩
theorem upd_put {w0 w : World} {S : Nat → Prop} {m m' : Mem} {b : Nat} {o o' : Obj} (hm : MemOk w0 S m w) (hu : Upd m (.blk b o) (.blk b o') m') : MemOk w0 S m' (w.putObj b o') := by
 obtain ⟨rest, hp, _⟩ := hu.perm
 have hb : w.heap[b]? = some o := hm.ok _ (hp.mem_iff.2 (List.mem_cons_self ..))
 exact memOk_upd hm hu (Fr.putObj w b o') (World.putObj_heap_same (Array.getElem?_eq_some_iff.1 hb).1)
end Go.Proofs.YtbfbjgakmnckbaaGreatDoor.Eng
namespace Go.Proofs.YtbfbjgakmnckbaaGreatDoor
open Go Go.RowKit Eng

theorem mixed : Tryz.prog.follows .mixedOrders = true := by kernel_rfl
theorem fate_fields : Tryz.prog.underlying 26 = some (.struct (Tryz.prog.fieldsOf 26)) := by kernel_rfl
theorem fate_held : Tryz.prog.stoodInHeld 26 = false := by kernel_rfl
theorem fate_list : ((Tryz.prog.fieldsOf 26).toList.map fun f => (f.name, f.type, f.offset)) = [("Kind", 24, 0), ("Keep", 3, 1)] := by kernel_rfl
theorem part_int {P : Program} {t : TypeId} {k : IntKind} (h : P.underlying t = some (.int k)) (cs : Array Value) (o : Nat) (v : Value) (hv : cs[o]? = some v) (w : World) : (part t cs o).run P w = .ok v w := by
 simp [part, isAgg, run_underlying h, hv]
theorem equalIn_int {P : Program} {t : TypeId} {k : IntKind} (h : P.underlying t = some (.int k)) (d : Nat) (a b : Int) (w : World) : (Op.equalIn (d + 1) t (.int k a) (.int k b)).run P w = .ok (decide (a = b)) w := by
 simp [Op.equalIn, run_underlying h, int_beq]
theorem fateKind_int : Tryz.prog.underlying 24 = some (.int .i64) := by kernel_rfl
theorem int_int : Tryz.prog.underlying 3 = some (.int .i64) := by kernel_rfl
theorem fate_eql (d : Nat) (a b c e : Int) (w : World) : (Op.equalIn (d + 2) 26 (.agg #[.int .i64 a, .int .i64 b]) (.agg #[.int .i64 c, .int .i64 e])).run Tryz.prog w = .ok (decide (a = c) && decide (b = e)) w := by
 rw [run_equalIn_struct w (d + 1) 26 _ _ fate_fields fate_held]
 have h := fate_list
 generalize (Tryz.prog.fieldsOf 26).toList = fs at h
 obtain ⟨f, g, rfl⟩ : ∃ f g, fs = [f, g] := by
  rcases fs with _ | ⟨f, _ | ⟨g, _ | ⟨i, r⟩⟩⟩
  ·simp at h
  ·simp at h
  ·exact ⟨f, g, rfl⟩
  ·simp at h
 simp only [List.map_cons, List.map_nil, List.cons.injEq, Prod.mk.injEq, and_true] at h
 obtain ⟨⟨h1, h2, h3⟩, h4, h5, h6⟩ := h
 have n1 : f.name ≠ "_" := by rw [h1]; decide
 have n2 : g.name ≠ "_" := by rw [h4]; decide
 simp only [Op.eqFields, n1, n2, if_true, ne_eq, not_false_eq_true, h2, h3, h5, h6, Sem.run_bind]
 rw [part_int fateKind_int _ 0 (.int .i64 a) rfl, Result.andThen_ok, part_int fateKind_int _ 0 (.int .i64 c) rfl, Result.andThen_ok, equalIn_int fateKind_int, Result.andThen_ok]
 by_cases hac : a = c
 ·subst hac
  simp only [decide_true, Bool.not_true, Bool.false_eq_true, if_false, Sem.run_bind]
  rw [part_int int_int _ 1 (.int .i64 b) rfl, Result.andThen_ok, part_int int_int _ 1 (.int .i64 e) rfl, Result.andThen_ok, equalIn_int int_int, Result.andThen_ok]
  by_cases hbe : b = e
  ·subst hbe; simp
  ·simp [hbe]
 ·simp [hac]
theorem fate_guardE (ox oy : Operand) (a b c e : Int) (w : World) : (eqGuard .eql 26 ox oy (.agg #[.int .i64 a, .int .i64 b]) (.agg #[.int .i64 c, .int .i64 e])).run Tryz.prog w = .ok () w := by kernel_rfl
theorem fate_guardN (ox oy : Operand) (a b c e : Int) (w : World) : (eqGuard .neq 26 ox oy (.agg #[.int .i64 a, .int .i64 b]) (.agg #[.int .i64 c, .int .i64 e])).run Tryz.prog w = .ok () w := by kernel_rfl
theorem fate_eqlS (ox oy : Operand) (a b c e : Int) (w : World) : (eqSem .eql 26 ox oy (.agg #[.int .i64 a, .int .i64 b]) (.agg #[.int .i64 c, .int .i64 e])).run Tryz.prog w = .ok (.bool (decide (a = c) && decide (b = e))) w := by
 have h := fate_eql 9998 a b c e w
 simp only [eqSem, Sem.run_bind, fate_guardE, Result.andThen_ok]
 simp only [binOp]
 simp [Op.equal, Op.maxDepth, h]
theorem fate_neqS (ox oy : Operand) (a b c e : Int) (w : World) : (eqSem .neq 26 ox oy (.agg #[.int .i64 a, .int .i64 b]) (.agg #[.int .i64 c, .int .i64 e])).run Tryz.prog w = .ok (.bool (!(decide (a = c) && decide (b = e)))) w := by
 have h := fate_eql 9998 a b c e w
 simp only [eqSem, Sem.run_bind, fate_guardN, Result.andThen_ok]
 simp only [binOp]
 simp [Op.equal, Op.maxDepth, h]
end Go.Proofs.YtbfbjgakmnckbaaGreatDoor
namespace Go.Proofs.YtbfbjgakmnckbaaGreatDoor
open Go Go.RowKit Eng
attribute [local irreducible] Br Rn RnU Cl RdG CpG Ld Rd Lp Dr Oth Cut fin Fits Eng.Enters Md NA
/-- A teller's memory: its words. -/
abbrev SM (tB : Nat) (A : Option Addr) (cap n : Nat) (xs : List Value) : Mem := [.blk tB (.cells #[.slice A n cap] 125), .row A cap n 9 1 xs]
set_option maxRecDepth 100000 in
theorem say_any (tB : Nat) (A : Option Addr) (cap n : Nat) (xs : List Value) (s : ByteArray) (w : World) (hl : n ≤ 1099511627) (hm : MemOk w (Foot (SM tB A cap n xs)) (SM tB A cap n xs) w) :
  Ctr Tryz.prog 191 [.pointer (some ⟨tB, 0, none⟩), .string s] (SM tB A cap n xs) (fun e m' => e = .returned (.tuple #[]) ∧ ∃ A' cap', m' = SM tB A' cap' (n + 1) (xs ++ [.string s])) w := by
 refine enter (cx := CXS 14 [] w (Foot (SM tB A cap n xs))) [(0, .pointer (some ⟨tB, 0, none⟩)), (1, .string s)] tab_ok Tryz.func191 rfl rfl rfl rfl hm ?_
 conv => whnf
 (repeat ((first | refine stp (by (repeat constructor); first | done | fail) ?_ | refine stn (by (repeat constructor); first | done | fail) ?_ | refine sto (by (repeat constructor); first | done | fail) (by first | omega | (simp only; omega)) ?_ | refine .mk fun Ap capp => ?_ | refine ⟨?_, trivial⟩ | intro _); conv => whnf))
 refine fin0 rfl (fun w' hm => ?_) (.inr rfl)
 exact ⟨_, ⟨rfl, _, _, rfl⟩, hm.sel (by (repeat constructor); first | done | fail)⟩
end Go.Proofs.YtbfbjgakmnckbaaGreatDoor
namespace Go.Proofs.YtbfbjgakmnckbaaGreatDoor
open Go Go.RowKit Eng
attribute [local irreducible] Br Rn RnU Cl RdG CpG Ld Rd Lp Dr Oth Cut fin Fits Eng.Enters Md NA

/-- A name: 1 to 64 bytes from 33 to 126, not '-' alone. -/
def okByte (c : UInt8) : Bool := decide (33 ≤ (c.toNat : Int)) && decide ((c.toNat : Int) ≤ 126)
def nameB (s : ByteArray) : Bool := s.data.toList.all okByte && (decide (0 < (s.size : Int)) && decide ((s.size : Int) ≤ 64) && !decide (s = ⟨#[45]⟩))
theorem all_getD {s : ByteArray} (f : UInt8 → Bool) (h : ∀ j, j < s.size → f (s.data.toList.getD j 0) = true) : s.data.toList.all f = true := by
 rw [List.all_eq_true]
 intro x hx
 obtain ⟨j, hj, rfl⟩ := List.getElem_of_mem hx
 have := h j (by rw [Array.length_toList] at hj; exact hj)
 rw [List.getD, List.getElem?_eq_getElem hj] at this
 exact this
theorem all_getD_f {s : ByteArray} (f : UInt8 → Bool) {j : Nat} (hj : j < s.size) (h : f (s.data.toList.getD j 0) = false) : s.data.toList.all f = false := by
 cases ha : s.data.toList.all f with
 | false => rfl
 | true =>
  rw [List.all_eq_true] at ha
  have hj' : j < s.data.toList.length := by rw [Array.length_toList]; exact hj
  have := ha _ (List.getElem_mem hj')
  rw [List.getD, List.getElem?_eq_getElem hj'] at h
  rw [← h]; exact this.symm

set_option maxRecDepth 100000 in
theorem name_any (s : ByteArray) (w : World) (hs : s.size ≤ 140737488355328) :
  Calls Tryz.prog 90 #[.string s] w fun e w' => e = .returned (.bool (nameB s)) ∧ Fr (fun _ => False) w w' := by
 refine enter (cx := CX 32 [] w) [(0, .string s)] tab_ok Tryz.func90 rfl rfl rfl rfl (MemOk.nil w _) ?_
 conv => whnf
 refine lp tab_ok (γ := Nat) (fun i => i ≤ s.size ∧ ∀ j, j < i → okByte (s.data.toList.getD j 0) = true) (fun i => [(3, .int .i64 i), (0, .string s)]) (fun _ => []) (fun i => s.size - i) 0 ⟨by omega, fun j h => by omega⟩ ⟨rfl, rfl, trivial⟩ (SubM.refl _ _) ?_
 rintro i ⟨hi, hj⟩
 conv => whnf
 (repeat ((first | refine stp (by (repeat constructor); first | done | fail) ?_ | refine stn (by (repeat constructor); first | done | fail) ?_ | refine sto (by (repeat constructor); first | done | fail) (by first | omega | (simp only; omega)) ?_); conv => whnf))
 refine br_d (fun hlt => ?_) (fun hge => ?_)
 ·conv => whnf
  (repeat ((first | refine stp (by (repeat constructor); first | done | fail) ?_ | refine stn (by (repeat constructor); first | done | fail) ?_ | refine sto (by (repeat constructor); first | done | fail) (by first | omega | (simp only; omega)) ?_); conv => whnf))
  refine br (fun hb => ?_) (fun hb => ?_)
  ·conv => whnf
   refine fin1 rfl rfl (fun w' hm => ⟨ret_bool ?_, hm.fr⟩)
   have : okByte (s.data.toList.getD i 0) = false := by
    rw [Bool.or_eq_true, decide_eq_true_eq, decide_eq_true_eq] at hb
    simp only [byteAt, Int.toNat_natCast] at hb
    simp only [okByte, Bool.and_eq_false_iff, decide_eq_false_iff_not]
    omega
   simp only [nameB, all_getD_f okByte (by omega) this, Bool.false_and]
  ·conv => whnf
   (repeat ((first | refine stp (by (repeat constructor); first | done | fail) ?_ | refine stn (by (repeat constructor); first | done | fail) ?_ | refine sto (by (repeat constructor); first | done | fail) (by first | omega | (simp only; omega)) ?_); conv => whnf))
   refine ⟨i + 1, ⟨by omega, fun j hj' => (Nat.lt_succ_iff_lt_or_eq.1 hj').elim (hj j) (fun e => e ▸ ?_)⟩, by omega, ⟨rfl, rfl, trivial⟩, SubM.refl _ _⟩
   rw [Bool.or_eq_false_iff, decide_eq_false_iff_not, decide_eq_false_iff_not] at hb
   simp only [byteAt, Int.toNat_natCast] at hb
   simp only [okByte, Bool.and_eq_true, decide_eq_true_eq]
   omega
 ·conv => whnf
  (repeat ((first | refine stp (by (repeat constructor); first | done | fail) ?_ | refine stn (by (repeat constructor); first | done | fail) ?_ | refine sto (by (repeat constructor); first | done | fail) (by first | omega | (simp only; omega)) ?_); conv => whnf))
  refine fin1 rfl rfl (fun w' hm => ⟨ret_bool ?_, hm.fr⟩)
  rw [nameB, all_getD okByte (fun j h => hj j (by omega)), Bool.true_and]

/-! ## digit -/
def digN (c : Int) : Int := if 97 ≤ c then c - 97 + 10 else IntKind.u8.wrap (c - 48)
theorem digN_u8 {c : Int} (h : 0 ≤ c ∧ c ≤ 255) : 0 ≤ digN c ∧ digN c ≤ 255 := by
 unfold digN
 split
 ·omega
 ·rw [IntKind.wrap_u8]; omega
set_option maxRecDepth 100000 in
theorem digit_any (c : Int) (w : World) (hc : 0 ≤ c ∧ c ≤ 255) :
  Calls Tryz.prog 104 #[.int .u8 c] w fun e w' => e = .returned (.int .u8 (digN c)) ∧ Fr (fun _ => False) w w' := by
 refine enter (cx := CX 10 [9] w) [(0, .int .u8 c)] tab_ok Tryz.func104 rfl rfl rfl rfl (MemOk.nil w _) ?_
 conv => whnf
 refine br_d (fun h => ?_) (fun h => ?_)
 ·conv => whnf
  refine ⟨fits_u8 (by omega), ?_⟩
  conv => whnf
  refine ⟨fits_u8 (by omega), ?_⟩
  conv => whnf
  refine fin1 rfl rfl (fun w' hm => ⟨?_, hm.fr⟩)
  rw [digN, if_pos h]
 ·conv => whnf
  refine fin1 rfl rfl (fun w' hm => ⟨?_, hm.fr⟩)
  rw [digN, if_neg h]

/-! ## cut -/
def cutF : List UInt8 → List UInt8 × List UInt8
 | [] => ([], [])
 | c :: r => if c = 32 then ([], r) else (c :: (cutF r).1, (cutF r).2)
theorem cutF_none : ∀ (l : List UInt8), (∀ j, j < l.length → l.getD j 0 ≠ 32) → cutF l = (l, [])
 | [], _ => rfl
 | c :: r, h => by
  have h0 : c ≠ 32 := h 0 (by simp)
  have := cutF_none r (fun j hj => h (j + 1) (by simpa using hj))
  rw [cutF, if_neg h0, this]
theorem cutF_at : ∀ (l : List UInt8) (i : Nat), i < l.length → (∀ j, j < i → l.getD j 0 ≠ 32) → l.getD i 0 = 32 → cutF l = (l.take i, l.drop (i + 1))
 | [], i, hi, _, _ => absurd hi (by simp)
 | c :: r, 0, _, _, he => by
  have : c = 32 := he
  rw [cutF, if_pos this]; simp
 | c :: r, i + 1, hi, h, he => by
  have h0 : c ≠ 32 := h 0 (by omega)
  have := cutF_at r i (by simpa using hi) (fun j hj => h (j + 1) (by omega)) he
  rw [cutF, if_neg h0, this]; simp
theorem u8_of_int {a b : UInt8} (h : (a.toNat : Int) = (b.toNat : Int)) : a = b := by
 apply UInt8.toNat_inj.1
 omega
set_option maxRecDepth 100000 in
theorem cut_any (l : List UInt8) (w : World) (hl : l.length ≤ 140737488355328) :
  Calls Tryz.prog 43 #[.string (Str l)] w fun e w' => e = .returned (.tuple #[.string (Str (cutF l).1), .string (Str (cutF l).2)]) ∧ Fr (fun _ => False) w w' := by
 have hsz := Str.size l
 refine enter (cx := CX 23 [] w) [(0, .string (Str l))] tab_ok Tryz.func43 rfl rfl rfl rfl (MemOk.nil w _) ?_
 conv => whnf
 refine lp tab_ok (γ := Nat) (fun i => i ≤ l.length ∧ ∀ j, j < i → l.getD j 0 ≠ 32) (fun i => [(4, .int .i64 i), (0, .string (Str l))]) (fun _ => []) (fun i => l.length - i) 0 ⟨by omega, fun j h => by omega⟩ ⟨rfl, rfl, trivial⟩ (SubM.refl _ _) ?_
 rintro i ⟨hi, hj⟩
 conv => whnf
 (repeat ((first | refine stp (by (repeat constructor); first | done | fail) ?_ | refine stn (by (repeat constructor); first | done | fail) ?_ | refine sto (by (repeat constructor); first | done | fail) (by first | omega | (simp only; omega)) ?_); conv => whnf))
 refine br_d (fun hlt => ?_) (fun hge => ?_)
 ·conv => whnf
  (repeat ((first | refine stp (by (repeat constructor); first | done | fail) ?_ | refine stn (by (repeat constructor); first | done | fail) ?_ | refine sto (by (repeat constructor); first | done | fail) (by first | omega | (simp only; omega)) ?_); conv => whnf))
  refine br_d (fun hb => ?_) (fun hb => ?_)
  ·conv => whnf
   refine dr_quiet tab_ok mixed (by kernel_rfl) rfl ?_; conv => whnf
   (repeat ((first | refine stp (by (repeat constructor); first | done | fail) ?_ | refine stn (by (repeat constructor); first | done | fail) ?_ | refine sto (by (repeat constructor); first | done | fail) (by first | omega | (simp only; omega)) ?_); conv => whnf))
   refine fin2 rfl rfl rfl (fun w' hm => ⟨?_, hm.fr⟩)
   rw [cutF_at l i (by omega) hj (u8_of_int hb), Str.extract, Str.extract, hsz]
   simp only [Int.toNat_natCast, Int.toNat_zero, List.drop_zero, Nat.sub_zero]
   rw [show ((i : Int) + 1).toNat = i + 1 by omega, List.take_of_length_le (l := l.drop (i + 1)) (by rw [List.length_drop]; omega)]
  ·conv => whnf
   (repeat ((first | refine stp (by (repeat constructor); first | done | fail) ?_ | refine stn (by (repeat constructor); first | done | fail) ?_ | refine sto (by (repeat constructor); first | done | fail) (by first | omega | (simp only; omega)) ?_); conv => whnf))
   refine ⟨i + 1, ⟨by omega, fun j hj' => (Nat.lt_succ_iff_lt_or_eq.1 hj').elim (hj j) (fun e => e ▸ fun hh => hb ?_)⟩, by omega, ⟨rfl, rfl, trivial⟩, SubM.refl _ _⟩
   rw [Str.get, Int.toNat_natCast, hh]; rfl
 ·conv => whnf
  (repeat ((first | refine stp (by (repeat constructor); first | done | fail) ?_ | refine stn (by (repeat constructor); first | done | fail) ?_ | refine sto (by (repeat constructor); first | done | fail) (by first | omega | (simp only; omega)) ?_); conv => whnf))
  refine fin2 rfl rfl rfl (fun w' hm => ⟨?_, hm.fr⟩)
  rw [cutF_none l (fun j h => hj j (by omega))]

/-! ## flag -/
def bl (s : String) : List UInt8 := s.toUTF8.data.toList
def flagW (c : Int) (on : Bool) : List UInt8 :=
 if c = 119 then (if on then [114, 119] else [114, 111])
 else if c = 115 then (if on then [115, 97, 102, 101] else [117, 110, 115, 97, 102, 101])
 else if c = 112 then (if on then [112, 97, 99, 107, 101, 100] else [112, 108, 97, 105, 110])
 else (if on then [111, 110] else [111, 102, 102])
set_option maxRecDepth 100000 in
theorem flag_any (c : Int) (on : Bool) (w : World) :
  Calls Tryz.prog 52 #[.int .u8 c, .bool on] w fun e w' => e = .returned (.string (Str (flagW c on))) ∧ Fr (fun _ => False) w w' := by
 refine enter (cx := CX 17 [] w) [(0, .int .u8 c), (1, .bool on)] tab_ok Tryz.func52 rfl rfl rfl rfl (MemOk.nil w _) ?_
 conv => whnf
 refine br_d (fun h1 => ?_) (fun h1 => ?_)
 ·conv => whnf
  refine br (fun h => ?_) (fun h => ?_) <;>
  ·conv => whnf
   refine fin1 rfl rfl (fun w' hm => ⟨?_, hm.fr⟩)
   subst h
   simp [flagW, h1]
 ·conv => whnf
  refine br_d (fun h2 => ?_) (fun h2 => ?_)
  ·conv => whnf
   refine br (fun h => ?_) (fun h => ?_) <;>
   ·conv => whnf
    refine fin1 rfl rfl (fun w' hm => ⟨?_, hm.fr⟩)
    subst h
    simp [flagW, h2]
  ·conv => whnf
   refine br_d (fun h3 => ?_) (fun h3 => ?_)
   ·conv => whnf
    refine br (fun h => ?_) (fun h => ?_) <;>
    ·conv => whnf
     refine fin1 rfl rfl (fun w' hm => ⟨?_, hm.fr⟩)
     subst h
     simp [flagW, h3]
   ·conv => whnf
    refine br (fun h => ?_) (fun h => ?_) <;>
    ·conv => whnf
     refine fin1 rfl rfl (fun w' hm => ⟨?_, hm.fr⟩)
     subst h
     simp [flagW, h1, h2, h3]

/-! ## number -/
def numN : List UInt8 → Nat → Int → Int
 | c :: r, k + 1, n => numN r k (IntKind.i64.wrap (IntKind.i64.wrap (10 * n) - IntKind.u8.wrap ((c.toNat : Int) - 48)))
 | _, _, n => n
def numF (l : List UInt8) : Int :=
 if 0 < l.length ∧ l.getD 0 0 = 45 then numN (l.drop 1) 19 0 else IntKind.i64.wrap (0 - numN l 19 0)
theorem numN_stop (l : List UInt8) (k : Nat) (n : Int) (h : l.length = 0 ∨ k = 0) : numN l k n = n := by
 cases l with
 | nil => cases k <;> rfl
 | cons c r => cases k with
  | zero => rfl
  | succ k => simp at h
theorem numN_step (l : List UInt8) (i k : Nat) (n : Int) (hi : i < l.length) (hk : i < k) : numN (l.drop i) (k - i) n = numN (l.drop (i + 1)) (k - (i + 1)) (IntKind.i64.wrap (IntKind.i64.wrap (10 * n) - IntKind.u8.wrap (((l.getD i 0).toNat : Int) - 48))) := by
 rw [List.drop_eq_getElem_cons hi, show k - i = (k - (i + 1)) + 1 by omega, numN]
 simp [List.getD, List.getElem?_eq_getElem hi]
set_option maxRecDepth 100000 in
theorem number_any (l : List UInt8) (w : World) (hl : l.length ≤ 140737488355328) :
  Calls Tryz.prog 45 #[.string (Str l)] w fun e w' => e = .returned (.int .i64 (numF l)) ∧ Fr (fun _ => False) w w' := by
 have hsz := Str.size l
 refine enter (cx := CXc 39 [28, 32, 34, 38] [2] w) [(0, .string (Str l))] tab_ok Tryz.func45 rfl rfl rfl rfl (MemOk.nil w _) ?_
 conv => whnf
 (repeat ((first | refine stp (by (repeat constructor); first | done | fail) ?_ | refine stn (by (repeat constructor); first | done | fail) ?_ | refine sto (by (repeat constructor); first | done | fail) (by first | omega | (simp only; omega)) ?_); conv => whnf))
 refine cut (γ := List UInt8 × Bool) [] [] tab_ok (fun g => g.1.length ≤ 140737488355328 ∧ (if g.2 then numN g.1 19 0 else IntKind.i64.wrap (0 - numN g.1 19 0)) = numF l) (fun g => [(0, .string (Str g.1)), (3, .bool g.2)]) (fun _ => []) ?_ ?_
 ·conv => whnf
  refine br (fun hb => ?_) (fun hb => ?_)
  ·have hb0 := hb
   rw [Bool.and_eq_true, decide_eq_true_eq, decide_eq_true_eq] at hb
   have h45 : l.getD 0 0 = 45 := u8_of_int hb.2
   conv => whnf
   (repeat ((first | refine stp (by (repeat constructor); first | done | fail) ?_ | refine stn (by (repeat constructor); first | done | fail) ?_ | refine sto (by (repeat constructor); first | done | fail) (by first | omega | (simp only; omega)) ?_); conv => whnf))
   refine ⟨(l.drop 1, true), ⟨?_, ?_⟩, ⟨?_, congrArg (fun b => some (Value.bool b)) hb0, trivial⟩, SubM.refl _ _⟩
   ·simp; omega
   ·rw [if_pos rfl, numF, if_pos ⟨by omega, h45⟩]
   ·rw [Str.extract, hsz, List.take_of_length_le (by simp)]; rfl
  ·conv => whnf
   refine ⟨(l, false), ⟨hl, ?_⟩, ⟨rfl, congrArg (fun b => some (Value.bool b)) hb, trivial⟩, SubM.refl _ _⟩
   ·show IntKind.i64.wrap (0 - numN l 19 0) = _
    rw [numF, if_neg]
    ·rintro ⟨h0, h45⟩
     have : (decide (0 < ((Str l).size : Int)) && decide (byteAt (Str l) (0 : Int).toNat = 45)) = true := by
      rw [Bool.and_eq_true, decide_eq_true_eq, decide_eq_true_eq]
      exact ⟨by omega, by rw [Str.get]; show ((l.getD 0 0).toNat : Int) = 45; rw [h45]; rfl⟩
     exact absurd (this.symm.trans hb) (by decide)
 ·rintro ⟨k, neg⟩ ⟨hk, hv⟩
  have hkz := Str.size k
  conv => whnf
  refine lp tab_ok (γ := Nat × Int) (fun g => g.1 ≤ k.length ∧ g.1 ≤ 19 ∧ numN (k.drop g.1) (19 - g.1) g.2 = numN k 19 0) (fun g => [(5, .int .i64 g.1), (4, .int .i64 g.2), (0, .string (Str k)), (3, .bool neg)]) (fun _ => []) (fun g => k.length - g.1) (0, 0) ⟨by simp, by simp, rfl⟩ ⟨rfl, rfl, rfl, rfl, trivial⟩ (SubM.refl _ _) ?_
  rintro ⟨i, n⟩ ⟨hi, hi2, hn⟩
  simp only at hi hi2 hn
  change XC _ _ _ [(5, .int .i64 (i : Int)), (4, .int .i64 n), (0, .string (Str k)), (3, .bool neg)] []
  conv => whnf
  (repeat ((first | refine stp (by (repeat constructor); first | done | fail) ?_ | refine stn (by (repeat constructor); first | done | fail) ?_ | refine sto (by (repeat constructor); first | done | fail) (by first | omega | (simp only; omega)) ?_); conv => whnf))
  refine br (fun hb => ?_) (fun hb => ?_)
  ·rw [Bool.and_eq_true, decide_eq_true_eq, decide_eq_true_eq] at hb
   conv => whnf
   (repeat ((first | refine stp (by (repeat constructor); first | done | fail) ?_ | refine stn (by (repeat constructor); first | done | fail) ?_ | refine sto (by (repeat constructor); first | done | fail) (by first | omega | (simp only; omega)) ?_); conv => whnf))
   refine ⟨fits_i64 (by rw [IntKind.wrap_u8]; omega), ?_⟩
   conv => whnf
   (repeat ((first | refine stp (by (repeat constructor); first | done | fail) ?_ | refine stn (by (repeat constructor); first | done | fail) ?_ | refine sto (by (repeat constructor); first | done | fail) (by first | omega | (simp only; omega)) ?_); conv => whnf))
   refine ⟨(i + 1, _), ⟨by simp; omega, by simp; omega, ?_⟩, by simp; omega, ⟨rfl, rfl, rfl, rfl, trivial⟩, SubM.refl _ _⟩
   rw [← hn, numN_step k i 19 n (by omega) (by omega)]
   rfl
  ·conv => whnf
   (repeat ((first | refine stp (by (repeat constructor); first | done | fail) ?_ | refine stn (by (repeat constructor); first | done | fail) ?_ | refine sto (by (repeat constructor); first | done | fail) (by first | omega | (simp only; omega)) ?_); conv => whnf))
   have hfin : numN k 19 0 = n := by
    rw [← hn]
    refine numN_stop _ _ _ ?_
    rw [Bool.and_eq_false_iff, decide_eq_false_iff_not, decide_eq_false_iff_not] at hb
    simp only [List.length_drop]
    omega
   rw [hfin] at hv
   refine br (fun hg => ?_) (fun hg => ?_)
   ·conv => whnf
    refine fin1 rfl rfl (fun w' hm => ⟨?_, hm.fr⟩)
    simp only [hg, if_true] at hv
    rw [hv]
   ·conv => whnf
    refine fin1 rfl rfl (fun w' hm => ⟨?_, hm.fr⟩)
    simp only [hg] at hv
    rw [← hv]
    rfl
end Go.Proofs.YtbfbjgakmnckbaaGreatDoor
namespace Go.Proofs.YtbfbjgakmnckbaaGreatDoor
open Go Go.RowKit Eng
attribute [local irreducible] Br Rn RnU Cl RdG CpG Ld Rd Lp Dr Oth Cut fin Fits Eng.Enters Md NA

def formsL : List (List UInt8) := [[],
 [99, 114, 101, 97, 116, 101, 32, 97, 78, 66, 82, 79],
 [111, 112, 101, 110, 32, 97, 119],
 [99, 108, 111, 115, 101, 32, 97],
 [114, 101, 97, 100, 32, 97, 65, 78],
 [119, 114, 105, 116, 101, 32, 97, 65, 120],
 [122, 101, 114, 111, 32, 97, 65, 78],
 [112, 97, 99, 107, 32, 97, 65, 120, 66],
 [102, 108, 117, 115, 104, 32, 97],
 [115, 110, 97, 112, 32, 97, 111],
 [97, 112, 112, 108, 121, 32, 97, 111],
 [117, 110, 115, 110, 97, 112, 32, 97, 111],
 [97, 100, 100, 32, 97, 111, 66, 98],
 [114, 101, 109, 111, 118, 101, 32, 97, 111],
 [116, 117, 114, 110, 32, 97, 111, 98],
 [99, 108, 101, 97, 114, 32, 97, 111],
 [109, 101, 114, 103, 101, 32, 97, 111, 116],
 [114, 101, 115, 105, 122, 101, 32, 97, 78],
 [99, 111, 109, 109, 105, 116, 32, 97],
 [114, 101, 98, 97, 115, 101, 32, 97, 79, 115],
 [99, 111, 110, 118, 101, 114, 116, 32, 97, 111, 66, 82, 112],
 [99, 111, 109, 112, 97, 114, 101, 32, 97, 111],
 [99, 104, 101, 99, 107, 32, 97],
 [114, 101, 112, 97, 105, 114, 32, 97],
 [102, 97, 116, 101, 32],
 [99, 114, 97, 115, 104, 32]]
def formL (k : Int) : List UInt8 := if k < 1 ∨ 26 ≤ k then [] else formsL.getD k.toNat []
set_option maxRecDepth 100000 in
theorem form_any (k : Int) (w : World) : Calls Tryz.prog 42 #[.int .i64 k] w fun e w' => e = .returned (.string (Str (formL k))) ∧ Fr (fun _ => False) w w' := by
 refine enter (cx := CX 17 [] w) [(0, .int .i64 k)] tab_ok Tryz.func42 rfl rfl rfl rfl (MemOk.nil w _) ?_
 conv => whnf
 intro b
 conv => whnf
 (repeat ((first | refine stp (by (repeat constructor); first | done | fail) ?_ | refine stn (by (repeat constructor); first | done | fail) ?_ | refine sto (by (repeat constructor); first | done | fail) (by first | omega | (simp only; omega)) ?_); conv => whnf))
 refine br (fun hb => ?_) (fun hb => ?_)
 ·conv => whnf
  refine fin1 rfl rfl (fun w' hm => ⟨?_, hm.fr⟩)
  rw [Bool.or_eq_true, decide_eq_true_eq, decide_eq_true_eq] at hb
  have hb' : k < 1 ∨ 26 ≤ k := hb
  rw [formL, if_pos hb']
 ·rw [Bool.or_eq_false_iff, decide_eq_false_iff_not, decide_eq_false_iff_not] at hb
  have h1 : 1 ≤ k := by omega
  have h2 : k < 26 := by omega
  conv => whnf
  refine ⟨⟨by omega, h2, Pl.mk _ _⟩, ?_⟩
  conv => whnf
  have hf : formL k = formsL.getD k.toNat [] := by rw [formL, if_neg (by omega)]
  obtain ⟨n, rfl⟩ : ∃ n : Nat, k = n := ⟨k.toNat, by omega⟩
  have hn : n < 26 := by omega
  refine rn_load (v := .string (Str (formsL.getD n []))) (ld1 tab_ok (by (repeat constructor); first | done | fail) rfl rfl ?_) ?_
  ·match n, hn with
   | 0, _ | 1, _ | 2, _ | 3, _ | 4, _ | 5, _ | 6, _ | 7, _ | 8, _ | 9, _ | 10, _ | 11, _ | 12, _ | 13, _ | 14, _ | 15, _ | 16, _ | 17, _ | 18, _ | 19, _ | 20, _ | 21, _ | 22, _ | 23, _ | 24, _ | 25, _ => rfl
  ·conv => whnf
   refine fin1 rfl rfl (fun w' hm => ⟨?_, hm.fr⟩)
   rw [hf]
   rfl

/-! ## hex -/
def sixteenL : List UInt8 := [48, 49, 50, 51, 52, 53, 54, 55, 56, 57, 97, 98, 99, 100, 101, 102]
def hexD (n : Nat) : UInt8 := sixteenL.getD n 0
def hexs (bs : List UInt8) : List UInt8 := bs.flatMap fun b => [hexD (b.toNat / 16), hexD (b.toNat % 16)]
def hexF (bs : List UInt8) : List UInt8 := if bs = [] then [45] else hexs bs
theorem hexs_length (bs : List UInt8) : (hexs bs).length = 2 * bs.length := by
 induction bs with
 | nil => rfl
 | cons b r ih => simp [hexs] at ih ⊢; omega
theorem hexs_take (bs : List UInt8) (i : Nat) (hi : i < bs.length) : hexs (bs.take (i + 1)) = hexs (bs.take i) ++ [hexD ((bs.getD i 0).toNat / 16), hexD ((bs.getD i 0).toNat % 16)] := by
 rw [List.take_add_one, List.getElem?_eq_getElem hi]
 simp only [hexs, List.flatMap_append, Option.toList_some, List.getD, List.getElem?_eq_getElem hi, Option.getD_some, List.flatMap_cons, List.flatMap_nil, List.append_nil]
theorem numsOf_append (a b : List UInt8) : numsOf (a ++ b) = numsOf a ++ numsOf b := by simp [numsOf]
theorem u8_hi (n : Nat) (h : n ≤ 255) : IntKind.u8.wrap ((n : Int).tdiv 16) = ((n / 16 : Nat) : Int) := by
 rw [IntKind.wrap_u8, show (n : Int).tdiv 16 = ((n / 16 : Nat) : Int) from rfl]; omega
theorem u8_lo (n : Nat) : ((n : Int).tmod 16) = ((n % 16 : Nat) : Int) := rfl
theorem hexs_row (bs : List UInt8) (i : Nat) (hi : i < bs.length) : (numsOf (hexs (bs.take i))).map (Value.int .u8) ++ [.int .u8 (byteAt (Str sixteenL) ((bs.getD i 0).toNat / 16)), .int .u8 (byteAt (Str sixteenL) ((bs.getD i 0).toNat % 16))] = (numsOf (hexs (bs.take (i + 1)))).map (.int .u8) := by
 rw [hexs_take bs i hi, numsOf_append, List.map_append]
 rfl
set_option maxRecDepth 100000 in
theorem hex_any (bs : List UInt8) (A : Option Addr) (c : Nat) (w : World) (h : BytsIn w A bs) (hl : bs.length ≤ 35184372088832) :
  Calls Tryz.prog 51 #[.slice A bs.length c] w fun e w' => e = .returned (.string (Str (hexF bs))) ∧ Fr (fun _ => False) w w' := by
 refine enter (cx := CX 35 [] w) [(0, .slice A bs.length c)] tab_ok Tryz.func51 rfl rfl rfl rfl (MemOk.nil w _) ?_
 have h1 := fun m => BytsIn.byts (cx := CX 35 [] w) (m := m) h (fun _ h => h)
 clear h
 conv => whnf
 refine br_d (fun h0 => ?_) (fun h0 => ?_)
 ·conv => whnf
  refine fin1 rfl rfl (fun w' hm => ⟨?_, hm.fr⟩)
  rw [hexF, if_pos (List.eq_nil_of_length_eq_zero (by omega))]
 ·conv => whnf
  (repeat ((first | refine stp (by (repeat constructor); first | done | fail) ?_ | refine stn (by (repeat constructor); first | done | fail) ?_ | refine sto (by (repeat constructor); first | done | fail) (by first | omega | (simp only; omega)) ?_); conv => whnf))
  refine rn_make0 tab_ok rfl rfl rfl (by omega) (by show 1 * _ ≤ _; omega) (by omega) (fun b => ?_)
  conv => whnf
  (repeat ((first | refine stp (by (repeat constructor); first | done | fail) ?_ | refine stn (by (repeat constructor); first | done | fail) ?_ | refine sto (by (repeat constructor); first | done | fail) (by first | omega | (simp only; omega)) ?_); conv => whnf))
  refine lp tab_ok (γ := Nat × Option Addr × Nat) (fun g => g.1 ≤ bs.length) (fun g => [(4, .int .i64 g.1), (3, .slice g.2.1 (2 * g.1) g.2.2), (0, .slice A bs.length c)]) (fun g => [.row g.2.1 g.2.2 (2 * g.1) 5 1 ((numsOf (hexs (bs.take g.1))).map (.int .u8))]) (fun g => bs.length - g.1) (0, some ⟨b, 0, none⟩, _) (by simp) ⟨rfl, rfl, rfl, trivial⟩ (SubM.refl _ _) ?_
  rintro ⟨i, A', cap'⟩ hi
  simp only at hi
  change XC _ _ _ [(4, .int .i64 (i : Int)), (3, .slice A' (2 * i) cap'), (0, .slice A bs.length c)] [.row A' cap' (2 * i) 5 1 ((numsOf (hexs (bs.take i))).map (.int .u8))]
  conv => whnf
  (repeat ((first | refine stp (by (repeat constructor); first | done | fail) ?_ | refine stn (by (repeat constructor); first | done | fail) ?_ | refine sto (by (repeat constructor); first | done | fail) (by first | omega | (simp only; omega)) ?_); conv => whnf))
  refine br_d (fun hlt => ?_) (fun hge => ?_)
  ·conv => whnf
   have hpl : Pl A := (h1 []).plain (by omega)
   refine dr_any (γ := Option Addr × Nat) (Tr.hs [0, 1, 2, 3, 4, 5, 6, 7, 8, 9, 10, 11, 12] (Tr.sq [13, 14, 15] .done)) [] tab_ok mixed (by kernel_rfl) rfl (fun _ => True) (fun g => [(4, .int .i64 (i : Int)), (3, .slice g.1 (2 * i + 2) g.2), (0, .slice A bs.length c)]) (fun g => [.row g.1 g.2 (2 * i + 2) 5 1 ((numsOf (hexs (bs.take (i + 1)))).map (.int .u8))]) (SubM.sub (List.nil_sublist _)) ?_ ?_
   ·have hb1 : 0 ≤ ((bs.getD i 0).toNat : Int) ∧ ((bs.getD i 0).toNat : Int) ≤ 255 := by have := (bs.getD i 0).toNat_lt; omega
    conv => whnf
    refine ⟨⟨by omega, hlt, hpl⟩, ?_⟩
    conv => whnf
    refine ⟨_, ((h1 _).ld tab_ok rfl rfl (j := i) (by omega)).g, ?_⟩
    conv => whnf
    (repeat ((first | refine stp (by (repeat constructor); first | done | fail) ?_ | refine stn (by (repeat constructor); first | done | fail) ?_ | refine sto (by (repeat constructor); first | done | fail) (by first | omega | (simp only; omega)) ?_); conv => whnf))
    refine ⟨by rw [u8_hi _ (by omega)]; show _ ∧ _ < (16 : Int); omega, ?_⟩
    conv => whnf
    refine ⟨⟨by omega, hlt, hpl⟩, ?_⟩
    conv => whnf
    refine ⟨_, ((h1 _).ld tab_ok rfl rfl (j := i) (by omega)).g, ?_⟩
    conv => whnf
    (repeat ((first | refine stp (by (repeat constructor); first | done | fail) ?_ | refine stn (by (repeat constructor); first | done | fail) ?_ | refine sto (by (repeat constructor); first | done | fail) (by first | omega | (simp only; omega)) ?_); conv => whnf))
    refine ⟨by show _ ∧ _ < (16 : Int); rw [u8_lo]; omega, ?_⟩
    conv => whnf
    refine And.intro ?_ trivial
    intro b2
    conv => whnf
    (repeat ((first | refine stp (by (repeat constructor); first | done | fail) ?_ | refine stn (by (repeat constructor); first | done | fail) ?_ | refine sto (by (repeat constructor); first | done | fail) (by first | omega | (simp only; omega)) ?_); conv => whnf))
    refine And.intro ?_ trivial
    conv => whnf
    refine rn_append tab_ok rfl rfl rfl rfl rfl (by decide) (.there .here) rfl (news_blk (by (repeat constructor); first | done | fail)) rfl ?_ ?_ (fun A'' cap'' => ?_)
    ·show (2 * i + 2) * 1 ≤ _; omega
    ·omega
    ·conv => whnf
     (repeat ((first | refine stp (by (repeat constructor); first | done | fail) ?_ | refine stn (by (repeat constructor); first | done | fail) ?_ | refine sto (by (repeat constructor); first | done | fail) (by first | omega | (simp only; omega)) ?_); conv => whnf))
     refine And.intro ?_ trivial
     conv => whnf
     (repeat ((first | refine stp (by (repeat constructor); first | done | fail) ?_ | refine stn (by (repeat constructor); first | done | fail) ?_ | refine sto (by (repeat constructor); first | done | fail) (by first | omega | (simp only; omega)) ?_); conv => whnf))
     refine ⟨(A'', cap''), trivial, ⟨rfl, rfl, rfl, trivial⟩, ?_⟩
     refine SubM.row ?_ rfl (List.nil_sublist _)
     show _ ++ [Value.int .u8 (byteAt (Str sixteenL) (IntKind.u8.wrap (((bs.getD i 0).toNat : Int).tdiv 16)).toNat), Value.int .u8 (byteAt (Str sixteenL) (((bs.getD i 0).toNat : Int).tmod 16).toNat)] = _
     rw [u8_hi _ (by omega)]
     exact hexs_row bs i (by omega)
   ·rintro ⟨A'', cap''⟩ _
    conv => whnf
    (repeat ((first | refine stp (by (repeat constructor); first | done | fail) ?_ | refine stn (by (repeat constructor); first | done | fail) ?_ | refine sto (by (repeat constructor); first | done | fail) (by first | omega | (simp only; omega)) ?_); conv => whnf))
    exact ⟨(i + 1, A'', cap''), by simp; omega, by simp; omega, ⟨rfl, rfl, rfl, trivial⟩, SubM.refl _ _⟩
  ·conv => whnf
   refine Rd.n (rd_rowStr (bs := hexs bs) (t := 5) tab_ok rfl rfl rfl rfl rfl rfl ?_ ?_) ?_
   ·have : bs.take i = bs := List.take_of_length_le (by omega)
    rw [this]; exact (by (repeat constructor); first | done | fail)
   ·rw [hexs_length]; omega
   ·conv => whnf
    refine fin1 rfl rfl (fun w' hm => ⟨?_, hm.fr⟩)
    rw [hexF, if_neg]
    rintro rfl
    simp at h0

/-! ## bytes -/
def dig8 (a b : UInt8) : UInt8 := UInt8.ofNat (IntKind.u8.wrap (IntKind.u8.wrap (16 * digN a.toNat) + digN b.toNat)).toNat
theorem dig8_val (a b : UInt8) : ((dig8 a b).toNat : Int) = IntKind.u8.wrap (IntKind.u8.wrap (16 * digN a.toNat) + digN b.toNat) := by
 unfold dig8
 generalize IntKind.u8.wrap (16 * digN a.toNat) + digN b.toNat = z
 have : 0 ≤ IntKind.u8.wrap z ∧ IntKind.u8.wrap z ≤ 255 := by rw [IntKind.wrap_u8]; omega
 rw [UInt8.toNat_ofNat']
 omega
def bytesL : List UInt8 → List UInt8
 | a :: b :: r => dig8 a b :: bytesL r
 | _ => []
theorem bytesL_take : ∀ (l : List UInt8) (i : Nat), 2 * i + 1 < l.length → bytesL (l.take (2 * (i + 1))) = bytesL (l.take (2 * i)) ++ [dig8 (l.getD (2 * i) 0) (l.getD (2 * i + 1) 0)]
 | [], i, h => absurd h (by simp)
 | [a], i, h => absurd h (by simp)
 | a :: b :: r, 0, h => by simp [bytesL]
 | a :: b :: r, i + 1, h => by
  have := bytesL_take r i (by simp at h; omega)
  rw [show 2 * (i + 1 + 1) = 2 * (i + 1) + 1 + 1 by omega, show 2 * (i + 1) = 2 * i + 1 + 1 by omega]
  simp only [List.take_succ_cons, bytesL]
  rw [show 2 * i + 1 + 1 = 2 * (i + 1) by omega, this]
  rfl
theorem bytesL_all : ∀ (l : List UInt8) (i : Nat), ¬ 2 * i + 1 < l.length → bytesL (l.take (2 * i)) = bytesL l
 | [], i, _ => by simp
 | [a], i, _ => by
  cases i with
  | zero => rfl
  | succ i => rw [List.take_of_length_le (by simp; omega)]
 | a :: b :: r, 0, h => absurd (by simp) h
 | a :: b :: r, i + 1, h => by
  have := bytesL_all r i (by simp at h; omega)
  rw [show 2 * (i + 1) = 2 * i + 1 + 1 by omega]
  simp only [List.take_succ_cons, bytesL, this]
theorem bytesL_length : ∀ (l : List UInt8), (bytesL l).length = l.length / 2
 | [] => rfl
 | [a] => by simp [bytesL]
 | a :: b :: r => by simp only [bytesL, List.length_cons, bytesL_length r]; omega
theorem digit_enters : Eng.Enters Tryz.prog 104 := enters_mk fun _ _ => by kernel_rfl
set_option maxRecDepth 100000 in
theorem bytes_any (l : List UInt8) (w : World) (hl : l.length ≤ 35184372088832) :
  Calls Tryz.prog 89 #[.string (Str l)] w fun e w' => ∃ A cap, e = .returned (.slice A (bytesL l).length cap) ∧ w'.ownsRow w.heap.size 5 1 (.slice A (bytesL l).length cap) (bytesL l).length ((numsOf (bytesL l)).map (.int .u8)) ∧ Fr (fun _ => False) w w' := by
 have hsz := Str.size l
 refine enter (cx := CX 27 [17, 23] w) [(0, .string (Str l))] tab_ok Tryz.func89 rfl rfl rfl rfl (MemOk.nil w _) ?_
 conv => whnf
 refine lp tab_ok (γ := Nat × Option Addr × Nat) (fun g => 2 * g.1 ≤ l.length) (fun g => [(4, .int .i64 (2 * g.1)), (3, .slice g.2.1 g.1 g.2.2), (0, .string (Str l))]) (fun g => [.row g.2.1 g.2.2 g.1 5 1 ((numsOf (bytesL (l.take (2 * g.1)))).map (.int .u8))]) (fun g => l.length - g.1) (0, none, 0) (by simp) ⟨rfl, rfl, rfl, trivial⟩ ((SubM.refl _ _).row0 _ _) ?_
 rintro ⟨i, A', cap'⟩ hi
 simp only at hi
 change XC _ _ _ [(4, .int .i64 (2 * (i : Int))), (3, .slice A' i cap'), (0, .string (Str l))] [.row A' cap' i 5 1 ((numsOf (bytesL (l.take (2 * i)))).map (.int .u8))]
 conv => whnf
 (repeat ((first | refine stp (by (repeat constructor); first | done | fail) ?_ | refine stn (by (repeat constructor); first | done | fail) ?_ | refine sto (by (repeat constructor); first | done | fail) (by first | omega | (simp only; omega)) ?_); conv => whnf))
 refine br_d (fun hlt => ?_) (fun hge => ?_)
 ·have hu : ∀ c : UInt8, 0 ≤ (c.toNat : Int) ∧ (c.toNat : Int) ≤ 255 := fun c => by have := c.toNat_lt; omega
  conv => whnf
  refine dr_any (γ := Option Addr × Nat) (Tr.hs [0, 1, 2, 3, 6, 7, 8, 9] (Tr.sq [4] (Tr.hs [5] (Tr.sq [10] (Tr.hs [11] (Tr.sq [12, 13, 14] .done)))))) [] tab_ok mixed (by kernel_rfl) rfl (fun _ => True) (fun g => [(4, .int .i64 (2 * (i : Int))), (3, .slice g.1 (i + 1) g.2), (0, .string (Str l))]) (fun g => [.row g.1 g.2 (i + 1) 5 1 ((numsOf (bytesL (l.take (2 * (i + 1))))).map (.int .u8))]) (SubM.sub (List.nil_sublist _)) ?_ ?_
  ·conv => whnf
   (repeat ((first | refine stp (by (repeat constructor); first | done | fail) ?_ | refine stn (by (repeat constructor); first | done | fail) ?_ | refine sto (by (repeat constructor); first | done | fail) (by first | omega | (simp only; omega)) ?_); conv => whnf))
   refine And.intro ⟨digit_enters, cl_same _ (fun w' _ => digit_any _ w' (by rw [Str.get]; exact hu _)) ?_⟩ trivial
   conv => whnf
   (repeat ((first | refine stp (by (repeat constructor); first | done | fail) ?_ | refine stn (by (repeat constructor); first | done | fail) ?_ | refine sto (by (repeat constructor); first | done | fail) (by first | omega | (simp only; omega)) ?_); conv => whnf))
   refine And.intro ⟨digit_enters, cl_same _ (fun w' _ => digit_any _ w' (by rw [Str.get]; exact hu _)) ?_⟩ trivial
   conv => whnf
   (repeat ((first | refine stp (by (repeat constructor); first | done | fail) ?_ | refine stn (by (repeat constructor); first | done | fail) ?_ | refine sto (by (repeat constructor); first | done | fail) (by first | omega | (simp only; omega)) ?_); conv => whnf))
   refine And.intro ?_ trivial
   intro b2
   conv => whnf
   (repeat ((first | refine stp (by (repeat constructor); first | done | fail) ?_ | refine stn (by (repeat constructor); first | done | fail) ?_ | refine sto (by (repeat constructor); first | done | fail) (by first | omega | (simp only; omega)) ?_); conv => whnf))
   refine And.intro ?_ trivial
   conv => whnf
   refine rn_append tab_ok rfl rfl rfl rfl rfl (by decide) (.there .here) rfl (news_blk (by (repeat constructor); first | done | fail)) rfl ?_ ?_ (fun A'' cap'' => ?_)
   ·show (i + 1) * 1 ≤ _; omega
   ·omega
   ·conv => whnf
    (repeat ((first | refine stp (by (repeat constructor); first | done | fail) ?_ | refine stn (by (repeat constructor); first | done | fail) ?_ | refine sto (by (repeat constructor); first | done | fail) (by first | omega | (simp only; omega)) ?_); conv => whnf))
    refine And.intro ?_ trivial
    conv => whnf
    (repeat ((first | refine stp (by (repeat constructor); first | done | fail) ?_ | refine stn (by (repeat constructor); first | done | fail) ?_ | refine sto (by (repeat constructor); first | done | fail) (by first | omega | (simp only; omega)) ?_); conv => whnf))
    refine ⟨(A'', cap''), trivial, ⟨rfl, rfl, rfl, trivial⟩, ?_⟩
    refine SubM.row ?_ rfl (List.nil_sublist _)
    rw [bytesL_take l i (by omega), numsOf_append, List.map_append]
    congr 1
    show [Value.int .u8 (IntKind.u8.wrap (IntKind.u8.wrap (16 * digN (byteAt (Str l) (2 * (i : Int)).toNat)) + digN (byteAt (Str l) (2 * (i : Int) + 1).toNat)))] = [Value.int .u8 ((dig8 (l.getD (2 * i) 0) (l.getD (2 * i + 1) 0)).toNat : Int)]
    rw [dig8_val, Str.get, Str.get, show (2 * (i : Int)).toNat = 2 * i by omega, show (2 * (i : Int) + 1).toNat = 2 * i + 1 by omega]
  ·rintro ⟨A'', cap''⟩ _
   conv => whnf
   (repeat ((first | refine stp (by (repeat constructor); first | done | fail) ?_ | refine stn (by (repeat constructor); first | done | fail) ?_ | refine sto (by (repeat constructor); first | done | fail) (by first | omega | (simp only; omega)) ?_); conv => whnf))
   exact ⟨(i + 1, A'', cap''), by simp; omega, by simp; omega, ⟨congrArg (fun z => some (Value.int .i64 z)) (by simp; omega), rfl, rfl, trivial⟩, SubM.refl _ _⟩
 ·conv => whnf
  have hall : bytesL (l.take (2 * i)) = bytesL l := bytesL_all l i (by omega)
  have hlen : i = (bytesL l).length := by rw [bytesL_length]; omega
  refine fin1 rfl rfl (fun w' hm => ⟨A', cap', by rw [hlen], ?_, hm.fr⟩)
  rw [hall] at hm
  rw [← hlen]
  exact hm.row_base .here
end Go.Proofs.YtbfbjgakmnckbaaGreatDoor
namespace Go.Proofs.YtbfbjgakmnckbaaGreatDoor
open Go Go.RowKit Eng
attribute [local irreducible] Br Rn RnU Cl RdG CpG Ld Rd Lp Dr Oth Cut fin Fits Eng.Enters Md NA

/-! ## words -/
/-- A line at its blanks. -/
def wordsL : List UInt8 → List (List UInt8)
 | [] => [[]]
 | c :: r => if c = 32 then [] :: wordsL r else match wordsL r with
  | w :: ws => (c :: w) :: ws
  | [] => [[c]]
/-- The words that end ahead of place i; where the next begins. -/
def wordsTo (l : List UInt8) : Nat → List (List UInt8) × Nat
 | 0 => ([], 0)
 | i + 1 => if l.getD i 0 = 32 then ((wordsTo l i).1 ++ [(l.drop (wordsTo l i).2).take (i - (wordsTo l i).2)], i + 1) else wordsTo l i
theorem wordsTo_le (l : List UInt8) : ∀ i, (wordsTo l i).2 ≤ i
 | 0 => Nat.le_refl _
 | i + 1 => by
  have := wordsTo_le l i
  unfold wordsTo
  split
  ·exact Nat.le_refl _
  ·omega
theorem wordsTo_len (l : List UInt8) : ∀ i, (wordsTo l i).1.length ≤ i
 | 0 => by simp [wordsTo]
 | i + 1 => by
  have := wordsTo_len l i
  unfold wordsTo
  split
  ·simp; omega
  ·omega
def strsOf (ws : List (List UInt8)) : List Value := ws.map fun w => .string (Str w)
def allWords (l : List UInt8) : List (List UInt8) := (wordsTo l l.length).1 ++ [(l.drop (wordsTo l l.length).2).take (l.length - (wordsTo l l.length).2)]
set_option maxRecDepth 100000 in
theorem words_any (l : List UInt8) (w : World) (hl : l.length ≤ 1099511627776) :
  Calls Tryz.prog 41 #[.string (Str l)] w fun e w' => ∃ A cap, e = .returned (.slice A (allWords l).length cap) ∧ w'.ownsRow w.heap.size 9 1 (.slice A (allWords l).length cap) (allWords l).length (strsOf (allWords l)) ∧ Fr (fun _ => False) w w' := by
 have hsz := Str.size l
 refine enter (cx := CX 32 [] w) [(0, .string (Str l))] tab_ok Tryz.func41 rfl rfl rfl rfl (MemOk.nil w _) ?_
 conv => whnf
 let ST : Nat → List (List UInt8) × Nat := fun i => if i ≤ l.length then wordsTo l i else (allWords l, l.length + 1)
 refine lp tab_ok (γ := Nat × Option Addr × Nat) (fun g => g.1 ≤ l.length + 1) (fun g => [(5, .int .i64 g.1), (4, .int .i64 (ST g.1).2), (3, .slice g.2.1 (ST g.1).1.length g.2.2), (0, .string (Str l))]) (fun g => [.row g.2.1 g.2.2 (ST g.1).1.length 9 1 (strsOf (ST g.1).1)]) (fun g => l.length + 1 - g.1) (0, none, 0) (by simp) ⟨rfl, rfl, rfl, rfl, trivial⟩ ((SubM.refl _ _).row0 _ _) ?_
 rintro ⟨i, A', cap'⟩ hi
 simp only at hi
 change XC _ _ _ [(5, .int .i64 (i : Int)), (4, .int .i64 (ST i).2), (3, .slice A' (ST i).1.length cap'), (0, .string (Str l))] [.row A' cap' (ST i).1.length 9 1 (strsOf (ST i).1)]
 conv => whnf
 (repeat ((first | refine stp (by (repeat constructor); first | done | fail) ?_ | refine stn (by (repeat constructor); first | done | fail) ?_ | refine sto (by (repeat constructor); first | done | fail) (by first | omega | (simp only; omega)) ?_); conv => whnf))
 refine br_d (fun hlt => ?_) (fun hge => ?_)
 ·have hST : ST i = wordsTo l i := if_pos (by omega)
  have hle := wordsTo_le l i
  have hlen := wordsTo_len l i
  rw [hST]
  conv => whnf
  (repeat ((first | refine stp (by (repeat constructor); first | done | fail) ?_ | refine stn (by (repeat constructor); first | done | fail) ?_ | refine sto (by (repeat constructor); first | done | fail) (by first | omega | (simp only; omega)) ?_); conv => whnf))
  refine br (fun hb => ?_) (fun hb => ?_)
  ·conv => whnf
   (repeat ((first | refine stp (by (repeat constructor); first | done | fail) ?_ | refine stn (by (repeat constructor); first | done | fail) ?_ | refine sto (by (repeat constructor); first | done | fail) (by first | omega | (simp only; omega)) ?_); conv => whnf))
   intro b2
   conv => whnf
   (repeat ((first | refine stp (by (repeat constructor); first | done | fail) ?_ | refine stn (by (repeat constructor); first | done | fail) ?_ | refine sto (by (repeat constructor); first | done | fail) (by first | omega | (simp only; omega)) ?_); conv => whnf))
   refine rn_append tab_ok rfl rfl rfl rfl rfl (by decide) (.there .here) rfl (news_blk (by (repeat constructor); first | done | fail)) rfl ?_ ?_ (fun A'' cap'' => ?_)
   ·show ((wordsTo l i).1.length + 1) * 16 ≤ _; omega
   ·omega
   ·conv => whnf
    (repeat ((first | refine stp (by (repeat constructor); first | done | fail) ?_ | refine stn (by (repeat constructor); first | done | fail) ?_ | refine sto (by (repeat constructor); first | done | fail) (by first | omega | (simp only; omega)) ?_); conv => whnf))
    have hb' : i = l.length ∨ l.getD i 0 = 32 := by
     rw [Bool.or_eq_true, decide_eq_true_eq, decide_eq_true_eq] at hb
     exact hb.imp (fun h => by omega) (fun h => u8_of_int h)
    have hnext : ST (i + 1) = ((wordsTo l i).1 ++ [(l.drop (wordsTo l i).2).take (i - (wordsTo l i).2)], i + 1) := by
     by_cases hil : i = l.length
     ·subst hil
      simp only [ST]
      rw [if_neg (by omega), allWords]
     ·have h32 := hb'.resolve_left hil
      simp only [ST]
      rw [if_pos (by omega), wordsTo, if_pos h32]
    have hsl : (Str l).extract ((wordsTo l i).2 : Int).toNat (i : Int).toNat = Str ((l.drop (wordsTo l i).2).take (i - (wordsTo l i).2)) := by
     rw [Str.extract]; simp only [Int.toNat_natCast]
    refine ⟨(i + 1, A'', cap''), by simp; omega, by simp; omega, ⟨rfl, ?_, ?_, rfl, trivial⟩, ?_⟩
    ·show some _ = some (Value.int .i64 ((ST (i + 1)).2 : Int))
     rw [hnext]; rfl
    ·show some _ = some (Value.slice A'' (ST (i + 1)).1.length cap'')
     rw [hnext]; simp
    ·show SubM _ _ [.row A'' cap'' (ST (i + 1)).1.length _ 1 (strsOf (ST (i + 1)).1)]
     refine SubM.row ?_ (by rw [hnext]; simp) (List.nil_sublist _)
     rw [hnext, strsOf, strsOf, List.map_append]
     show _ ++ [Value.string ((Str l).extract ((wordsTo l i).2 : Int).toNat (i : Int).toNat)] = _
     rw [hsl]
     rfl
  ·conv => whnf
   (repeat ((first | refine stp (by (repeat constructor); first | done | fail) ?_ | refine stn (by (repeat constructor); first | done | fail) ?_ | refine sto (by (repeat constructor); first | done | fail) (by first | omega | (simp only; omega)) ?_); conv => whnf))
   rw [Bool.or_eq_false_iff, decide_eq_false_iff_not, decide_eq_false_iff_not] at hb
   have hnext : ST (i + 1) = wordsTo l i := by
    simp only [ST]
    rw [if_pos (by omega), wordsTo, if_neg]
    intro h
    apply hb.2
    rw [Str.get, Int.toNat_natCast, h]; rfl
   refine ⟨(i + 1, A', cap'), by simp; omega, by simp; omega, ⟨rfl, ?_, ?_, rfl, trivial⟩, ?_⟩
   ·show some _ = some (Value.int .i64 ((ST (i + 1)).2 : Int))
    rw [hnext]
   ·show some _ = some (Value.slice A' (ST (i + 1)).1.length cap')
    rw [hnext]
   ·show SubM _ _ [.row A' cap' (ST (i + 1)).1.length _ 1 (strsOf (ST (i + 1)).1)]
    rw [hnext]
    exact SubM.refl _ _
 ·have hST : ST i = (allWords l, l.length + 1) := if_neg (by omega)
  rw [hST]
  conv => whnf
  refine fin1 rfl rfl (fun w' hm => ⟨A', cap', rfl, hm.row_base .here, hm.fr⟩)
end Go.Proofs.YtbfbjgakmnckbaaGreatDoor
