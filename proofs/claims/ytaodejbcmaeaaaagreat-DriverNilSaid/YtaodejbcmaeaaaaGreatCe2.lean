/- The concrete evaluator: what its values, its slots and its memory stand for. No statement of the seat is proved here. -/
import Derived.Test.YtaodejbcmaeaaaaGreatCe1
set_option linter.unusedVariables false
set_option linter.unusedSimpArgs false
namespace Go.Proofs.YtaodejbcmaeaaaaGreat.CE
open Go Go.RowKit
open Go.Proofs.YtaodejbcmaeaaaaGreat.Eng (Fr Pl pl TyI TyK Tab TabOk kix)

/-! ## tries -/
section trie
variable {α : Type}
theorem natbeq_t {a b : Nat} (h : Nat.beq a b = true) : a = b := Nat.eq_of_beq_eq_true h
theorem natbeq_f {a b : Nat} (h : Nat.beq a b = false) : a ≠ b := Nat.ne_of_beq_eq_false h
theorem T.get_lf (i : Nat) : (T.lf : T α).get i = none := rfl
theorem T.get_nd0 (v : Option α) (l r : T α) : (T.nd v l r).get 0 = v := rfl
theorem T.get_ndS (v : Option α) (l r : T α) (j : Nat) : (T.nd v l r).get (j + 1) = match Nat.beq (Nat.mod j 2) 0 with
    | true => l.get (Nat.div j 2)
    | false => r.get (Nat.div j 2) := by
  show Bool.rec (motive := fun _ => Option α) (r.get (Nat.div j 2)) (l.get (Nat.div j 2)) (Nat.beq (Nat.mod j 2) 0) = _
  cases Nat.beq (Nat.mod j 2) 0 <;> rfl
theorem T.mkL_eq (v : Option α) (l r : T α) : T.mkL v l r = .nd v l r := by cases l <;> rfl
theorem T.mkR_eq (v : Option α) (l r : T α) : T.mkR v l r = .nd v l r := by cases r <;> rfl
theorem T.setF_lf0 (f : Nat) (x : Option α) : T.setF (f + 1) (.lf : T α) 0 x = .nd x .lf .lf := rfl
theorem T.setF_nd0 (f : Nat) (v : Option α) (l r : T α) (x : Option α) : T.setF (f + 1) (.nd v l r) 0 x = .nd x l r := rfl
theorem T.setF_lfS (f j : Nat) (x : Option α) : T.setF (f + 1) (.lf : T α) (j + 1) x = match Nat.beq (Nat.mod j 2) 0 with
    | true => .nd none (T.setF f .lf (Nat.div j 2) x) .lf
    | false => .nd none .lf (T.setF f .lf (Nat.div j 2) x) := by
  show Bool.rec (motive := fun _ => T α) (T.mkR none .lf (T.setF f .lf (Nat.div j 2) x)) (T.mkL none (T.setF f .lf (Nat.div j 2) x) .lf) (Nat.beq (Nat.mod j 2) 0) = _
  cases Nat.beq (Nat.mod j 2) 0 <;> simp only [T.mkL_eq, T.mkR_eq]
theorem T.setF_ndS (f j : Nat) (v : Option α) (l r : T α) (x : Option α) : T.setF (f + 1) (.nd v l r) (j + 1) x = match Nat.beq (Nat.mod j 2) 0 with
    | true => .nd v (T.setF f l (Nat.div j 2) x) r
    | false => .nd v l (T.setF f r (Nat.div j 2) x) := by
  show Bool.rec (motive := fun _ => T α) (T.mkR v l (T.setF f r (Nat.div j 2) x)) (T.mkL v (T.setF f l (Nat.div j 2) x) r) (Nat.beq (Nat.mod j 2) 0) = _
  cases Nat.beq (Nat.mod j 2) 0 <;> simp only [T.mkL_eq, T.mkR_eq]
theorem halves {i j : Nat} (h1 : Nat.beq (Nat.mod i 2) 0 = Nat.beq (Nat.mod j 2) 0) (h2 : Nat.div i 2 = Nat.div j 2) : i = j := by
  have e1 : i % 2 = j % 2 := by
    have hi : i % 2 < 2 := Nat.mod_lt _ (by decide)
    have hj : j % 2 < 2 := Nat.mod_lt _ (by decide)
    have key : ∀ a b : Nat, a < 2 → b < 2 → Nat.beq a 0 = Nat.beq b 0 → a = b := by
      intro a b ha hb
      match a, b, ha, hb with
      | 0, 0, _, _ => intro; rfl
      | 1, 1, _, _ => intro; rfl
      | 0, 1, _, _ => intro h; cases h
      | 1, 0, _, _ => intro h; cases h
    exact key _ _ hi hj h1
  have e2 : i / 2 = j / 2 := h2
  omega
theorem div_lt_pow {f j : Nat} (h : j + 1 < 2 ^ (f + 1)) : Nat.div j 2 < 2 ^ f := by
  show j / 2 < 2 ^ f
  have : 2 ^ (f + 1) = 2 * 2 ^ f := by rw [Nat.pow_succ]; omega
  omega
theorem T.get_setF : ∀ (f : Nat) (t : T α) (i : Nat) (x : Option α) (j : Nat), i < 2 ^ f → (T.setF (f + 1) t i x).get j = if i = j then x else t.get j
  | f, .lf, 0, x, j, _ => by
    rw [T.setF_lf0]
    cases j with
    | zero => simp [T.get_nd0]
    | succ j => rw [T.get_ndS]; cases Nat.beq (Nat.mod j 2) 0 <;> simp [T.get_lf]
  | f, .nd v l r, 0, x, j, _ => by
    rw [T.setF_nd0]
    cases j with
    | zero => simp [T.get_nd0]
    | succ j => rw [T.get_ndS, T.get_ndS]; simp
  | 0, t, i + 1, x, j, h => by simp at h
  | f + 1, .lf, i + 1, x, j, h => by
    have hd := div_lt_pow h
    have ih := fun k => T.get_setF f (T.lf : T α) (Nat.div i 2) x k hd
    rw [T.setF_lfS]
    cases j with
    | zero => cases Nat.beq (Nat.mod i 2) 0 <;> simp [T.get_nd0, T.get_lf]
    | succ j =>
      by_cases hij : i = j
      · subst hij
        simp only [if_true]
        cases hb : Nat.beq (Nat.mod i 2) 0 <;> simp only [T.get_ndS, hb] <;> rw [ih] <;> simp
      · have hij' : ¬ (i + 1 = j + 1) := by omega
        rw [if_neg hij', T.get_lf]
        cases hb : Nat.beq (Nat.mod i 2) 0 <;> cases hc : Nat.beq (Nat.mod j 2) 0 <;> simp only [T.get_ndS, hc, T.get_lf]
        · rw [ih, if_neg (fun e => hij (halves (hb.trans hc.symm) e)), T.get_lf]
        · rw [ih, if_neg (fun e => hij (halves (hb.trans hc.symm) e)), T.get_lf]
  | f + 1, .nd v l r, i + 1, x, j, h => by
    have hd := div_lt_pow h
    have ihl := fun k => T.get_setF f l (Nat.div i 2) x k hd
    have ihr := fun k => T.get_setF f r (Nat.div i 2) x k hd
    rw [T.setF_ndS]
    cases j with
    | zero => cases Nat.beq (Nat.mod i 2) 0 <;> simp [T.get_nd0]
    | succ j =>
      by_cases hij : i = j
      · subst hij
        simp only [if_true]
        cases hb : Nat.beq (Nat.mod i 2) 0 <;> simp only [T.get_ndS, hb]
        · rw [ihr]; simp
        · rw [ihl]; simp
      · have hij' : ¬ (i + 1 = j + 1) := by omega
        rw [if_neg hij']
        cases hb : Nat.beq (Nat.mod i 2) 0 <;> cases hc : Nat.beq (Nat.mod j 2) 0 <;> simp only [T.get_ndS, hc]
        · rw [ihr, if_neg (fun e => hij (halves (hb.trans hc.symm) e))]
        · rw [ihl, if_neg (fun e => hij (halves (hb.trans hc.symm) e))]
theorem T.get_set (t : T α) (i : Nat) (x : α) (j : Nat) : (t.set i x).get j = if i = j then some x else t.get j := T.get_setF (Nat.succ (Nat.log2 i)) t i (some x) j Nat.lt_log2_self
theorem T.get_del (t : T α) (i : Nat) (j : Nat) : (t.del i).get j = if i = j then none else t.get j := T.get_setF (Nat.succ (Nat.log2 i)) t i none j Nat.lt_log2_self
end trie

/-! ## what a value stands for -/
/-- Numbers of blocks: the model's block of each (if it is there), a row's capacity. -/
structure Rl where
  σ : Nat → Option Nat
  τ : Nat → Nat
  γ : Nat → Array Nat
def Rl.le (r r' : Rl) : Prop := ∀ i b, r.σ i = some b → r'.σ i = some b ∧ r'.τ i = r.τ i ∧ r'.γ i = r.γ i
theorem Rl.le_refl (r : Rl) : r.le r := fun _ _ h => ⟨h, rfl, rfl⟩
theorem Rl.le_trans {a b c : Rl} (h : a.le b) (k : b.le c) : a.le c := fun i x hx => ⟨(k i x (h i x hx).1).1, (k i x (h i x hx).1).2.1.trans (h i x hx).2.1, (k i x (h i x hx).1).2.2.trans (h i x hx).2.2⟩
def bytesV (s : List Nat) : ByteArray := ⟨(s.map UInt8.ofNat).toArray⟩
def CapOk (r : Rl) (i : Nat) : Cap → Nat → Prop
  | .k n, c => c = n
  | .r d, c => (∃ b, r.σ i = some b) ∧ c + d = r.τ i
def FnR (r : Rl) : Fn → Fn → Prop
  | .yield j, g => ∃ b, r.σ j = some b ∧ g = .yield b
  | f, g => g = f
mutual
def Den (r : Rl) : CV → Value → Prop
  | .bool b, u => u = .bool b
  | .int k n, u => u = .int k n
  | .str s, u => u = .string (bytesV s)
  | .ptr i o, u => ∃ b, r.σ i = some b ∧ u = .pointer (some ⟨b, o, none⟩)
  | .nilP, u => u = .pointer none
  | .slice i o n c, u => ∃ b cap, r.σ i = some b ∧ CapOk r i c cap ∧ n ≤ cap ∧ u = .slice (some ⟨b, o, none⟩) n cap
  | .eslice i c, u => ∃ b o cap, CapOk r i c cap ∧ u = .slice (some ⟨b, o, none⟩) 0 cap
  | .nilS, u => u = .slice none 0 0
  | .iface t v, u => ∃ w, Den r v w ∧ u = .iface t w
  | .nilI, u => u = .nilIface
  | .func fn f c, u => ∃ g fs cs, FnR r fn g ∧ DenL r f fs ∧ DenL r c cs ∧ u = .func g fs.toArray cs.toArray
  | .nilF, u => u = .nilFunc
  | .map i, u => ∃ b, r.σ i = some b ∧ u = .map (some b)
  | .nilM, u => u = .map none
  | .tup l, u => ∃ us, DenL r l us ∧ u = .tuple us.toArray
  | .agg l, u => ∃ us, DenL r l us ∧ u = .agg us.toArray
  | .any, _ => True
  | .any1, u => u.oneCell' = true
  | .anyB, u => ∃ b, u = .bool b
  | .anyI k, u => ∃ n, u = .int k n
  | .cmpI k c b, u => ∃ n, b = decide (n > c) ∧ u = .int k n
  | .anyS, u => ∃ A n c, u = .slice A n c
  | .cmpS c b, u => ∃ A, ∃ n : Nat, ∃ cp, b = decide ((n : Int) > c) ∧ u = .slice A n cp
  | .anyStr, u => ∃ s, u = .string s
  | .cmpStr c b, u => ∃ s, b = decide ((s.size : Int) > c) ∧ u = .string s
  | .raw v, u => u = v
def DenL (r : Rl) : List CV → List Value → Prop
  | [], us => us = []
  | v :: l, us => ∃ u ur, Den r v u ∧ DenL r l ur ∧ us = u :: ur
end
theorem CapOk.mono {r r' : Rl} (h : r.le r') {i : Nat} {c : Cap} {n : Nat} (hc : CapOk r i c n) : CapOk r' i c n := by
  cases c with
  | k m => exact hc
  | r d => obtain ⟨⟨b, hb⟩, he⟩ := hc; exact ⟨⟨b, (h i b hb).1⟩, by rw [(h i b hb).2.1]; exact he⟩
theorem FnR.mono {r r' : Rl} (h : r.le r') {f g : Fn} (hf : FnR r f g) : FnR r' f g := by
  cases f <;> first | exact hf | (obtain ⟨b, hb, e⟩ := hf; exact ⟨b, (h _ b hb).1, e⟩)
mutual
theorem Den.mono {r r' : Rl} (h : r.le r') : ∀ {v : CV} {u : Value}, Den r v u → Den r' v u
  | .bool _, _, hd => hd
  | .int _ _, _, hd => hd
  | .str _, _, hd => hd
  | .ptr i o, _, hd => by obtain ⟨b, hb, e⟩ := hd; exact ⟨b, (h i b hb).1, e⟩
  | .nilP, _, hd => hd
  | .slice i o n c, _, hd => by obtain ⟨b, cap, hb, hc, hn, e⟩ := hd; exact ⟨b, cap, (h i b hb).1, hc.mono h, hn, e⟩
  | .eslice i c, _, hd => by obtain ⟨b, o, cap, hc, e⟩ := hd; exact ⟨b, o, cap, hc.mono h, e⟩
  | .nilS, _, hd => hd
  | .iface t v, _, hd => by obtain ⟨w, hw, e⟩ := hd; exact ⟨w, Den.mono h hw, e⟩
  | .nilI, _, hd => hd
  | .func fn f c, _, hd => by obtain ⟨g, fs, cs, h1, h2, h3, e⟩ := hd; exact ⟨g, fs, cs, h1.mono h, DenL.mono h h2, DenL.mono h h3, e⟩
  | .nilF, _, hd => hd
  | .map i, _, hd => by obtain ⟨b, hb, e⟩ := hd; exact ⟨b, (h i b hb).1, e⟩
  | .nilM, _, hd => hd
  | .tup l, _, hd => by obtain ⟨us, h1, e⟩ := hd; exact ⟨us, DenL.mono h h1, e⟩
  | .agg l, _, hd => by obtain ⟨us, h1, e⟩ := hd; exact ⟨us, DenL.mono h h1, e⟩
  | .any, _, hd => hd
  | .any1, _, hd => hd
  | .anyB, _, hd => hd
  | .anyI _, _, hd => hd
  | .cmpI _ _ _, _, hd => hd
  | .anyS, _, hd => hd
  | .cmpS _ _, _, hd => hd
  | .anyStr, _, hd => hd
  | .cmpStr _ _, _, hd => hd
  | .raw _, _, hd => hd
theorem DenL.mono {r r' : Rl} (h : r.le r') : ∀ {l : List CV} {us : List Value}, DenL r l us → DenL r' l us
  | [], _, hd => hd
  | _ :: _, _, hd => by obtain ⟨u, ur, h1, h2, e⟩ := hd; exact ⟨u, ur, Den.mono h h1, DenL.mono h h2, e⟩
end
theorem DenL.nil_iff {r : Rl} {us : List Value} : DenL r [] us ↔ us = [] := by simp [DenL]
theorem DenL.cons {r : Rl} {v : CV} {l : List CV} {u : Value} {us : List Value} (h : Den r v u) (hl : DenL r l us) : DenL r (v :: l) (u :: us) := by
  simp only [DenL]; exact ⟨u, us, h, hl, rfl⟩
theorem DenL.len {r : Rl} : ∀ {l : List CV} {us : List Value}, DenL r l us → us.length = l.length
  | [], us, h => by simp [DenL] at h; subst h; rfl
  | v :: l, us, h => by simp only [DenL] at h; obtain ⟨u, ur, _, h2, rfl⟩ := h; simp [h2.len]
theorem DenL.nth {r : Rl} : ∀ {l : List CV} {us : List Value} {i : Nat} {v : CV}, DenL r l us → nth l i = some v → ∃ u, us[i]? = some u ∧ Den r v u
  | [], us, i, v, _, h => by simp [CE.nth] at h
  | x :: l, us, 0, v, hd, h => by
    simp only [DenL] at hd; obtain ⟨u, ur, h1, h2, rfl⟩ := hd
    simp [CE.nth] at h; subst h
    exact ⟨u, by simp, h1⟩
  | x :: l, us, i + 1, v, hd, h => by
    simp only [DenL] at hd; obtain ⟨u, ur, h1, h2, rfl⟩ := hd
    obtain ⟨w, hw, hd⟩ := h2.nth (i := i) (v := v) (by simpa [CE.nth] using h)
    exact ⟨w, by simpa using hw, hd⟩
theorem DenL.append {r : Rl} : ∀ {l m : List CV} {us vs : List Value}, DenL r l us → DenL r m vs → DenL r (l ++ m) (us ++ vs)
  | [], m, us, vs, h, k => by simp [DenL] at h; subst h; simpa using k
  | x :: l, m, us, vs, h, k => by
    simp only [DenL] at h; obtain ⟨u, ur, h1, h2, rfl⟩ := h
    exact DenL.cons h1 (h2.append k)
theorem lenL_eq {α : Type} : ∀ (l : List α), lenL l = l.length
  | [] => rfl
  | _ :: l => by simp [lenL, lenL_eq l]
theorem takeL_eq {α : Type} : ∀ (n : Nat) (l : List α), takeL n l = l.take n
  | 0, l => by simp [takeL]
  | n + 1, [] => by simp [takeL]
  | n + 1, x :: l => by simp [takeL, takeL_eq n l]
theorem dropL_eq {α : Type} : ∀ (n : Nat) (l : List α), dropL n l = l.drop n
  | 0, l => by simp [dropL]
  | n + 1, [] => by simp [dropL]
  | n + 1, x :: l => by simp [dropL, dropL_eq n l]
theorem DenL.take {r : Rl} : ∀ {l : List CV} {us : List Value} (n : Nat), DenL r l us → DenL r (l.take n) (us.take n)
  | _, _, 0, _ => by simp [DenL]
  | [], us, n + 1, h => by simp [DenL] at h; subst h; simp [DenL]
  | x :: l, us, n + 1, h => by
    simp only [DenL] at h; obtain ⟨u, ur, h1, h2, rfl⟩ := h
    simpa using DenL.cons h1 (h2.take n)
theorem DenL.drop {r : Rl} : ∀ {l : List CV} {us : List Value} (n : Nat), DenL r l us → DenL r (l.drop n) (us.drop n)
  | _, _, 0, h => by simpa using h
  | [], us, n + 1, h => by simp [DenL] at h; subst h; simp [DenL]
  | x :: l, us, n + 1, h => by
    simp only [DenL] at h; obtain ⟨u, ur, h1, h2, rfl⟩ := h
    simpa using h2.drop n
theorem bytesV_self (s : ByteArray) : bytesV (s.data.toList.map UInt8.toNat) = s := by
  apply ByteArray.ext
  apply Array.toList_inj.1
  simp [bytesV, Function.comp_def]
theorem den_ofVal0 (r : Rl) (v : Value) : Den r (ofVal0 v) v := by
  cases v with
  | bool b => simp [ofVal0, Den]
  | int k n => simp [ofVal0, Den]
  | float k n => simp [ofVal0, Den]
  | complex k a b => simp [ofVal0, Den]
  | string s => simp [ofVal0, Den, bytesV_self]
  | pointer a => cases a <;> simp [ofVal0, ofPtr, Den]
  | slice a n c =>
    simp only [ofVal0]
    unfold ofSl
    split <;> simp [Den]
  | map a => cases a <;> simp [ofVal0, ofMap, Den]
  | chan a => simp [ofVal0, Den]
  | func fn f c =>
    simp only [ofVal0]
    generalize hf : f.toList = fl
    generalize hc : c.toList = cl
    have ef : f = fl.toArray := by rw [← hf]
    have ec : c = cl.toArray := by rw [← hc]
    subst ef ec
    unfold ofFn
    split <;> simp [Den, DenL, FnR]
  | nilFunc => simp [ofVal0, Den]
  | iface t v => simp [ofVal0, Den]
  | nilIface => simp [ofVal0, Den]
  | agg c => simp [ofVal0, Den]
  | tuple vs =>
    simp only [ofVal0]
    generalize hf : vs.toList = fl
    have ef : vs = fl.toArray := by rw [← hf]
    subst ef
    cases fl <;> simp [ofTup, Den, DenL]

theorem den_ofVal (r : Rl) (v : Value) : Den r (ofVal v) v := by
  cases v with
  | agg cs =>
    simp only [ofVal, Den]
    refine ⟨cs.toList, ?_, by simp⟩
    generalize cs.toList = l
    induction l with
    | nil => simp [DenL]
    | cons v l ih => exact (by simp only [List.map_cons, DenL]; exact ⟨v, l, den_ofVal0 r v, ih, rfl⟩)
  | _ => (simp only [ofVal]; exact den_ofVal0 r _)

/-! ## slots, memory -/
/-- A value of one cell, of those that are written out. -/
def EnvT (r : Rl) (E : T CV) (tmps : Array Value) : Prop := ∀ t v, E.get t = some v → Den r v (tmps.getD t undef)
theorem EnvT.mono {r r' : Rl} (h : r.le r') {E : T CV} {a : Array Value} (he : EnvT r E a) : EnvT r' E a := fun t v hv => (he t v hv).mono h

/-- What a list of cells holds. -/
def RowR (r : Rl) (row : Row) (cs : Array Value) : Prop := ∀ j v, row.get j = some v → ∃ u, cs[j]? = some u ∧ Den r v u
def FzOk (fz : Nat × Nat) (n : Nat) : Prop := fz = (0, 0) ∨ fz = (n, n + 1)
inductive EntsR (r : Rl) : List (CV × CV × Nat) → List MapEntry → Prop
  | nil : EntsR r [] []
  | cons {k v : CV} {n : Nat} {e : MapEntry} {es : List (CV × CV × Nat)} {fs : List MapEntry} (hk : Den r k e.key) (hv : Den r v e.val) (hb : e.born = n) (h : EntsR r es fs) : EntsR r ((k, v, n) :: es) (e :: fs)
theorem EntsR.mono {r r' : Rl} (h : r.le r') {es : List (CV × CV × Nat)} {fs : List MapEntry} (he : EntsR r es fs) : EntsR r' es fs := by
  induction he with
  | nil => exact .nil
  | cons hk hv hb _ ih => exact .cons (hk.mono h) (hv.mono h) hb ih
def lsOf : LS → LoopState
  | .ready => .ready | .busy => .busy | .done => .done | .exhausted => .exhausted
def ObjOk (P : Program) (r : Rl) (i : Nat) : AObj → Obj → Prop
  | .cells row e, o => ∃ cs, o = .cells cs e (0, 0) ∧ cs.size = row.n ∧ cs.size = r.τ i * P.cellsOf e ∧ RowR r row cs
  | .row row e, o => ∃ cs fz, o = .cells cs e fz ∧ row.n ≤ cs.size ∧ cs.size = r.τ i * P.cellsOf e ∧ FzOk fz cs.size ∧ RowR r row cs
  | .map es clock, o => ∃ fs, o = .map fs clock ∧ EntsR r es fs.toList
  | .mapIt m since seen last, o => ∃ m', o = .mapIter m' since seen.reverse.toArray last ∧ (match m with | none => m' = none | some j => ∃ b, r.σ j = some b ∧ m' = some b)
  | .mapCur m since b clock, o => ∃ mb seen, r.σ m = some mb ∧ o = .mapIter (some mb) since seen clock ∧ seen.back? = some b
  | .strIt s pos, o => o = .stringIter (bytesV s) pos
  | .loop st pend fn n E ps as bd d, o => ∃ tmps db g, n ≤ tmps.size ∧ r.σ d = some db ∧ o = .loop { state := lsOf st, pending := pend, fn := g, tmps, params := ps.toArray, assign := as, body := bd, defers := db } ∧ EnvT r E tmps
  | .defs l, o => match l with
    | none => o = .deferred none
    | some [] => o = .deferred (some [])
    | some (_ :: _) => False
theorem RowR.mono {r r' : Rl} (h : r.le r') {row : Row} {cs : Array Value} (hr : RowR r row cs) : RowR r' row cs := fun j v hv => let ⟨u, h1, h2⟩ := hr j v hv; ⟨u, h1, h2.mono h⟩
theorem ObjOk.mono {P : Program} {r r' : Rl} (h : r.le r') {i b : Nat} (hi : r.σ i = some b) : ∀ {o : AObj} {x : Obj}, ObjOk P r i o x → ObjOk P r' i o x
  | .cells _ _, _, hd => by obtain ⟨cs, h1, h2, h3, h4⟩ := hd; exact ⟨cs, h1, h2, by rw [(h i b hi).2.1]; exact h3, h4.mono h⟩
  | .row _ _, _, hd => by obtain ⟨cs, fz, h1, h2, h3, h4, h5⟩ := hd; exact ⟨cs, fz, h1, h2, by rw [(h i b hi).2.1]; exact h3, h4, h5.mono h⟩
  | .map _ _, _, hd => by obtain ⟨fs, h1, h2⟩ := hd; exact ⟨fs, h1, h2.mono h⟩
  | .mapIt m _ _ _, _, hd => by
    obtain ⟨m', h1, h2⟩ := hd
    refine ⟨m', h1, ?_⟩
    cases m with
    | none => exact h2
    | some j => obtain ⟨b, hb, e⟩ := h2; exact ⟨b, (h j b hb).1, e⟩
  | .mapCur m _ _ _, _, hd => by obtain ⟨mb, seen, h1, h2, h3⟩ := hd; exact ⟨mb, seen, (h m mb h1).1, h2, h3⟩
  | .strIt _ _, _, hd => hd
  | .loop _ _ _ _ _ _ _ _ d, _, hd => by obtain ⟨tmps, db, g, h0, h1, h2, h3⟩ := hd; exact ⟨tmps, db, g, h0, (h d db h1).1, h2, h3.mono h⟩
  | .defs none, _, hd => hd
  | .defs (some []), _, hd => hd
  | .defs (some (_ :: _)), _, hd => hd

structure MemR (P : Program) (w0 : World) (S : Nat → Prop) (r : Rl) (M : T AObj) (nx : Nat) (w : World) : Prop where
  fr : Fr S w0 w
  ok : ∀ i b o, r.σ i = some b → M.get i = some o → ∃ x, w.heap[b]? = some x ∧ ObjOk P r i o x
  inj : ∀ i j b, r.σ i = some b → r.σ j = some b → (M.get i).isSome = true → (M.get j).isSome = true → i = j
  own : ∀ i b o, r.σ i = some b → M.get i = some o → o.cur = false → w0.heap.size ≤ b ∨ S b
  dom : ∀ i, nx ≤ i → r.σ i = none ∧ M.get i = none

end Go.Proofs.YtaodejbcmaeaaaaGreat.CE
