/- The concrete evaluator: operations that yield a value and leave the memory, all of them. No statement of the seat is proved here. -/
import Derived.Test.YtaodejbcmaeaaaaGreatCe6
import Derived.Laws.BytesString
import Derived.MapKept
set_option linter.unusedVariables false
set_option linter.unusedSimpArgs false
namespace Go.Proofs.YtaodejbcmaeaaaaGreat.CE
open Go Go.RowKit
open Go.Proofs.YtaodejbcmaeaaaaGreat.Eng (Fr Pl pl TyI TyK Tab TabOk kix)

section q
variable {P : Program} {b : Tb} {w0 w : World} {S : Nat → Prop} {r : Rl} {M : T AObj} {nx : Nat} {E : T CV} {ρ : Operand → Value}

/-! ## maps -/
theorem keyOk_ok (hT : TbOk P b) {t : Nat} {k : CV} {u : Value} (h : keyOk b t k = true) (hd : Den r k u) : ∃ d, P.underlying t = some d ∧ (∀ (em : Bool) (n : Nat), (Instr.checkKey em (n + 1) t u).run P w = .ok () w) ∧ (∀ n, Instr.sameBits n u u = true) ∧
    ∀ (k' : CV) (u' : Value) (c : Bool), keyEq k k' = some c → Den r k' u' → Instr.sameNow d u u' = some c ∧ (c = true → u = u') := by
  unfold keyOk at h
  split at h
  · rename_i kk _ _ _ _ hti
    have hty := (hT.ty t _ hti).int rfl
    split at h
    · simp only [Den] at hd; subst hd
      refine ⟨_, hty, fun em n => by simp [Instr.checkKey, run_underlying hty], fun n => by cases n <;> simp [Instr.sameBits, beq_toListBytes], fun k' u' c hk hd' => ?_⟩
      unfold keyEq at hk
      split at hk
      · rename_i h1
        cases h1
        rename_i h1
        split at hk
        · rename_i hkk
          have := kEq_ok hkk; subst this
          simp at hk; subst hk
          simp only [Den] at hd'; subst hd'
          simp [Instr.sameNow, iEq_eq, Eng.int_beq]
        · cases hk
      all_goals simp_all
    · cases h
  · rename_i _ _ _ _ hti
    have hty := (hT.ty t _ hti).str rfl
    split at h
    · simp only [Den] at hd; subst hd
      refine ⟨_, hty, fun em n => by simp [Instr.checkKey, run_underlying hty], fun n => by cases n <;> simp [Instr.sameBits, beq_toListBytes], fun k' u' c hk hd' => ?_⟩
      unfold keyEq at hk
      split at hk
      · simp_all
      · simp_all
      · rename_i h1
        cases h1
        simp at hk; subst hk
        simp only [Den] at hd'; subst hd'
        have : ∀ a b : ByteArray, (a == b) = decide (a = b) := fun a b => by rw [beq_toListBytes, Eng.str_eq]
        simp [Instr.sameNow, sEq_eq, this]
      · cases hk
    · cases h
  · rename_i _ _ _ _ hti
    have hty := (hT.ty t _ hti).bool rfl
    split at h
    · simp only [Den] at hd; subst hd
      refine ⟨_, hty, fun em n => by simp [Instr.checkKey, run_underlying hty], fun n => by cases n <;> simp [Instr.sameBits, beq_toListBytes], fun k' u' c hk hd' => ?_⟩
      unfold keyEq at hk
      split at hk
      · simp_all
      · rename_i h1
        cases h1
        simp at hk; subst hk
        simp only [Den] at hd'; subst hd'
        simp [Instr.sameNow, bB_eq]
      · simp_all
      · cases hk
    · cases h
  · cases h

theorem mapFind_ok {d : TypeDesc} {k : CV} {u : Value} (hk : ∀ (k' : CV) (u' : Value) (c : Bool), keyEq k k' = some c → Den r k' u' → Instr.sameNow d u u' = some c ∧ (c = true → u = u')) :
    ∀ {es : List (CV × CV × Nat)} {fs : List MapEntry} (i : Nat) {o : Option CV}, EntsR r es fs → mapFind k es = some o →
      (match o with
       | none => Instr.findNow d u fs i = some none
       | some v => ∃ j e, Instr.findNow d u fs i = some (some (i + j, e.val)) ∧ fs[j]? = some e ∧ e.key = u ∧ Den r v e.val)
  | _, _, i, o, .nil, h => by simp [mapFind] at h; subst h; simp [Instr.findNow]
  | _, _, i, o, .cons (k := k') (v := v) (e := e) (fs := fs) hkd hvd hb hes, h => by
    simp only [mapFind] at h
    split at h
    · rename_i hq
      simp at h; subst h
      obtain ⟨h1, h2⟩ := hk _ _ _ hq hkd
      exact ⟨0, e, by simp [Instr.findNow, h1], by simp, (h2 rfl).symm, hvd⟩
    · rename_i hq
      obtain ⟨h1, _⟩ := hk _ _ _ hq hkd
      have ih := mapFind_ok hk (i + 1) hes h
      cases o with
      | none => simpa [Instr.findNow, h1] using ih
      | some v =>
        obtain ⟨j, e', h3, h4, h5, h6⟩ := ih
        exact ⟨j + 1, e', by simp [Instr.findNow, h1, h3]; omega, by simpa using h4, h5, h6⟩
    · cases h

theorem ty1_ok (hT : TbOk P b) {t : Nat} {z : CV} (h : ty1 b t = some z) (r : Rl) : ∃ u, (zeroValue t).run P w = .ok u w ∧ Den r z u := by
  unfold ty1 at h
  have run : ∀ ti, b.ty t = some ti → ∃ zv, (zeroValue t).run P w = .ok zv w ∧ (ti.kind.agg = true → ∃ us : List Value, zv = .agg us.toArray ∧ ∀ r, DenL r ti.zero us) ∧ (ti.kind.agg = false → ∀ c, nth ti.zero 0 = some c → ∀ r, Den r c zv) := by
    intro ti hti
    obtain ⟨inf, zv, h1, h2, h3, h4⟩ := (hT.ty t ti hti).z
    exact ⟨zv, by simp [zeroValue, Eng.run_typeInfo h1, h2], h3, h4⟩
  have many : ∀ ti, b.ty t = some ti → ti.kind.agg = true → some (CV.agg ti.zero) = some z → ∃ u, (zeroValue t).run P w = .ok u w ∧ Den r z u := by
    intro ti hti hag hh
    simp at hh; subst hh
    obtain ⟨zv, h1, h2, _⟩ := run ti hti
    obtain ⟨us, rfl, h3⟩ := h2 hag
    exact ⟨_, h1, by simp only [Den]; exact ⟨us, h3 r, rfl⟩⟩
  split at h
  · rename_i hti; exact many _ hti rfl h
  · rename_i hti; exact many _ hti rfl h
  · rename_i k n by_ zs eq hns hna hti
    have hag : k.agg = false := by
      cases k with
      | struct fs => exact (hns fs rfl).elim
      | arr m e => exact (hna m e rfl).elim
      | _ => rfl
    obtain ⟨zv, h1, _, h2⟩ := run _ hti
    exact ⟨zv, h1, h2 hag z h r⟩
  · cases h

theorem value_run {o : Oper} {s : Sem Value} {u : Value} (h : execOp ρ o = (do pure (Next.value (← s)))) (hs : s.run P w = .ok u w) : (execOp ρ o).run P w = .ok (.value u) w := by
  rw [h]; exact Eng.run_value hs

theorem lenC_ok {x : CV} {u : Value} {n : Nat} (h : lenC x = some n) (hd : Den r x u) : (Builtin.lenOf u).run P w = .ok n w := by
  unfold lenC at h
  split at h
  · simp at h; subst h; simp only [Den] at hd; obtain ⟨_, _, _, _, _, rfl⟩ := hd; rfl
  · simp at h; subst h; simp only [Den] at hd; obtain ⟨_, _, _, _, rfl⟩ := hd; rfl
  · simp at h; subst h; simp only [Den] at hd; subst hd; rfl
  · simp at h; subst h; simp only [Den] at hd; subst hd
    simp [Builtin.lenOf, bytesV_size, lenL_eq]
  · cases h

/-- The cells of a slice, or of a string. -/
theorem cells_ok' (hm : MemR P w0 S r M nx w) {size n : Nat} {x : CV} {u : Value} {l : List CV} (h : cellsOfSlice M size n x = some l) (hd : Den r x u) (hn : ∀ m, lenC x = some m → n ≤ m) :
    ∃ us : List Value, (∀ W : World, W.heap = w.heap → (Builtin.firstCells size n u).run P W = .ok us.toArray W) ∧ DenL r l us ∧ (∀ i o m c, x = .slice i o m c → us.length = n * size) ∧ (∀ s, x = .str s → us.length = n) := by
  unfold cellsOfSlice at h
  split at h
  · rename_i i off m c
    simp only [Den] at hd
    obtain ⟨bk, cap, hs, hc, hn', rfl⟩ := hd
    have key : ∀ (row : Row) (e : Nat), (M.get i = some (.cells row e) ∨ M.get i = some (.row row e)) → row.range off (n * size) = some l → ∃ us : List Value, (∀ W : World, W.heap = w.heap → (Builtin.firstCells size n (.slice (some ⟨bk, off, none⟩) m cap)).run P W = .ok us.toArray W) ∧ DenL r l us ∧ us.length = n * size := by
      intro row e hg hl
      obtain ⟨cs, fz, hx, hr, _⟩ := cells_of hm hs hg
      obtain ⟨us, h1, h2, h3, h4⟩ := Row.range_ok hr _ _ _ hl
      refine ⟨us, fun W hW => ?_, h1, h3⟩
      have hx : W.heap[bk]? = some (.cells cs e fz) := by rw [hW]; exact hx
      show (loadCells ⟨bk, off, none⟩ (n * size)).run P W = _
      rw [← h3]
      refine run_loadMany us fun j u hj => ?_
      rw [cell_add hx]
      have hlt : j < us.length := by
        rcases Nat.lt_or_ge j us.length with h | h
        · exact h
        · rw [List.getElem?_eq_none h] at hj; cases hj
      rw [h4 j (by omega)]; exact hj
    split at h
    · rename_i row e hg
      obtain ⟨us, h1, h2, h3⟩ := key row e (.inl hg) h
      exact ⟨us, h1, h2, fun _ _ _ _ _ => h3, fun _ e => by cases e⟩
    · rename_i row e hg
      obtain ⟨us, h1, h2, h3⟩ := key row e (.inr hg) h
      exact ⟨us, h1, h2, fun _ _ _ _ _ => h3, fun _ e => by cases e⟩
    · cases h
  · simp at h; subst h
    simp only [Den] at hd
    obtain ⟨bk, o, cap, hc, rfl⟩ := hd
    have h0 : n = 0 := by have := hn 0 rfl; omega
    subst h0
    refine ⟨[], fun W _ => ?_, by simp [DenL], fun _ _ _ _ e => (by cases e), fun _ e => by cases e⟩
    show (loadCells ⟨bk, o, none⟩ (0 * size)).run P W = _
    rw [Nat.zero_mul]
    exact run_loadCells_list W _ [] (by simp)
  · simp at h; subst h
    simp only [Den] at hd
    subst hd
    exact ⟨[], fun _ _ => rfl, by simp [DenL], fun _ _ _ _ e => (by cases e), fun _ e => by cases e⟩
  · rename_i s
    simp at h; subst h
    simp only [Den] at hd
    subst hd
    have hns : n ≤ s.length := by have := hn (lenL s) rfl; rwa [lenL_eq] at this
    refine ⟨(s.take n).map fun x => .int .u8 ((x % 256 : Nat) : Int), fun W _ => ?_, ?_, fun _ _ _ _ e => (by cases e), fun s' e => by cases e; simp; omega⟩
    · simp only [Builtin.firstCells, Sem.run_pure]
      congr 1
      apply Array.toList_inj.1
      have e : ((fun b : UInt8 => Value.int .u8 (b.toNat : Int)) ∘ UInt8.ofNat) = fun x : Nat => Value.int .u8 ((x : Int) % 256) := by
        funext x; simp [Function.comp]
      simp [bytesV, List.extract_eq_take_drop, e]
    · rw [takeL_eq]
      have : ∀ l : List Nat, DenL r (l.map fun x => .int .u8 (.ofNat (Nat.mod x 256))) (l.map fun x => .int .u8 ((x % 256 : Nat) : Int)) := by
        intro l
        induction l with
        | nil => simp [DenL]
        | cons x l ih => exact DenL.cons (by simp only [Den]; rfl) ih
      exact this _
  · cases h

theorem cells_ok (hm : MemR P w0 S r M nx w) {size n : Nat} {x : CV} {u : Value} {l : List CV} (h : cellsOfSlice M size n x = some l) (hd : Den r x u) (hn : ∀ m, lenC x = some m → n ≤ m) :
    ∃ us : List Value, (Builtin.firstCells size n u).run P w = .ok us.toArray w ∧ DenL r l us ∧ (∀ i o m c, x = .slice i o m c → us.length = n * size) ∧ (∀ s, x = .str s → us.length = n) := by
  obtain ⟨us, h1, h2⟩ := cells_ok' (P := P) hm h hd hn
  exact ⟨us, h1 w rfl, h2⟩

theorem bytesC_ok : ∀ {l : List CV} {s : List Nat} {us : List Value}, bytesC l = some s → DenL r l us → us = s.map fun (x : Nat) => Value.int .u8 (x : Int)
  | [], s, us, h, hd => by simp [bytesC] at h; subst h; simp [DenL] at hd; subst hd; rfl
  | v :: l, s, us, h, hd => by
    unfold bytesC at h
    split at h
    · rename_i h0; cases h0
    · rename_i n l' h0
      cases h0
      split at h
      · rename_i s' hs'
        simp at h; subst h
        simp only [DenL] at hd
        obtain ⟨u, ur, h1, h2, rfl⟩ := hd
        simp only [Den] at h1; subst h1
        rw [bytesC_ok hs' h2]; rfl
      · cases h
    · cases h

theorem push_all : ∀ (ns : List Nat) (s : ByteArray), (ns.map fun (x : Nat) => (x : Int)).foldl (fun (r : ByteArray) n => r.push (UInt8.ofNat n.toNat)) s = s ++ bytesV ns
  | [], s => by
    apply ByteArray.ext
    apply Array.toList_inj.1
    simp [bytesV]
  | n :: ns, s => by
    simp only [List.map_cons, List.foldl_cons]
    rw [push_all ns]
    apply ByteArray.ext
    apply Array.toList_inj.1
    simp [bytesV]

theorem setsL_take : ∀ (vs : List Value) (off : Nat) (l : List Value), off + vs.length ≤ l.length → Eng.setsL off vs l = l.take off ++ vs ++ l.drop (off + vs.length)
  | [], off, l, _ => by simp [Eng.setsL]
  | v :: r, off, l, h => by
    simp only [List.length_cons] at h
    simp only [Eng.setsL]
    rw [setsL_take r (off + 1) (l.set off v) (by simp; omega)]
    have h1 : (l.set off v).take (off + 1) = l.take off ++ [v] := by
      rw [List.take_succ_eq_append_getElem (by simp; omega), List.take_set_of_le (Nat.le_refl _)]
      simp
    have h2 : (l.set off v).drop (off + 1 + r.length) = l.drop (off + (v :: r).length) := by
      rw [List.drop_set_of_lt (by omega)]
      simp only [List.length_cons]
      congr 1
      omega
    rw [h1, h2]
    simp


theorem okC_ok {v : CV} (h : okC v = true) : v ≠ .any ∧ ∀ x, v ≠ .raw x := ⟨fun e => (by subst e; cases h), fun x e => (by subst e; cases h)⟩
theorem fillC_ok {place : Nat → Option (Nat × Nat)} : ∀ {ps : List (Nat × CV)} {cells out : List CV} {qs : List (Nat × Value)} {zs : List Value}, fillC place cells ps = some out → ps.map (·.1) = qs.map (·.1) → DenL r (ps.map (·.2)) (qs.map (·.2)) → DenL r cells zs →
    ∃ us, Eng.fillL place zs qs = some us ∧ DenL r out us
  | [], cells, out, qs, zs, h, h1, _, hz => by
    simp [fillC] at h; subst h
    have : qs = [] := by simpa using h1.symm
    subst this
    exact ⟨zs, rfl, hz⟩
  | (i, v) :: ps, cells, out, [], zs, h, h1, _, hz => by simp at h1
  | (i, v) :: ps, cells, out, (j, u) :: qs, zs, h, h1, h2, hz => by
    simp only [List.map_cons, List.cons.injEq] at h1
    obtain ⟨rfl, h1⟩ := h1
    simp only [List.map_cons, DenL] at h2
    obtain ⟨u', ur, h3, h4, h5⟩ := h2
    simp only [List.cons.injEq] at h5
    obtain ⟨rfl, rfl⟩ := h5
    simp only [fillC] at h
    split at h
    · cases h
    · rename_i off size hpl
      split at h
      · cases h
      · cases h
      · cases h
      · rename_i hok hb1 hb2
        have hpv := okC_ok hok
        obtain ⟨us, h6, h7⟩ := cellsC_ok h3 hpv.1 hpv.2
        have hb1 := natbeq_t hb1
        have hb2 := ble_t hb2
        rw [lenL_eq] at hb1
        have hl : us.length = size := by rw [h7.len]; exact hb1
        have hlz : zs.length = cells.length := hz.len
        have hle : off + us.length ≤ zs.length := by
          rw [hl, hlz, ← hb1]
          have := hb2
          rw [lenL_eq, lenL_eq] at this
          exact this
        have hset : Eng.setsL off us zs = zs.take off ++ us ++ zs.drop (off + us.length) := setsL_take us off zs hle
        have hden : DenL r (setsL off (cellsC v) cells) (Eng.setsL off us zs) := by
          rw [hset]
          unfold setsL
          rw [takeL_eq, dropL_eq]
          have e : Nat.add off (lenL (cellsC v)) = off + us.length := by rw [lenL_eq, h7.len]; rfl
          rw [e]
          exact ((hz.take off).append h7).append (hz.drop _)
        obtain ⟨vs, h8, h9⟩ := fillC_ok h h1 h4 hden
        refine ⟨vs, ?_, h9⟩
        simp only [Eng.fillL, hpl, h6]
        have e1 : Nat.beq us.length size = true := by rw [hl]; exact Nat.beq_refl size
        have e2 : Nat.ble (off + us.length) zs.length = true := Nat.ble_eq_true_of_le hle
        rw [e1, e2]
        exact h8

theorem nth_map {α β : Type} (f : α → β) : ∀ (l : List α) (i : Nat), Eng.nth (l.map f) i = (nth l i).map f
  | [], i => by simp [Eng.nth, nth]
  | x :: l, 0 => by simp [Eng.nth, nth]
  | x :: l, i + 1 => by simp [Eng.nth, nth, nth_map f l i]
theorem nth_eq {α : Type} : ∀ (l : List α) (n : Nat), nth l n = l[n]?
  | [], n => by simp [nth]
  | x :: r, 0 => by simp [nth]
  | x :: r, n + 1 => by simp [nth, nth_eq r n]
end q
end Go.Proofs.YtaodejbcmaeaaaaGreat.CE
