/- The concrete evaluator: operations that yield a new block. No statement of the seat is proved here. -/
import Derived.Test.YtaodejbcmaeaaaaGreatCe8
import Derived.Laws.MakeOwn
import Derived.Laws.IdiomStrings
set_option linter.unusedVariables false
set_option linter.unusedSimpArgs false
namespace Go.Proofs.YtaodejbcmaeaaaaGreat.CE
open Go Go.RowKit
open Go.Proofs.YtaodejbcmaeaaaaGreat.Eng (Fr Pl pl TyI TyK Tab TabOk kix)

/-! ## rows -/
theorem listT_get : ∀ (l : List CV) (i : Nat) (t : T CV) (j : Nat), (listT l i t).get j = if i ≤ j ∧ j < i + l.length then nth l (j - i) else t.get j
  | [], i, t, j => by simp [listT]; intro h1 h2; omega
  | v :: l, i, t, j => by
    simp only [listT]
    rw [listT_get l (Nat.succ i) _ j, T.get_set]
    by_cases h1 : i = j
    · subst h1
      rw [if_neg (by omega), if_pos rfl, if_pos (by simp), Nat.sub_self]
      rfl
    · rw [if_neg h1]
      by_cases h2 : i + 1 ≤ j ∧ j < i + 1 + l.length
      · rw [if_pos h2, if_pos (by simp; omega)]
        have : j - i = (j - Nat.succ i) + 1 := by omega
        rw [this]; rfl
      · rw [if_neg h2, if_neg (by simp; omega)]
theorem Row.get_some {row : Row} {j : Nat} {v : CV} (h : row.get j = some v) : j < row.n := by
  unfold Row.get at h
  split at h
  · cases h
  · rename_i hb; exact blt_t hb
theorem zRow_get {n : Nat} {z : List CV} {j : Nat} {v : CV} (h : (zRow n z).get j = some v) : j < n ∧ nth z (j % z.length) = some v := by
  have hj := Row.get_some h
  refine ⟨hj, ?_⟩
  unfold Row.get at h
  split at h
  · cases h
  · simp only [zRow, T.get_lf] at h
    rw [listT_get] at h
    split at h
    · simp only [lenL_eq, Nat.sub_zero] at h; exact h
    · rw [T.get_lf] at h; cases h
theorem mkRow_get {l : List CV} {j : Nat} {v : CV} (h : (mkRow l).get j = some v) : nth l j = some v := by
  have hj : j < l.length := by have := Row.get_some h; simpa [mkRow, lenL_eq] using this
  unfold Row.get at h
  split at h
  · cases h
  · simp only [mkRow] at h
    rw [listT_get, if_pos (by simp; exact hj)] at h
    have : nth l j = some (l[j]) := by rw [nth_eq]; exact List.getElem?_eq_getElem hj
    simp only [Nat.sub_zero] at h
    rw [this] at h ⊢
    exact h
theorem Row.set_get (r : Row) (i : Nat) (v : CV) (j : Nat) : (r.set i v).get j = if i = j ∧ j < r.n then some v else r.get j := by
  unfold Row.get Row.set
  simp only
  cases hb : Nat.blt j r.n with
  | false => have := blt_f hb; rw [if_neg (by omega)]
  | true =>
    have := blt_t hb
    rw [T.get_set]
    by_cases h : i = j
    · rw [if_pos h, if_pos ⟨h, this⟩]
    · rw [if_neg h, if_neg (fun hh => h hh.1)]
theorem Row.puts_n : ∀ (l : List CV) (r : Row) (off : Nat), (r.puts off l).n = r.n
  | [], r, off => rfl
  | v :: l, r, off => by simp only [Row.puts]; rw [Row.puts_n l]; rfl
theorem Row.puts_get : ∀ (l : List CV) (r : Row) (off j : Nat), (r.puts off l).get j = if off ≤ j ∧ j < off + l.length ∧ j < r.n then nth l (j - off) else r.get j
  | [], r, off, j => by simp [Row.puts]; intro h1 h2; omega
  | v :: l, r, off, j => by
    simp only [Row.puts]
    rw [Row.puts_get l _ (off + 1) j, Row.set_get]
    have hn : (r.set off v).n = r.n := rfl
    rw [hn]
    by_cases h1 : off = j
    · subst h1
      rw [if_neg (by omega)]
      by_cases h2 : off < r.n
      · rw [if_pos ⟨rfl, h2⟩, if_pos (by simp; exact h2), Nat.sub_self]; rfl
      · rw [if_neg (fun hh => h2 hh.2), if_neg (fun hh => h2 hh.2.2)]
    · rw [if_neg (show ¬ (off = j ∧ j < r.n) from fun hh => h1 hh.1)]
      by_cases h2 : off + 1 ≤ j ∧ j < off + 1 + l.length ∧ j < r.n
      · rw [if_pos h2, if_pos (by simp; omega)]
        have : j - off = (j - (off + 1)) + 1 := by omega
        rw [this]; rfl
      · rw [if_neg h2, if_neg (by simp; omega)]

section n
variable {P : Program} {b : Tb} {w0 w : World} {S : Nat → Prop} {r : Rl} {M : T AObj} {nx : Nat} {E : T CV} {ρ : Operand → Value}

/-- A block more is there. -/
def Rl.add (r : Rl) (i bk cap : Nat) : Rl := ⟨fun j => if j = i then some bk else r.σ j, fun j => if j = i then cap else r.τ j, r.γ⟩
theorem Rl.le_add {r : Rl} {i bk cap : Nat} (h : r.σ i = none) : r.le (r.add i bk cap) := by
  intro j x hx
  have hne : j ≠ i := fun e => by subst e; rw [h] at hx; cases hx
  simp [Rl.add, hne, hx]

theorem RowR.mk {row : Row} {us : List Value} {l : List CV} (h : DenL r l us) (hr : ∀ j v, row.get j = some v → nth l j = some v) : RowR r row us.toArray := by
  intro j v hv
  obtain ⟨u, h1, h2⟩ := h.nth (hr j v hv)
  exact ⟨u, by simpa using h1, h2⟩

/-- The pattern of a row. -/
theorem zRow_ok {n : Nat} {z : List CV} {zs : Array Value} (h : DenL r z zs.toList) (hz : zs.size = z.length) (cs : Array Value) (hc : ∀ j, j < n → cs[j]? = zs[j % zs.size]?) : RowR r (zRow n z) cs := by
  intro j v hv
  obtain ⟨h1, h2⟩ := zRow_get hv
  obtain ⟨u, h3, h4⟩ := h.nth h2
  exact ⟨u, by rw [hc j h1, hz]; simpa using h3, h4⟩

/-- The memory, with a block that was not there as yet. -/
theorem MemR.real' {i cap : Nat} {x : Obj} {w' : World} (hm : MemR P w0 S r M nx w) (hi : i < nx) (hs : r.σ i = none) (hx : ∀ o, M.get i = some o → ObjOk P (r.add i w.heap.size cap) i o x)
    (hh : w'.heap = w.heap.push x) (hos : w'.os = w.os) (ht : w'.tape = w.tape) (ho : w'.output = w.output) : MemR P w0 S (r.add i w.heap.size cap) M nx w' := by
  have hle := Rl.le_add (bk := w.heap.size) (cap := cap) hs
  have hsz : w'.heap.size = w.heap.size + 1 := by rw [hh]; simp
  have hold : ∀ k, k < w.heap.size → w'.heap[k]? = w.heap[k]? := by intro k hk; rw [hh]; rw [Array.getElem?_push]; rw [if_neg (by omega)]
  have hnew : w'.heap[w.heap.size]? = some x := by rw [hh]; simp
  have hlt : ∀ j bk o, r.σ j = some bk → M.get j = some o → bk < w.heap.size := by
    intro j bk o h1 h2
    obtain ⟨x, h3, _⟩ := hm.ok j bk o h1 h2
    exact (Array.getElem?_eq_some_iff.1 h3).1
  have hσ : ∀ j bk, (r.add i w.heap.size cap).σ j = some bk → (j = i ∧ bk = w.heap.size) ∨ (j ≠ i ∧ r.σ j = some bk) := by
    intro j bk h
    simp only [Rl.add] at h
    split at h
    · rename_i he; left; exact ⟨he, by cases h; rfl⟩
    · rename_i he; right; exact ⟨he, h⟩
  refine ⟨⟨hos.trans hm.fr.os, ht.trans hm.fr.tape, ho.trans hm.fr.output, by have := hm.fr.size; omega, fun k hk hns => (hold k (by have := hm.fr.size; omega)).trans (hm.fr.block k hk hns)⟩, ?_, ?_, ?_, ?_⟩
  · intro j bk o' h1 h2
    rcases hσ j bk h1 with ⟨rfl, rfl⟩ | ⟨hne, h1'⟩
    · exact ⟨x, hnew, hx _ h2⟩
    · obtain ⟨y, h3, h4⟩ := hm.ok j bk o' h1' h2
      exact ⟨y, (hold bk (hlt j bk o' h1' h2)).trans h3, h4.mono hle h1'⟩
  · intro j k bk h1 h2 h3 h4
    rcases hσ j bk h1 with ⟨rfl, rfl⟩ | ⟨hne, h1'⟩ <;> rcases hσ k _ h2 with ⟨rfl, e⟩ | ⟨hne2, h2'⟩
    · rfl
    · obtain ⟨o', ho'⟩ := Option.isSome_iff_exists.1 h4
      exact absurd (hlt k _ o' h2' ho') (Nat.lt_irrefl _)
    · subst e
      obtain ⟨o', ho'⟩ := Option.isSome_iff_exists.1 h3
      exact absurd (hlt j _ o' h1' ho') (Nat.lt_irrefl _)
    · exact hm.inj j k bk h1' h2' h3 h4
  · intro j bk o' h1 h2 h3
    rcases hσ j bk h1 with ⟨rfl, rfl⟩ | ⟨hne, h1'⟩
    · exact .inl hm.fr.size
    · exact hm.own j bk o' h1' h2 h3
  · intro j hj
    have hne : j ≠ i := by omega
    simp only [Rl.add, hne, if_false]
    exact hm.dom j hj


theorem MemR.real {i cap : Nat} {o : AObj} {x : Obj} {w' : World} (hm : MemR P w0 S r M nx w) (hi : i < nx) (hs : r.σ i = none) (hg : M.get i = some o) (hx : ObjOk P (r.add i w.heap.size cap) i o x)
    (hh : w'.heap = w.heap.push x) (hos : w'.os = w.os) (ht : w'.tape = w.tape) (ho : w'.output = w.output) : MemR P w0 S (r.add i w.heap.size cap) M nx w' :=
  hm.real' hi hs (fun o' h => by rw [hg] at h; cases h; exact hx) hh hos ht ho

/-- An operation that yields a new block: what it does to the model's world. -/
def NRun (P : Program) (w : World) (r : Rl) (ρ : Operand → Value) (o : Oper) (i : Nat) (c : CV) (ob : AObj) : Prop :=
  ∃ u w' cap x, (execOp ρ o).run P w = .ok (.value u) w' ∧ Den (r.add i w.heap.size cap) c u ∧ ObjOk P (r.add i w.heap.size cap) i ob x ∧ w'.heap = w.heap.push x ∧ w'.os = w.os ∧ w'.tape = w.tape ∧ w'.output = w.output

theorem NRun.of_run {o : Oper} {i : Nat} {c : CV} {ob : AObj} {s : Sem Value} (h : execOp ρ o = (do pure (Next.value (← s)))) {u : Value} {w' : World} {cap : Nat} {x : Obj} (hs : s.run P w = .ok u w') (hd : Den (r.add i w.heap.size cap) c u) (hx : ObjOk P (r.add i w.heap.size cap) i ob x)
    (h1 : w'.heap = w.heap.push x) (h2 : w'.os = w.os) (h3 : w'.tape = w.tape) (h4 : w'.output = w.output) : NRun P w r ρ o i c ob := ⟨u, w', cap, x, by rw [h]; simp [hs], hd, hx, h1, h2, h3, h4⟩

theorem add_self {i bk cap : Nat} : (r.add i bk cap).σ i = some bk := by simp [Rl.add]
theorem add_cap {i bk cap : Nat} : (r.add i bk cap).τ i = cap := by simp [Rl.add]

theorem puts_ok {size : Nat} (hsz : 0 < size) : ∀ {ps : List (Nat × CV)} {qs : List (Nat × Value)} {row out : Row} {cs : List Value}, nop.puts size row ps = some out → ps.map (·.1) = qs.map (·.1) → DenL r (ps.map (·.2)) (qs.map (·.2)) → RowR r row cs.toArray → cs.length = row.n →
    ∃ us, Eng.fillL (fun i => some (i * size, size)) cs qs = some us ∧ RowR r out us.toArray ∧ us.length = out.n ∧ out.n = row.n
  | [], qs, row, out, cs, h, h1, _, hr, hl => by
    simp [nop.puts] at h; subst h
    have : qs = [] := by simpa using h1.symm
    subst this
    exact ⟨cs, rfl, hr, hl, rfl⟩
  | (i, v) :: ps, [], row, out, cs, h, h1, _, _, _ => by simp at h1
  | (i, v) :: ps, (j, u) :: qs, row, out, cs, h, h1, h2, hr, hl => by
    simp only [List.map_cons, List.cons.injEq] at h1
    obtain ⟨rfl, h1⟩ := h1
    simp only [List.map_cons, DenL] at h2
    obtain ⟨u', ur, h3, h4, h5⟩ := h2
    simp only [List.cons.injEq] at h5
    obtain ⟨rfl, rfl⟩ := h5
    simp only [nop.puts] at h
    split at h
    · rename_i hok hb1 hb2
      have hpv := okC_ok hok
      obtain ⟨us, h6, h7⟩ := cellsC_ok h3 hpv.1 hpv.2
      have hb1 := natbeq_t hb1
      have hb2 := ble_t hb2
      rw [lenL_eq] at hb1
      have hlu : us.length = size := by rw [h7.len]; exact hb1
      have hle : i * size + us.length ≤ cs.length := by rw [hlu, hl]; exact hb2
      have hset : Eng.setsL (i * size) us cs = cs.take (i * size) ++ us ++ cs.drop (i * size + us.length) := setsL_take us (i * size) cs hle
      have hr2 : RowR r (row.puts (i * size) (cellsC v)) (Eng.setsL (i * size) us cs).toArray := by
        intro k q hq
        rw [Row.puts_get] at hq
        have hget : (Eng.setsL (i * size) us cs).toArray[k]? = if i * size ≤ k ∧ k < i * size + us.length then us[k - i * size]? else cs[k]? := by
          rw [hset]
          simp only [List.getElem?_toArray]
          by_cases hk1 : k < i * size
          · rw [if_neg (by omega), List.append_assoc, List.getElem?_append_left (by simp; omega), List.getElem?_take, if_pos hk1]
          · by_cases hk2 : k < i * size + us.length
            · rw [if_pos ⟨by omega, hk2⟩, List.getElem?_append_left (by simp; omega), List.getElem?_append_right (by simp; omega)]
              congr 1; simp; omega
            · rw [if_neg (by omega), List.getElem?_append_right (by simp; omega), List.getElem?_drop]
              congr 1; simp; omega
        split at hq
        · rename_i hc
          obtain ⟨z, h8, h9⟩ := h7.nth hq
          refine ⟨z, ?_, h9⟩
          rw [hget, if_pos ⟨hc.1, by rw [h7.len]; exact hc.2.1⟩]
          exact h8
        · rename_i hc
          obtain ⟨z, h8, h9⟩ := hr k q hq
          refine ⟨z, ?_, h9⟩
          have hkn := Row.get_some hq
          rw [hget, if_neg (fun hh => hc ⟨hh.1, by rw [← h7.len]; exact hh.2, hkn⟩)]
          simpa using h8
      have hl2 : (Eng.setsL (i * size) us cs).length = (row.puts (i * size) (cellsC v)).n := by
        rw [hset, Row.puts_n, ← hl]
        simp; omega
      obtain ⟨vs, h8, h9, h10, h11⟩ := puts_ok hsz h h1 h4 hr2 hl2
      refine ⟨vs, ?_, h9, h10, by rw [h11, Row.puts_n]⟩
      simp only [Eng.fillL, h6]
      have e1 : Nat.beq us.length size = true := by rw [hlu]; exact Nat.beq_refl size
      have e2 : Nat.ble (i * size + us.length) cs.length = true := Nat.ble_eq_true_of_le hle
      rw [e1, e2]
      exact h8
    · cases h

theorem zeroOf {t : Nat} {i : TyI} (h : i.ok P t) : ∃ inf z, P.info? t = some inf ∧ inf.zero = some z ∧ inf.size = i.cells ∧ inf.bytes = i.bytes ∧ z.cells = i.zero.toArray := by
  obtain ⟨inf, h1, h2, h3, h4⟩ := h.info
  cases hz : inf.zero with
  | none => rw [hz] at h4; cases h4
  | some z => rw [hz] at h4; simp at h4; exact ⟨inf, z, h1, hz, h2, h3, h4⟩

theorem nop_ok (hT : TbOk P b) {o : Oper} {i : Nat} {c : CV} {ob : AObj} (hs : r.σ i = none) (hρ : OpsR r E ρ o.op.operands.toList) (h : nop b E o.op i = some (c, ob)) : NRun P w r ρ o i c ob := by
  obtain ⟨dst, op, ty, pos, after, guard⟩ := o
  dsimp only at hρ h
  have hle : ∀ bk cap, r.le (r.add i bk cap) := fun bk cap => Rl.le_add hs
  cases op with
  | alloc t =>
    simp only [nop] at h
    split at h
    · rename_i ti hti
      simp only [Option.some.injEq, Prod.mk.injEq] at h
      obtain ⟨rfl, rfl⟩ := h
      have hty := hT.ty t ti hti
      obtain ⟨z, zs, h1, h2, h3⟩ := hty.zero (w := w) r
      refine NRun.of_run (s := Instr.alloc t true (.tuple #[])) (u := .pointer (some ⟨w.heap.size, 0, none⟩)) (w' := w.alloc (.cells zs.toArray t)) (cap := 1) (x := .cells zs.toArray t (0, 0)) (by simp only [execOp]) ?_ ?_ ?_ rfl rfl rfl rfl
      · simp only [Instr.alloc, Sem.run_bind, h1, Result.andThen_ok, newVar, newRow, h2]
        rfl
      · simp only [Den]; exact ⟨_, add_self, rfl⟩
      · have hl : zs.length = ti.cells := by rw [h3.len]; exact hty.len
        refine ⟨zs.toArray, rfl, ?_, ?_, ?_⟩
        · simp [zRow, hl]
        · rw [add_cap, hty.cellsOf]; simp [hl]
        · refine (zRow_ok (r := r) (z := ti.zero) (zs := zs.toArray) (by simpa using h3) (by simp [h3.len]) zs.toArray (fun j hj => ?_)).mono (hle _ _)
          have : j % zs.toArray.size = j := Nat.mod_eq_of_lt (by simp; omega)
          rw [this]
    · cases h
  | box t x =>
    simp only [nop] at h
    split at h
    · rename_i ti v hti hv
      split at h
      · rename_i hok hbe
        simp only [Option.some.injEq, Prod.mk.injEq] at h
        obtain ⟨rfl, rfl⟩ := h
        have hty := hT.ty t ti hti
        have hd := hρ x (by simp [Op.operands]) _ hv
        obtain ⟨us, h1, h2⟩ := cellsC_ok hd (okC_ok hok).1 (okC_ok hok).2
        have hl : us.length = ti.cells := by rw [h2.len, ← lenL_eq]; exact natbeq_t hbe
        refine NRun.of_run (s := Instr.box t (ρ x)) (u := .pointer (some ⟨w.heap.size, 0, none⟩)) (w' := w.alloc (.cells us.toArray t)) (cap := 1) (x := .cells us.toArray t (0, 0)) (by simp only [execOp]) ?_ ?_ ?_ rfl rfl rfl rfl
        · have : (ρ x).cells = us.toArray := by
            rw [← h1]; apply Array.toList_inj.1; rw [Eng.cellsL_eq]
          simp only [Instr.box, newVar, newRow, this]
          rfl
        · simp only [Den]; exact ⟨_, add_self, rfl⟩
        · refine ⟨us.toArray, rfl, ?_, ?_, ?_⟩
          · simp [mkRow, lenL_eq, h2.len]
          · rw [add_cap, hty.cellsOf]; simp [hl]
          · exact (RowR.mk h2 (fun j v hv => mkRow_get hv)).mono (hle _ _)
      · cases h
    · cases h
  | makeMap t rs =>
    cases rs with
    | none =>
      simp only [nop, Option.some.injEq, Prod.mk.injEq] at h
      obtain ⟨rfl, rfl⟩ := h
      refine NRun.of_run (s := Instr.makeMap t none) (u := .map (some w.heap.size)) (w' := w.alloc (.map #[] 0)) (cap := 0) (x := .map #[] 0) (by simp only [execOp]; rfl) ?_ ?_ ?_ rfl rfl rfl rfl
      · rfl
      · simp only [Den]; exact ⟨_, add_self, rfl⟩
      · exact ⟨#[], rfl, .nil⟩
    | some x => simp only [nop, reduceCtorEq] at h
  | buildSlice t n ps =>
    simp only [nop] at h
    split at h
    · rename_i e _ _ _ _ l ht hl
      split at h
      · rename_i ti hti
        split at h
        · rename_i row hp0 hb hpu
          simp only [Option.some.injEq, Prod.mk.injEq] at h
          obtain ⟨rfl, rfl⟩ := h
          have hty := hT.ty e ti hti
          obtain ⟨i1, hi1, hr1, _⟩ := (hT.ty t _ ht).ex
          obtain ⟨ie, hie, _, hce, _, hz⟩ := hty.ex
          obtain ⟨g1, g2⟩ := evps_ok (ρ := ρ) (fun y hy => hρ y (by simpa [Op.operands] using hy)) hl
          have hzl : ie.zero.length = ti.cells := by rw [(hz r).len]; exact hty.len
          have hpos := blt_t hp0
          have hrow : RowR r (zRow (n * ti.cells) ti.zero) ((List.range (n * ie.cells)).map fun i => ie.zero.getD (i % ie.cells) undef).toArray := by
            refine zRow_ok (r := r) (z := ti.zero) (zs := ie.zero.toArray) (by simpa using hz r) (by simp [(hz r).len]) _ (fun j hj => ?_)
            rw [← hce]
            simp only [List.getElem?_toArray, List.getElem?_map, List.size_toArray, hzl]
            rw [List.getElem?_range hj]
            have hlt : j % ti.cells < ie.zero.length := by rw [hzl]; exact Nat.mod_lt _ hpos
            simp only [Option.map_some, List.getD_eq_getElem?_getD, List.getElem?_eq_getElem hlt, Option.getD_some]
          obtain ⟨us, g3, g4, g5, g6⟩ := puts_ok hpos hpu g1 g2 hrow (by simp [zRow, hce])
          have hpl : (fun i => some (i * ti.cells, ti.cells)) = fun i => some (i * ie.cells, ie.cells) := by rw [hce]
          rw [hpl] at g3
          have hrun := Eng.run_buildSlice' (P := P) hi1 hr1 hie (n := n) g3 (by rw [hzl, hce]) (by rw [← hce]; exact ble_t hb) w
          have earr : (ps.map fun (i, x) => (i, ρ x)) = (ps.toList.map (fun x => (x.1, ρ x.2))).toArray := by apply Array.toList_inj.1; simp
          refine NRun.of_run (s := Instr.buildSlice t n (ps.map fun (i, x) => (i, ρ x))) (w' := w.alloc (.cells us.toArray e)) (cap := n) (x := .cells us.toArray e (0, 0)) (by simp only [execOp]) (by rw [earr]; exact hrun) ?_ ?_ rfl rfl rfl rfl
          · simp only [Den]; exact ⟨_, n, add_self, rfl, Nat.le_refl _, rfl⟩
          · refine ⟨us.toArray, rfl, by simpa using g5, ?_, g4.mono (hle _ _)⟩
            rw [add_cap, hty.cellsOf]
            simp only [List.size_toArray, g5, g6]; rfl
        · cases h
      · cases h
    · cases h
  | makeSlice t l c2 =>
    simp only [nop] at h
    split at h
    · rename_i e _ _ _ _ kl ln kc cn ht hl hc
      split at h
      · rename_i ti hti
        split at h
        · rename_i hb1 hb2 hb3
          simp only [Option.some.injEq, Prod.mk.injEq] at h
          obtain ⟨rfl, rfl⟩ := h
          have hb1 := ble_t hb1
          have hb2 := ble_t hb2
          have hb3 := blt_t hb3
          have hty := hT.ty e ti hti
          have hts := (hT.ty t _ ht).slice rfl
          have h1 := hρ l (by simp [Op.operands]) _ hl
          have h2 := hρ c2 (by simp [Op.operands]) _ hc
          simp only [Den] at h1 h2
          obtain ⟨i1, hi1, hr1, hci, hbi, hzz⟩ := hty.ex
          have hzl : i1.zero.length = ti.cells := by rw [(hzz r).len]; exact hty.len
          obtain ⟨inf, z, k1, kz, k2, k3, kc2⟩ := zeroOf hi1
          have hby : inf.bytes = ti.bytes := by rw [k3, hbi]
          have hcz : inf.size = ti.cells := by rw [k2, hci]
          have hnl : (inf.bytes : Int) * (Int.ofNat cn) ≤ 281474976710656 := by
            rw [hby]
            have e : (ti.bytes : Int) * Int.ofNat cn = ((ti.bytes * cn : Nat) : Int) := (Int.natCast_mul _ _).symm
            rw [e]
            exact Int.ofNat_le.2 hb2
          have hrun := run_make (P := P) w t e inf z hts k1 kz kl kc (Int.ofNat ln) (Int.ofNat cn) (Int.natCast_nonneg ln) (Int.ofNat_le.2 hb1) hnl (by simp only [Int.ofNat_eq_natCast]; omega)
          have en1 : (Int.ofNat ln).toNat = ln := rfl
          have en2 : (Int.ofNat cn).toNat = cn := rfl
          rw [en1, en2, hcz] at hrun
          have hget : ∀ j, j < cn * ti.cells → (madeCells z.cells (cn * ti.cells))[j]? = i1.zero.toArray[j % i1.zero.toArray.size]? := by
            intro j hj
            have h0 : cn * ti.cells ≠ 0 := by omega
            have hpos : 0 < ti.cells := Nat.pos_of_ne_zero (fun e => h0 (by rw [e]; rfl))
            have hlt : j % i1.zero.length < i1.zero.length := Nat.mod_lt _ (by rw [hzl]; exact hpos)
            rw [kc2]
            simp [madeCells, hj, hlt]
          have hsz : (madeCells z.cells (cn * ti.cells)).size = cn * ti.cells := by simp [madeCells]
          refine NRun.of_run (s := Instr.makeSlice t (ρ l) (ρ c2)) (u := .slice (some ⟨w.heap.size, 0, none⟩) ln cn) (w' := w.alloc (.cells (madeCells z.cells (cn * ti.cells)) e)) (cap := cn) (x := .cells (madeCells z.cells (cn * ti.cells)) e (0, 0)) (by simp only [execOp]) ?_ ?_ ?_ rfl rfl rfl rfl
          · rw [h1, h2]; exact hrun
          · simp only [Den]; exact ⟨_, cn, add_self, rfl, hb1, rfl⟩
          · refine ⟨_, rfl, by rw [hsz]; rfl, by rw [add_cap, hty.cellsOf, hsz], ?_⟩
            exact (zRow_ok (r := r) (z := ti.zero) (zs := i1.zero.toArray) (by simpa using hzz r) (by simp [(hzz r).len]) _ hget).mono (hle _ _)
        · cases h
      · cases h
    · cases h
  | convert s d x =>
    simp only [nop] at h
    split at h
    · rename_i e _ _ _ _ ss hsr hds hx
      split at h
      · cases h
      · rename_i hu8
        simp only [Option.some.injEq, Prod.mk.injEq] at h
        obtain ⟨rfl, rfl⟩ := h
        have h1 := (hT.ty s _ hsr).str rfl
        have h2 := (hT.ty d _ hds).slice rfl
        have hd := hρ x (by simp [Op.operands]) _ hx
        simp only [Den] at hd
        have he : P.underlying e = some (.int .u8) ∧ P.cellsOf e = 1 := by
          unfold isU8 at hu8
          split at hu8
          · rename_i hte
            exact ⟨(hT.ty e _ hte).int rfl, (hT.ty e _ hte).cellsOf⟩
          · cases hu8
        have hrun := run_bytes_of_string (P := P) w s d e (bytesV ss) h1 h2 he.1
        generalize hcap : grownCap w (bytesV ss).size 0 e = cap at hrun
        have hcl : ss.length ≤ cap := by rw [← hcap]; simp [grownCap, Question.cut, bytesV_size]
        rw [bytesV_size] at hrun
        let arr : Array Value := bytesRow (bytesV ss) cap
        have hasz : arr.size = cap := by simp only [arr, bytesRow]; simp [bytesV, ByteArray.size]; omega
        refine NRun.of_run (s := convert s d (ρ x)) (w' := w.drew.alloc (.cells arr e (arr.size, arr.size + 1))) (cap := cap) (x := .cells arr e (arr.size, arr.size + 1)) (by simp only [execOp]) (by rw [hd]; exact hrun) ?_ ?_ rfl rfl rfl rfl
        · simp only [Den, lenL_eq]; exact ⟨_, cap, add_self, ⟨⟨_, add_self⟩, by rw [add_cap]; rfl⟩, hcl, rfl⟩
        · refine ⟨arr, _, rfl, by simp [mkRow, lenL_eq, hasz, hcl], by rw [add_cap, he.2, hasz]; simp, .inr rfl, ?_⟩
          intro j v hv
          have hv := mkRow_get hv
          rw [nth_eq, List.getElem?_map] at hv
          cases hsj : ss[j]? with
          | none => rw [hsj] at hv; cases hv
          | some q =>
            rw [hsj] at hv
            simp at hv; subst hv
            refine ⟨.int .u8 ((q % 256 : Nat) : Int), ?_, by simp only [Den]; rfl⟩
            have hlt : j < ss.length := by
              rcases Nat.lt_or_ge j ss.length with h | h
              · exact h
              · rw [List.getElem?_eq_none h] at hsj; cases hsj
            simp only [arr, bytesRow]
            rw [Array.getElem?_append_left (by simp [bytesV]; exact hlt)]
            simp [bytesV, hsj]
    · cases h
  | _ => simp only [nop, reduceCtorEq] at h
end n
end Go.Proofs.YtaodejbcmaeaaaaGreat.CE
