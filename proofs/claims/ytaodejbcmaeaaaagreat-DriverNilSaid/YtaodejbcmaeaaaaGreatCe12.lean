/- The concrete evaluator: operations that turn the memory, all of them. No statement of the seat is proved here. -/
import Derived.Test.YtaodejbcmaeaaaaGreatCe11
import Derived.Laws.IdiomRangeMap
set_option linter.unusedVariables false
set_option linter.unusedSimpArgs false
namespace Go.Proofs.YtaodejbcmaeaaaaGreat.CE
open Go Go.RowKit
open Go.Proofs.YtaodejbcmaeaaaaGreat.Eng (Fr Pl pl TyI TyK Tab TabOk kix)

section l
variable {P : Program} {b : Tb} {w0 w : World} {S : Nat → Prop} {r : Rl} {M : T AObj} {nx ro : Nat} {E : T CV} {ρ : Operand → Value}

/-! ## range, next -/
theorem bornLt_ok {n : Nat} : ∀ {es : List (CV × CV × Nat)} {fs : List MapEntry}, bornLt n es = true → EntsR r es fs → ∀ x ∈ fs, x.born < n
  | _, _, _, .nil => by simp
  | _, _, h, .cons hk hv hb hes => by
    simp only [bornLt] at h
    split at h
    · rename_i hlt
      intro x hx
      rcases List.mem_cons.1 hx with rfl | hx
      · rw [hb]; exact blt_t hlt
      · exact bornLt_ok h hes x hx
    · cases h
theorem anyN_eq (n : Nat) : ∀ l : List Nat, anyN n l = l.contains n
  | [] => rfl
  | m :: l => by
    simp only [anyN, List.contains_cons]
    cases h : Nat.beq m n with
    | true => simp [natbeq_t h]
    | false => have := natbeq_f h; simp [anyN_eq n l, Ne.symm this]
theorem leftC_ok {seen : List Nat} : ∀ {es : List (CV × CV × Nat)} {fs : List MapEntry}, EntsR r es fs → EntsR r (leftC seen es) (fs.filter fun e => !seen.reverse.toArray.contains e.born)
  | _, _, .nil => .nil
  | _, _, .cons (n := n) (e := e) hk hv hb hes => by
    have ih := leftC_ok (seen := seen) hes
    simp only [leftC, anyN_eq]
    have he : seen.reverse.toArray.contains e.born = seen.contains n := by rw [hb]; simp
    rw [List.filter_cons, he]
    cases hc : seen.contains n with
    | true => simpa using ih
    | false => simpa using EntsR.cons hk hv hb ih

/-- 'next', an iterator wherever it lies; every stamp below 'since'. -/
theorem next_gen (ty : TypeId) {bi bm since last clock : Nat} {seen : Array Nat} {es : Array MapEntry} (hi : w.heap[bi]? = some (.mapIter (some bm) since seen last)) (hb : w.heap[bm]? = some (.map es clock)) (hold : ∀ x ∈ es.toList, x.born < since) (hsc : since ≤ last) :
    ((leftOf es seen).size = 0 ∧ (Instr.next (.pointer (some ⟨bi, 0, none⟩)) false ty).run P w = .ok (.tuple #[.bool false]) w) ∨
    ∃ e ∈ (leftOf es seen).toList, ∃ w1 : World, (w1 = w ∨ w1 = w.drew) ∧ (Instr.next (.pointer (some ⟨bi, 0, none⟩)) false ty).run P w = .ok (.tuple #[.bool true, e.key, e.val]) { w1 with heap := w1.heap.setIfInBounds bi (.mapIter (some bm) since (seen.push e.born) clock) } := by
  simp only [Instr.next, getObj, Sem.run_bind, Sem.run, hi, hb, Result.andThen, next_test_false seen es since last hold hsc, Bool.false_eq_true, if_false]
  unfold leftOf
  have hmem : ∀ x ∈ (Array.filter (fun e => !seen.contains e.born) es).toList, x.born < since := fun x hx => hold x (by simp at hx ⊢; exact hx.1)
  generalize Array.filter (fun e => !seen.contains e.born) es = L at hmem ⊢
  have e1 : L.filter (fun x => decide (x.born < since)) = L := Array.filter_eq_self.2 (fun x hx => by simpa using hmem x (by simpa using hx))
  have e2 : L.filter (fun x => decide (x.born ≥ since)) = #[] := by
    rw [Array.filter_eq_empty_iff]
    intro x hx
    have := hmem x (by simpa using hx)
    simp
    omega
  simp only [e1, e2, Array.append_empty]
  by_cases h0 : L.size = 0
  · left
    have : L = #[] := Array.eq_empty_of_size_eq_zero h0
    subst this
    refine ⟨rfl, ?_⟩
    simp [choose, Sem.run, Question.forced]
  · right
    have hne : L.isEmpty = false := by simp [Array.isEmpty, h0]
    simp only [hne, Bool.false_eq_true, if_false, Array.empty_append, Array.size_map]
    have hch : ∃ (j : Nat) (w1 : World), j < L.size ∧ (w1 = w ∨ w1 = w.drew) ∧ (choose (Question.mapNext L.size)).run P w = .ok j w1 := by
      by_cases hf : L.size ≤ 1
      · exact ⟨0, w, by omega, .inl rfl, by simp [choose, Sem.run, Question.forced, hf]⟩
      · exact ⟨_, w.drew, Nat.mod_lt _ (by omega), .inr rfl, by
          simp only [choose, Sem.run, Question.forced, decide_eq_true_eq, hf, if_false, Question.cut]
          rfl⟩
    obtain ⟨j, w1, hj, hal, hrun⟩ := hch
    refine ⟨L[j], by simp, w1, hal, ?_⟩
    have hset : ∀ o' : Obj, (setObj bi o').run P w1 = .ok () { w1 with heap := w1.heap.setIfInBounds bi o' } := fun o' => by
      have : w1.heap[bi]? = some (.mapIter (some bm) since seen last) := by rcases hal with rfl | rfl <;> exact hi
      simp only [setObj, Sem.run, this]
    simp only [hrun, Array.getElem?_map, Array.getElem?_eq_getElem hj, Option.map_some, Sem.run_bind, hset, Result.andThen]
    rfl

theorem leftOf_list (fs : Array MapEntry) (seen : Array Nat) : (leftOf fs seen).toList = fs.toList.filter fun e => !seen.contains e.born := by simp [leftOf]

/-- One entry is left, or none. -/
theorem l_next (hm : MemR P w0 S r M nx w) {ty : TypeId} {x : Operand} {isStr : Bool} {c : CV} {M' : T AObj} {nx' : Nat} (hρ : OpsR r E ρ [x]) (h : lNext b ro E M nx x isStr = .ok c M' nx') :
    ARun P w0 w S ro r M nx (Instr.next (ρ x) isStr ty) c M' nx' := by
  unfold lNext at h
  split at h
  · rename_i i hx
    have hx := hρ x (by simp) _ hx
    simp only [Den] at hx
    obtain ⟨bi, hs, hx⟩ := hx
    rw [hx]
    split at h
    · rename_i hg
      injection h with e1 e2 e3
      subst e1 e2 e3
      obtain ⟨xo, hxo, m', rfl, rfl⟩ := hm.ok i bi _ hs hg
      refine ⟨.tuple #[.bool false], w, r, ?_, by simp only [Den]; exact ⟨_, DenL.cons (by simp only [Den]) (by simp [DenL]), rfl⟩, StepR.refl hm⟩
      simp only [Instr.next, getObj, Sem.run_bind, Sem.run, hxo, Result.andThen]
      rfl
    · rename_i m since seen last hg
      split at h
      · rename_i es clock hgm
        split at h
        · rename_i hbl hle
          have hle := ble_t hle
          obtain ⟨xo, hxo, m', rfl, bm, hsm, rfl⟩ := hm.ok i bi _ hs hg
          obtain ⟨xm, hxm, fs, rfl, hent⟩ := hm.ok m bm _ hsm hgm
          have hold := bornLt_ok hbl hent
          have hleft := leftC_ok (seen := seen) hent
          have hnx := next_gen (P := P) ty hxo hxm hold hle
          rw [← leftOf_list] at hleft
          split at h
          · rename_i hL
            injection h with e1 e2 e3
            subst e1 e2 e3
            rw [hL] at hleft
            rcases hnx with ⟨h0, hrun⟩ | ⟨e, he, _⟩
            · exact ⟨_, w, r, hrun, by simp only [Den]; exact ⟨_, DenL.cons (by simp only [Den]) (by simp [DenL]), rfl⟩, StepR.refl hm⟩
            · generalize (leftOf fs seen.reverse.toArray).toList = L at hleft he
              cases hleft; cases he
          · rename_i k v bb hL
            obtain ⟨hro, e1, e2, e3⟩ := okR_ok h
            subst c M' nx'
            rw [hL] at hleft
            rcases hnx with ⟨h0, hrun⟩ | ⟨e, he, w1, hal, hrun⟩
            · have : (leftOf fs seen.reverse.toArray).toList = [] := by simpa using h0
              rw [this] at hleft; cases hleft
            · generalize (leftOf fs seen.reverse.toArray).toList = L at hleft he
              cases hleft with
              | @cons _ _ _ e2 _ _ hk hv hb hes =>
                cases hes
                have he : e = e2 := List.mem_singleton.1 he
                subst e
                have hm1 : MemR P w0 S r M nx w1 := by
                  rcases hal with rfl | rfl
                  · exact hm
                  · exact hm.drew
                have hxo1 : w1.heap[bi]? = some (.mapIter (some bm) since seen.reverse.toArray last) := by rcases hal with rfl | rfl <;> exact hxo
                refine ⟨_, _, r, hrun, by simp only [Den]; exact ⟨_, DenL.cons (by simp only [Den]) (DenL.cons hk (DenL.cons hv (by simp [DenL]))), rfl⟩, ?_⟩
                have hst := StepR.setObj (x' := .mapIter (some bm) since (seen.reverse.toArray.push e2.born) clock) hm1 hro hs hg hxo1 (o' := .mapIt (some m) since (bb :: seen) clock) ⟨some bm, by simp [hb], bm, hsm, rfl⟩
                exact hst
          · cases h
        · cases h
      · cases h
    · cases h
  · cases h

theorem l_range (hT : TbOk P b) (hm : MemR P w0 S r M nx w) (hro : ro ≤ nx) {t : TypeId} {x : Operand} {c : CV} {M' : T AObj} {nx' : Nat} (hρ : OpsR r E ρ [x]) (h : lRange b ro E M nx t x = .ok c M' nx') :
    ARun P w0 w S ro r M nx (Instr.range t (ρ x)) c M' nx' := by
  unfold lRange at h
  split at h
  · rename_i k e n1 b1 z1 q1 ht hx
    have htt := (hT.ty t _ ht).map rfl
    have hx := hρ x (by simp) _ hx
    simp only [Den] at hx
    injection h with e1 e2 e3
    subst e1 e2 e3
    rw [hx]
    refine ⟨_, _, _, run_range_nilMap (P := P) w t _ _ htt, ?_, StepR.new (cap := 0) (x := .mapIter none 0 #[] 0) hm ⟨none, by simp, rfl⟩ rfl rfl rfl rfl hro⟩
    simp only [Den]; exact ⟨_, add_self, rfl⟩
  · rename_i k e n1 b1 z1 q1 m ht hx
    have htt := (hT.ty t _ ht).map rfl
    have hx := hρ x (by simp) _ hx
    simp only [Den] at hx
    obtain ⟨bm, hsm, hx⟩ := hx
    rw [hx]
    split at h
    · rename_i es clock hgm
      injection h with e1 e2 e3
      subst e1 e2 e3
      obtain ⟨xm, hxm, fs, rfl, hent⟩ := hm.ok m bm _ hsm hgm
      refine ⟨_, _, _, run_range_map (P := P) w t _ _ bm fs clock htt hxm, ?_, StepR.new (cap := 0) (x := .mapIter (some bm) clock #[] clock) hm ⟨some bm, by simp, bm, ?_, rfl⟩ rfl rfl rfl rfl hro⟩
      · simp only [Den]; exact ⟨_, add_self, rfl⟩
      · exact (Rl.le_add (hm.dom nx (Nat.le_refl _)).1 m bm hsm).1
    · cases h
  · cases h

/-! ## all of them -/
theorem LRun.of_sem {o : Oper} {sem : Sem Value} {c : CV} {M' : T AObj} {nx' : Nat} (h : execOp ρ o = (do pure (Next.value (← sem)))) (hs : ARun P w0 w S ro r M nx sem c M' nx') : LRun P w0 S ro r M nx w ρ o c M' nx' := by
  obtain ⟨v, w', r', h1, h2, h3⟩ := hs
  exact ⟨.value v, v, w', r', by rw [h]; simp [h1], .inl rfl, h2, h3⟩

theorem l_store (hT : TbOk P b) (hm : MemR P w0 S r M nx w) {dst : Option Nat} {t ty : TypeId} {pos : String} {af : Array Edge} {gd : Option (Nat × Bool)} {a x : Operand} {c : CV} {M' : T AObj} {nx' : Nat} (hρ : OpsR r E ρ [a, x]) (h : lStore b ro E M nx t a x = .ok c M' nx') :
    LRun P w0 S ro r M nx w ρ ⟨dst, .store t a x, ty, pos, af, gd⟩ c M' nx' := by
  unfold lStore at h
  split at h
  · rename_i p v hp hv
    split at h
    · rename_i M2 hst
      injection h with e1 e2 e3
      subst e1 e2 e3
      unfold storeC at hst
      split at hst
      · rename_i i off ti hti
        split at hst
        · rename_i hlen
          have hlen := natbeq_t hlen
          have hpd := hρ a (by simp) _ hp
          simp only [Den] at hpd
          obtain ⟨bk, hs, hpe⟩ := hpd
          have hvd := hρ x (by simp) _ hv
          have hone : allV (cellsC v) = true := by
            unfold putsAt at hst
            split at hst
            · cases hst
            · rename_i h; exact h
          obtain ⟨us, hus, hd⟩ := cellsC_ok hvd (fun e => by subst e; simp [cellsC, allV, oneV] at hone) (fun z e => by subst e; simp [cellsC, allV, oneV] at hone)
          obtain ⟨w', hrun, hstep⟩ := puts_run hm hs hst hd
          have hty := hT.ty t ti hti
          have hsz : (ρ x).cells.size = ti.cells := by
            rw [Eng.cellsL_arr, hus, List.size_toArray, hd.len, ← hlen, lenL_eq]
          refine ⟨.skip, undef, w', r, ?_, .inr ⟨rfl, rfl⟩, den_undef, hstep⟩
          have e : (ρ x).cells.toList = us := by rw [Eng.cellsL_eq, hus]
          simp [execOp, Instr.storeAt, hpe, Instr.sureAddr, storeVar, hty.size, hsz, e, hrun]
        · cases hst
      · cases hst
    · cases h
  · cases h

theorem lop_ok (hT : TbOk P b) (hm : MemR P w0 S r M nx w) (hro : ro ≤ nx) {o : Oper} {c : CV} {M' : T AObj} {nx' : Nat} (hρ : OpsR r E ρ o.op.operands.toList) (h : lop b ro E M nx o.op = .ok c M' nx') : LRun P w0 S ro r M nx w ρ o c M' nx' := by
  obtain ⟨dst, op, ty, pos, after, guard⟩ := o
  dsimp only at hρ h
  cases op with
  | assign x =>
    simp only [lop, lAssign] at h
    split at h
    · rename_i v hv
      injection h with e1 e2 e3
      subst e1 e2 e3
      exact ⟨.value (ρ x), ρ x, w, r, by simp [execOp], .inl rfl, hρ x (by simp [Op.operands]) _ hv, StepR.refl hm⟩
    · cases h
  | store t a x => exact l_store hT hm (fun y hy => hρ y (by simpa [Op.operands] using hy)) h
  | mapUpdate t m k x =>
    simp only [lop, lMapUpdate] at h
    split at h
    · rename_i kt e n1 b1 z1 q1 i kv v ht hm1 hk hx
      have htt := (hT.ty t _ ht).map rfl
      have hmd := hρ m (by simp [Op.operands]) _ hm1
      simp only [Den] at hmd
      obtain ⟨bk, hs, hme⟩ := hmd
      have hkd := hρ k (by simp [Op.operands]) _ hk
      have hxd := hρ x (by simp [Op.operands]) _ hx
      split at h
      · rename_i es clock hg hko
        split at h
        · rename_i es' hp
          obtain ⟨hro2, e1, e2, e3⟩ := okR_ok h
          subst c M' nx'
          obtain ⟨w', hrun, hst⟩ := l_mapUpdate hT hm htt hs hg hko hkd hxd hp hro2
          refine ⟨.skip, undef, w', r, by simp [execOp, hme, hrun], .inr ⟨rfl, rfl⟩, den_undef, hst⟩
        · rename_i es' hp
          obtain ⟨hro2, e1, e2, e3⟩ := okR_ok h
          subst c M' nx'
          obtain ⟨w', hrun, hst⟩ := l_mapUpdate hT hm htt hs hg hko hkd hxd hp hro2
          refine ⟨.skip, undef, w', r, by simp [execOp, hme, hrun], .inr ⟨rfl, rfl⟩, den_undef, hst⟩
        · cases h
      · cases h
    · cases h
  | insert t m k x =>
    simp only [lop, lMapUpdate] at h
    split at h
    · rename_i kt e n1 b1 z1 q1 i kv v ht hm1 hk hx
      have htt := (hT.ty t _ ht).map rfl
      have hmd := hρ m (by simp [Op.operands]) _ hm1
      simp only [Den] at hmd
      obtain ⟨bk, hs, hme⟩ := hmd
      have hkd := hρ k (by simp [Op.operands]) _ hk
      have hxd := hρ x (by simp [Op.operands]) _ hx
      split at h
      · rename_i es clock hg hko
        split at h
        · rename_i es' hp
          obtain ⟨hro2, e1, e2, e3⟩ := okR_ok h
          subst c M' nx'
          obtain ⟨w', hrun, hst⟩ := l_mapUpdate hT hm htt hs hg hko hkd hxd hp hro2
          refine ⟨.skip, undef, w', r, by simp [execOp, hme, hrun], .inr ⟨rfl, rfl⟩, den_undef, hst⟩
        · rename_i es' hp
          obtain ⟨hro2, e1, e2, e3⟩ := okR_ok h
          subst c M' nx'
          obtain ⟨w', hrun, hst⟩ := l_mapUpdate hT hm htt hs hg hko hkd hxd hp hro2
          refine ⟨.skip, undef, w', r, by simp [execOp, hme, hrun], .inr ⟨rfl, rfl⟩, den_undef, hst⟩
        · cases h
      · cases h
    · cases h
  | next x isStr => exact LRun.of_sem (by simp only [execOp]) (l_next (b := b) (ty := ty) hm (fun y hy => hρ y (by simpa [Op.operands] using hy)) h)
  | range t x => exact LRun.of_sem (by simp only [execOp]) (l_range hT hm hro (fun y hy => hρ y (by simpa [Op.operands] using hy)) h)
  | panic x =>
    simp only [lop, lPanic] at h
    split at h <;> cases h
  | call c0 =>
    obtain ⟨callee, args, tys⟩ := c0
    cases callee with
    | builtin bi =>
      have hargs : OpsR r E ρ args.toList := fun y hy => hρ y (by simp [Op.operands, Call.operands]; simpa using hy)
      cases bi with
      | append =>
        refine LRun.of_sem (sem := Builtin.append_ tys ty (args.map ρ)) ?_ (l_append hT hm hro hargs h)
        simp [execOp, resolve, invoke, builtin]
      | copy =>
        refine LRun.of_sem (sem := Builtin.copy_ tys ty (args.map ρ)) ?_ (l_copy hT hm hargs h)
        simp [execOp, resolve, invoke, builtin]
      | delete =>
        simp only [lop, lDelete] at h
        split at h
        · rename_i i k t tl hev htl
          split at h
          · rename_i kt e n1 b1 z1 q1 es clock ht hg
            have htt := (hT.ty t _ ht).map rfl
            split at h
            · rename_i es' hko hp
              obtain ⟨hro2, e1, e2, e3⟩ := okR_ok h
              subst c M' nx'
              have hd := evs_ok hargs hev
              simp only [DenL, Den] at hd
              obtain ⟨mu, l1, ⟨bk, hs, rfl⟩, ⟨ku, l2, hku, rfl, rfl⟩, hl⟩ := hd
              have ht0 : tys[0]? = some t := by
                have : tys.toList[0]? = some t := by rw [htl]; rfl
                simpa using this
              obtain ⟨w', hrun, hst⟩ := l_delete0 (ty := ty) hT hm htt ht0 hs hg hko hku hp hro2
              have he : args.map ρ = #[.map (some bk), ku] := by
                apply Array.toList_inj.1
                simpa using hl
              exact ⟨.value (.tuple #[]), undef, w', r, by simp [execOp, resolve, invoke, builtin, he, hrun], .inl rfl, den_undef, hst⟩
            · cases h
          · cases h
        · cases h
      | clear =>
        refine LRun.of_sem (sem := Builtin.clear_ tys ty (args.map ρ)) ?_ (l_clear hT hm hargs h)
        simp [execOp, resolve, invoke, builtin]
      | _ => simp [lop] at h
    | _ => simp [lop] at h
  | _ => simp [lop] at h

theorem lop_pan {o : Oper} {c : CV} (hρ : OpsR r E ρ o.op.operands.toList) (h : lop b ro E M nx o.op = .pan c) : ∃ u, (execOp ρ o).run P w = .halt (.panic u) w ∧ Den r c u := by
  obtain ⟨dst, op, ty, pos, after, guard⟩ := o
  dsimp only at hρ h
  have hok : ∀ (v : CV) (M2 : T AObj) (i : Nat) (ob : AObj), okR ro v M2 i ob nx ≠ .pan c := by intro v M2 i ob; unfold okR; split <;> simp
  have happ1 : ∀ (e n k : Nat) (l : List CV) (ti : TI), appNew M nx e n k l ti ≠ .pan c := by intro e n k l ti; unfold appNew; split <;> simp
  have happ2 : ∀ (e i n k : Nat) (l : List CV) (ti : TI) (row : Row) (e' : Nat), appRow ro M nx e i n k l ti row e' ≠ .pan c := by
    intro e i n k l ti row e'; unfold appRow; split
    · split <;> simp
    · simp
  have happ3 : ∀ (e : Nat) (s : CV) (l : List CV) (k : Nat) (ti : TI), appendC ro M nx e s l k ti ≠ .pan c := by
    intro e s l k ti; unfold appendC; split
    · split <;> simp
    · unfold append1
      split
      · exact happ1 _ _ _ _ _
      · split
        · split <;> simp
        · split
          · exact happ1 _ _ _ _ _
          · simp
      · split
        · exact happ2 _ _ _ _ _ _ _ _
        · simp
      · simp
  cases op with
  | panic x =>
    simp only [lop, lPanic] at h
    split at h
    · rename_i t v hv
      injection h with h; subst h
      have hx := hρ x (by simp [Op.operands]) _ hv
      have hx2 := hx
      simp only [Den] at hx
      obtain ⟨u, _, hu⟩ := hx
      exact ⟨ρ x, by simp [execOp, Instr.panic, hu, goPanic], hx2⟩
    · cases h
  | assign x => simp only [lop, lAssign] at h; split at h <;> cases h
  | store t a x => simp only [lop, lStore] at h; split at h <;> (try split at h) <;> cases h
  | mapUpdate t m k x =>
    simp only [lop, lMapUpdate] at h
    split at h
    · split at h
      · split at h
        · exact (hok _ _ _ _ h).elim
        · exact (hok _ _ _ _ h).elim
        · cases h
      · cases h
    · cases h
  | insert t m k x =>
    simp only [lop, lMapUpdate] at h
    split at h
    · split at h
      · split at h
        · exact (hok _ _ _ _ h).elim
        · exact (hok _ _ _ _ h).elim
        · cases h
      · cases h
    · cases h
  | next x isStr =>
    simp only [lop, lNext] at h
    split at h
    · split at h
      · cases h
      · split at h
        · split at h
          · split at h
            · cases h
            · exact (hok _ _ _ _ h).elim
            · cases h
          · cases h
        · cases h
      · cases h
    · cases h
  | range t x =>
    simp only [lop, lRange] at h
    split at h
    · cases h
    · split at h <;> cases h
    · cases h
  | call c0 =>
    obtain ⟨callee, args, tys⟩ := c0
    cases callee with
    | builtin bi =>
      cases bi with
      | append =>
        simp only [lop, lAppend] at h
        split at h
        · split at h
          · split at h
            · split at h
              · split at h
                · split at h
                  · exact (happ3 _ _ _ _ _ h).elim
                  · cases h
                · cases h
              · split at h
                · split at h
                  · exact (happ3 _ _ _ _ _ h).elim
                  · cases h
                · cases h
              · cases h
            · cases h
          · cases h
        · cases h
      | copy =>
        simp only [lop, lCopy] at h
        split at h
        · split at h
          · split at h
            · split at h
              · split at h <;> cases h
              · cases h
            · cases h
          · cases h
        · cases h
      | delete =>
        simp only [lop, lDelete] at h
        split at h
        · split at h
          · split at h
            · exact (hok _ _ _ _ h).elim
            · cases h
          · cases h
        · cases h
      | clear =>
        simp only [lop, lClear] at h
        split at h
        · split at h
          · split at h
            · split at h <;> cases h
            · cases h
          · cases h
        · cases h
      | _ => simp [lop] at h
    | _ => simp [lop] at h
  | _ => simp [lop] at h
end l
end Go.Proofs.YtaodejbcmaeaaaaGreat.CE
