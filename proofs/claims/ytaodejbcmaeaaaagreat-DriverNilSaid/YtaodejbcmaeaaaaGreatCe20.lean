/- The concrete evaluator: a loop over a map, in whatever order its entries come. No statement of the seat is proved here. -/
import Derived.Test.YtaodejbcmaeaaaaGreatCe19
set_option linter.unusedVariables false
set_option linter.unusedSimpArgs false
namespace Go.Proofs.YtaodejbcmaeaaaaGreat.CE
open Go Go.RowKit
open Go.Proofs.YtaodejbcmaeaaaaGreat.Eng (Fr Pl pl TyI TyK Tab TabOk kix)

theorem keepE_ok : ∀ {E E' : T CV}, keepE E E' = true → ∀ t v, E.get t = some v → E'.get t = some v
  | .lf, _, _, t, v, h => by simp [T.get_lf] at h
  | .nd x l r, .lf, hk, t, v, h => by
    simp only [keepE] at hk
    cases x with
    | some _ => cases hk
    | none =>
      simp only at hk
      split at hk
      · rename_i h1
        cases t with
        | zero => simp [T.get_nd0] at h
        | succ t =>
          rw [T.get_ndS] at h
          split at h
          · have := keepE_ok h1 _ v h; simp [T.get_lf] at this
          · have := keepE_ok hk _ v h; simp [T.get_lf] at this
      · cases hk
  | .nd x l r, .nd x' l' r', hk, t, v, h => by
    simp only [keepE] at hk
    split at hk
    · rename_i h0
      split at hk
      · rename_i h1
        cases t with
        | zero =>
          rw [T.get_nd0] at h ⊢
          subst h
          simp only [keepE.kv] at h0
          cases x' with
          | none => cases h0
          | some v' => simp only at h0; rw [same_eq h0]
        | succ t =>
          rw [T.get_ndS] at h ⊢
          split at h
          · exact keepE_ok h1 _ v h
          · exact keepE_ok hk _ v h
      · cases hk
    · cases hk

theorem eraseC_get {t : Nat} {v : CV} : ∀ {c : Code} {E : T CV}, (eraseC E c).get t = some v → E.get t = some v
  | .region _ ops _, E, h => (erase_get h).1
  | .seq a b, E, h => eraseC_get (eraseC_get (c := b) h)
  | .cond _ a b, E, h => eraseC_get (eraseC_get (c := b) h)
  | .rangeFunc _ _ a b, E, h => eraseC_get (eraseC_get (c := b) h)
  | .block _ a, E, h => eraseC_get (c := a) h
  | .loop a, E, h => eraseC_get (c := a) h
  | .scope a, E, h => eraseC_get (c := a) h
  | .skip, E, h => h
  | .exit _, E, h => h
  | .label _, E, h => h
  | .goto _, E, h => h
  | .ret, E, h => h
  | .refuse _, E, h => h

theorem mapGo_ok {run : St → R} {E : T CV} {M : T AObj} {nx i m since clock d1 d2 : Nat} {s : St} : ∀ {U : List (CV × CV × Nat)}, mapGo run E M nx i m since clock d1 d2 U = .ok .nrm s → ∀ k v b, (k, v, b) ∈ U →
    ∃ s1, run ⟨(E.set d1 (.tup [.bool true, k, v])).set d2 (.bool true), M.set i (.mapCur m since b clock), nx, []⟩ = .ok .nrm s1 ∧ keepE E s1.E = true ∧ s1.D = []
  | [], _, _, _, _, h => by cases h
  | (k', v', b') :: U, h, k, v, b, hm => by
    simp only [mapGo] at h
    split at h
    · rename_i s1 hr
      split at h
      · rename_i h1 h2
        rcases List.mem_cons.1 hm with e | hm
        · injection e with e1 e2; injection e2 with e2 e3
          subst e1 e2 e3
          exact ⟨s1, hr, h1, h2⟩
        · exact mapGo_ok h k v b hm
      · cases h
      · cases h
    · cases h
    · rename_i h1 h2
      cases hr : run ⟨(E.set d1 (.tup [.bool true, k', v'])).set d2 (.bool true), M.set i (.mapCur m since b' clock), nx, []⟩ with
      | no _ _ _ _ => rw [hr] at h; cases h
      | ok x s' => exact absurd hr (h2 x s')

/-! ## a memory in another one -/
theorem sameT_eq : ∀ {a b : T CV}, sameT a b = true → a = b
  | .lf, .lf, _ => rfl
  | .lf, .nd _ _ _, h => by simp [sameT] at h
  | .nd _ _ _, .lf, h => by simp [sameT] at h
  | .nd v l r, .nd v' l' r', h => by
    simp only [sameT] at h
    split at h
    · rename_i h1
      split at h
      · rename_i h2
        rw [sameT_eq h2, sameT_eq h]
        cases v <;> cases v' <;> simp only [sameT.sameV, Bool.false_eq_true] at h1
        · rfl
        · rw [same_eq h1]
      · cases h
    · cases h
theorem sameRow_eq {a b : Row} (h : sameRow a b = true) : a = b := by
  unfold sameRow at h
  split at h
  · rename_i h1 h2
    split at h
    · rename_i h3
      obtain ⟨n, sz, z, t⟩ := a
      obtain ⟨n', sz', z', t'⟩ := b
      simp only at h1 h2 h3 h
      rw [natbeq_t h1, natbeq_t h2, sameT_eq h3, sameT_eq h]
    · cases h
  · cases h
theorem sameEs_eq : ∀ {a b : List (CV × CV × Nat)}, sameEs a b = true → a = b
  | [], [], _ => rfl
  | [], _ :: _, h => by simp [sameEs] at h
  | _ :: _, [], h => by simp [sameEs] at h
  | (k, v, n) :: r, (k', v', n') :: r', h => by
    simp only [sameEs] at h
    split at h
    · rename_i h1 h2 h3
      rw [same_eq h1, same_eq h2, natbeq_t h3, sameEs_eq h]
    · cases h
theorem sameO_eq {a b : AObj} (h : sameO a b = true) : a = b := by
  unfold sameO at h
  split at h
  · split at h
    · rename_i h1; rw [natbeq_t h1, sameRow_eq h]
    · cases h
  · split at h
    · rename_i h1; rw [natbeq_t h1, sameRow_eq h]
    · cases h
  · split at h
    · rename_i h1; rw [natbeq_t h1, sameEs_eq h]
    · cases h
  · rfl
  · cases h
theorem subM_ok : ∀ {A B : T AObj}, subM A B = true → Sub A B
  | .lf, _, _ => fun i o h => by simp [T.get_lf] at h
  | .nd _ _ _, .lf, h => by simp [subM] at h
  | .nd v l r, .nd v' l' r', h => by
    simp only [subM] at h
    split at h
    · rename_i h1
      split at h
      · rename_i h2
        intro i o hi
        cases i with
        | zero =>
          rw [T.get_nd0] at hi ⊢
          subst hi
          cases v' with
          | none => simp [subM.subV] at h1
          | some o' => simp only [subM.subV] at h1; rw [sameO_eq h1]
        | succ i =>
          rw [T.get_ndS] at hi ⊢
          split at hi
          · exact subM_ok h2 _ o hi
          · exact subM_ok h _ o hi
      · cases h
    · cases h

/-! ## what a state shares with another one -/
theorem ndF_eq {α : Type} (v : Option α) (l r : T α) : ndF v l r = .nd v l r := by cases l <;> cases r <;> rfl
theorem meetE_ok : ∀ {A B : T CV} {t : Nat} {v : CV}, (meetE A B).get t = some v → A.get t = some v
  | .lf, _, t, v, h => by simp [meetE, T.get_lf] at h
  | .nd x l r, .lf, t, v, h => by simp [meetE, T.get_lf] at h
  | .nd x l r, .nd x' l' r', t, v, h => by
    have key : (T.nd (meetV x x') (meetE l l') (meetE r r')).get t = some v := by
      simp only [meetE] at h
      cases hv : meetV x x' with
      | none => rw [hv] at h; simpa only [ndF_eq] using h
      | some y => rw [hv] at h; simpa only [ndF_eq] using h
    cases t with
    | zero =>
      rw [T.get_nd0] at key ⊢
      unfold meetV at key
      split at key
      · split at key
        · exact key
        · cases key
      · cases key
    | succ t =>
      rw [T.get_ndS] at key ⊢
      split at key
      · exact meetE_ok key
      · exact meetE_ok key
/-- An object that tells no more than another one. -/
def LeO (o o' : AObj) : Prop := o = o' ∨ ∃ st pe fn n E E' ps as bd d, o = .loop st pe fn n E' ps as bd d ∧ o' = .loop st pe fn n E ps as bd d ∧ ∀ t v, E'.get t = some v → E.get t = some v
theorem LeO.trans {a b c : AObj} (h : LeO a b) (k : LeO b c) : LeO a c := by
  rcases h with rfl | ⟨st, pe, fn, n, E, E', ps, as, bd, d, rfl, rfl, h⟩
  · exact k
  · rcases k with rfl | ⟨st2, pe2, fn2, n2, E2, E2', ps2, as2, bd2, d2, e, rfl, k⟩
    · exact .inr ⟨st, pe, fn, n, E, E', ps, as, bd, d, rfl, rfl, h⟩
    · injection e with e1 e2 e3 e4 e5 e6 e7 e8 e9
      subst e1 e2 e3 e4 e5 e6 e7 e8 e9
      exact .inr ⟨st, pe, fn, n, E2, E', ps, as, bd, d, rfl, rfl, fun t v hv => k t v (h t v hv)⟩
theorem meetO_ok (o o' : AObj) : LeO (meetO o o') o := by
  unfold meetO
  split
  · split
    · exact .inr ⟨_, _, _, _, _, _, _, _, _, _, rfl, rfl, fun t v h => meetE_ok h⟩
    · exact .inl rfl
  · exact .inl rfl
def LeW (M M' : T AObj) : Prop := ∀ i o, M.get i = some o → ∃ o', M'.get i = some o' ∧ LeO o o'
theorem LeW.refl (M : T AObj) : LeW M M := fun i o h => ⟨o, h, .inl rfl⟩
theorem LeW.trans {A B C : T AObj} (h : LeW A B) (k : LeW B C) : LeW A C := fun i o e => by
  obtain ⟨o', e', h1⟩ := h i o e
  obtain ⟨o2, e2, h2⟩ := k i o' e'
  exact ⟨o2, e2, h1.trans h2⟩
theorem meetM_ok : ∀ {A B : T AObj}, LeW (meetM A B) A
  | .lf, _ => fun i o h => by simp [meetM, T.get_lf] at h
  | .nd x l r, .lf => fun i o h => by simp [meetM, T.get_lf] at h
  | .nd x l r, .nd x' l' r' => fun i o h => by
    have key : (T.nd (meetOO x x') (meetM l l') (meetM r r')).get i = some o := by
      simp only [meetM] at h
      cases hv : meetOO x x' with
      | none => rw [hv] at h; simpa only [ndF_eq] using h
      | some y => rw [hv] at h; simpa only [ndF_eq] using h
    cases i with
    | zero =>
      rw [T.get_nd0] at key ⊢
      unfold meetOO at key
      split at key
      · injection key with key
        subst key
        exact ⟨_, rfl, meetO_ok _ _⟩
      · cases key
    | succ i =>
      rw [T.get_ndS] at key ⊢
      split at key
      · exact meetM_ok _ o key
      · exact meetM_ok _ o key
theorem weakW_ok {run : St → R} {nx i m since clock d1 d2 : Nat} : ∀ {G : List (CV × CV × Nat)} {E E' : T CV} {M M' : T AObj}, weakW run nx i m since clock d1 d2 G E M = (E', M') → (∀ t v, E'.get t = some v → E.get t = some v) ∧ LeW M' M
  | [], E, E', M, M', h => by
    simp only [weakW, Prod.mk.injEq] at h
    obtain ⟨rfl, rfl⟩ := h
    exact ⟨fun _ _ h => h, LeW.refl _⟩
  | (k, v, b) :: G, E, E', M, M', h => by
    simp only [weakW] at h
    split at h
    · obtain ⟨h1, h2⟩ := weakW_ok h
      exact ⟨fun t v hv => meetE_ok (h1 t v hv), h2.trans meetM_ok⟩
    · simp only [Prod.mk.injEq] at h
      obtain ⟨rfl, rfl⟩ := h
      exact ⟨fun _ _ h => h, LeW.refl _⟩

/-! ## what a round leaves -/
def LeM (M M' : T AObj) : Prop := ∀ i o, M.get i = some o → ∃ o', M'.get i = some o' ∧ leO o o' = true
theorem leM_ok : ∀ {A B : T AObj}, leM A B = true → LeM A B
  | .lf, _, _ => fun i o h => by simp [T.get_lf] at h
  | .nd _ _ _, .lf, h => by simp [leM] at h
  | .nd v l r, .nd v' l' r', h => by
    simp only [leM] at h
    split at h
    · rename_i h1
      split at h
      · rename_i h2
        intro i o hi
        cases i with
        | zero =>
          rw [T.get_nd0] at hi ⊢
          subst hi
          cases v' with
          | none => simp [leV] at h1
          | some o' => exact ⟨o', rfl, h1⟩
        | succ i =>
          rw [T.get_ndS] at hi ⊢
          split at hi
          · exact leM_ok h2 _ o hi
          · exact leM_ok h _ o hi
      · cases h
    · cases h
theorem lsEq_ok {a b : LS} (h : lsEq a b = true) : a = b := by cases a <;> cases b <;> first | rfl | cases h
theorem isNone_ok {α : Type} {o : Option α} (h : isNone o = true) : o = none := by cases o with | none => rfl | some _ => cases h
theorem optN_ok {a b : Option Nat} (h : optN a b = true) : a = b := by
  cases a <;> cases b <;> simp only [optN, Bool.false_eq_true] at h
  · rfl
  · rw [natbeq_t h]

theorem two_ok {U : List (CV × CV × Nat)} (_ : two U = true) : True := trivial

section m
variable {P : Program} {b : Tb} {w0 w : World} {S : Nat → Prop} {ro : Nat} {r : Rl} {M : T AObj} {nx N : Nat}

theorem EntsR.mem {es : List (CV × CV × Nat)} {fs : List MapEntry} (h : EntsR r es fs) : ∀ {e : MapEntry}, e ∈ fs → ∃ k v n, (k, v, n) ∈ es ∧ Den r k e.key ∧ Den r v e.val ∧ e.born = n := by
  induction h with
  | nil => intro e he; cases he
  | cons hk hv hb _ ih =>
    intro e he
    rcases List.mem_cons.1 he with rfl | he
    · exact ⟨_, _, _, List.mem_cons_self .., hk, hv, hb⟩
    · obtain ⟨k, v, n, h1, h2⟩ := ih he
      exact ⟨k, v, n, List.mem_cons_of_mem _ h1, h2⟩
theorem EntsR.len {es : List (CV × CV × Nat)} {fs : List MapEntry} (h : EntsR r es fs) : es.length = fs.length := by
  induction h with
  | nil => rfl
  | cons _ _ _ _ ih => simp [ih]

theorem leftC_sub {n : Nat} {seen : List Nat} : ∀ {es : List (CV × CV × Nat)}, ∀ e ∈ leftC (n :: seen) es, e ∈ leftC seen es
  | [], e, h => h
  | (k, v, b) :: es, e, h => by
    simp only [leftC, anyN] at h ⊢
    cases h1 : Nat.beq n b with
    | true =>
      rw [h1] at h
      simp only at h
      have := leftC_sub e h
      cases anyN b seen with
      | true => exact this
      | false => exact List.mem_cons_of_mem _ this
    | false =>
      rw [h1] at h
      simp only at h
      cases h2 : anyN b seen with
      | true => rw [h2] at h; exact leftC_sub e h
      | false =>
        rw [h2] at h
        rcases List.mem_cons.1 h with h | h
        · rw [h]; exact List.mem_cons_self ..
        · exact List.mem_cons_of_mem _ (leftC_sub e h)
theorem leftC_le {n : Nat} {seen : List Nat} : ∀ {es : List (CV × CV × Nat)}, (leftC (n :: seen) es).length ≤ (leftC seen es).length
  | [] => Nat.le_refl _
  | (k, v, b) :: es => by
    have ih := leftC_le (n := n) (seen := seen) (es := es)
    simp only [leftC, anyN]
    cases h1 : Nat.beq n b <;> cases h2 : anyN b seen <;> simp only [List.length_cons] <;> omega
theorem leftC_lt {seen : List Nat} {k v : CV} {n : Nat} : ∀ {es : List (CV × CV × Nat)}, (k, v, n) ∈ leftC seen es → (leftC (n :: seen) es).length < (leftC seen es).length
  | [], h => by cases h
  | (k', v', b) :: es, h => by
    have hle := leftC_le (n := n) (seen := seen) (es := es)
    simp only [leftC, anyN] at h ⊢
    cases h2 : anyN b seen with
    | true =>
      rw [h2] at h
      have ih := leftC_lt h
      cases h1 : Nat.beq n b <;> simp only <;> exact ih
    | false =>
      rw [h2] at h
      rcases List.mem_cons.1 h with h | h
      · injection h with _ h; injection h with _ h
        subst h
        have : Nat.beq n n = true := Nat.beq_refl n
        rw [this]
        simp only [List.length_cons]; omega
      · have ih := leftC_lt h
        cases h1 : Nat.beq n b <;> simp only [List.length_cons] <;> omega

theorem mapL_ok {E : T CV} {M : T AObj} {x : Code} {q : ML} (h : mapL E M x = some q) : ∃ id ops ty1 p1 a1 ty2 p2 a2 seen last es,
    x = .seq (.region id ops false) q.y ∧ ops = #[⟨some q.d1, .next (.tmp q.it) false, ty1, p1, a1, none⟩, ⟨some q.d2, .extract (.tmp q.d1) 0, ty2, p2, a2, none⟩] ∧ E.get q.it = some (.ptr q.i 0) ∧
    M.get q.i = some (.mapIt (some q.m) q.since seen last) ∧ M.get q.m = some (.map es q.clock) ∧ bornLt q.since es = true ∧ q.since ≤ last ∧ q.since ≤ q.clock ∧ q.U = leftC seen es := by
  unfold mapL at h
  split at h
  · rename_i id ops y
    split at h
    · rename_i d1 it ty1 p1 a1 d2 d3 ty2 p2 a2 hops
      split at h
      · rename_i i hb hE
        split at h
        · rename_i m since seen last hg
          split at h
          · rename_i es clock hg2
            split at h
            · rename_i hc _
              simp only [Bool.and_eq_true] at hc
              injection h with h
              subst h
              have hb := natbeq_t hb
              subst hb
              exact ⟨id, ops, ty1, p1, a1, ty2, p2, a2, seen, last, es, rfl, by apply Array.toList_inj.1; exact hops, hE, hg, hg2, hc.1.1, ble_t hc.1.2, ble_t hc.2, rfl⟩
            · cases h
          · cases h
        · cases h
      · cases h
    · cases h
  · cases h
end m
end Go.Proofs.YtaodejbcmaeaaaaGreat.CE
