/- The concrete evaluator: regions that draw their order: what a plan's check says. No statement of the seat is proved here. -/
import Derived.Test.YtaodejbcmaeaaaaGreatCe14
set_option linter.unusedVariables false
set_option linter.unusedSimpArgs false
namespace Go.Proofs.YtaodejbcmaeaaaaGreat.CE
open Go Go.RowKit

/-- i must come ahead of j. -/
inductive Bef (ops : List Oper) : Nat → Nat → Prop
  | one {i j : Nat} {o : Oper} (h : nth ops i = some o) (hj : j ∈ aftC o) : Bef ops j i
  | more {i e j : Nat} {o : Oper} (h : nth ops i = some o) (he : e ∈ aftC o) (hb : Bef ops j e) : Bef ops j i

theorem anyN_mem {n : Nat} {l : List Nat} : anyN n l = true ↔ n ∈ l := by rw [anyN_eq]; simp

theorem lk_mem {i j : Nat} : ∀ {c : List (Nat × List Nat)}, j ∈ lk i c → ∃ l, (i, l) ∈ c ∧ j ∈ l
  | [], h => by simp [lk] at h
  | (k, l) :: c, h => by
    simp only [lk] at h
    split at h
    · rename_i hb; have := natbeq_t hb; subst this
      exact ⟨l, List.mem_cons_self .., h⟩
    · obtain ⟨l', h1, h2⟩ := lk_mem h
      exact ⟨l', List.mem_cons_of_mem _ h1, h2⟩

theorem ddN_mem {j : Nat} : ∀ {l acc : List Nat}, j ∈ ddN l acc → j ∈ l ∨ j ∈ acc
  | [], _, h => .inr h
  | x :: l, acc, h => by
    simp only [ddN] at h
    split at h
    · exact (ddN_mem h).imp (List.mem_cons_of_mem _) (fun h => h)
    · rcases ddN_mem h with h | h
      · exact .inl (List.mem_cons_of_mem _ h)
      · rcases List.mem_cons.1 h with rfl | h
        · exact .inl (List.mem_cons_self ..)
        · exact .inr h
theorem clos_ok {ops : List Oper} : ∀ (p : List Nat) (c : List (Nat × List Nat)), (∀ i l, (i, l) ∈ c → ∀ j ∈ l, Bef ops j i) → ∀ i l, (i, l) ∈ clos ops p c → ∀ j ∈ l, Bef ops j i
  | [], c, h => h
  | k :: p, c, h => by
    simp only [clos]
    refine clos_ok p _ ?_
    intro i l hil j hj
    rcases List.mem_cons.1 hil with e | hil
    · injection e with e1 e2
      subst e1
      rw [e2] at hj
      cases ho : nth ops i with
      | none => rw [ho] at hj; simp at hj
      | some o =>
        rw [ho] at hj
        have hj := (ddN_mem hj).resolve_right (by simp)
        simp only [List.mem_flatMap] at hj
        obtain ⟨e, he, hj⟩ := hj
        rcases List.mem_cons.1 hj with rfl | hj
        · exact .one ho he
        · obtain ⟨l', h1, h2⟩ := lk_mem hj
          exact .more ho he (h e l' h1 j h2)
    · exact h i l hil j hj
theorem lk_bef {ops : List Oper} {p : List Nat} {i j : Nat} (h : j ∈ lk i (clos ops p [])) : Bef ops j i := by
  obtain ⟨l, h1, h2⟩ := lk_mem h
  exact clos_ok p [] (by simp) i l h1 j h2

/-- What is known of an operation's place in a plan. -/
structure Place (b : Tb) (ops : List Oper) (pre : List Nat) (i : Nat) (chk : List Nat) (rest : List Nat) (o : Oper) : Prop where
  new : i ∉ pre
  aft : ∀ e ∈ aftC o, e ∈ pre
  data : ∀ j ∈ pre, ∀ d, gslot ops j = some d → d ∈ looksC ops o → Bef ops j i
  rest : isLoud b o.op = true → ∀ q ∈ rest, Bef ops i q
  chk : isLoud b o.op = true → ∀ j ∈ pre, ∃ q, nth ops j = some q ∧ (isLoud b q.op = true ∨ isNew b q.op = true ∨ noMem q.op = true ∨ Bef ops j i ∨ j ∈ chk)
  over : isLoud b o.op = true → ∀ j ∈ pre, ∀ d, gslot ops i = some d → d ∈ looksN ops j ∨ gslot ops j = some d → Bef ops j i
  self : isLoud b o.op = false → ∀ d, gslot ops i = some d → d ∉ looksC ops o
  fresh : isLoud b o.op = false → ∀ j ∈ pre, ∀ d, gslot ops i = some d → d ∉ looksN ops j ∧ gslot ops j ≠ some d

theorem dstIn_f {ops : List Oper} {j d : Nat} {l : List Nat} (h : dstIn ops j l = false) (hd : gslot ops j = some d) : d ∉ l := by
  unfold dstIn at h
  rw [hd] at h
  simp only at h
  intro hm
  rw [anyN_mem.2 hm] at h
  cases h

theorem ckOne_ok {b : Tb} {ops : List Oper} {p pre : List Nat} {i : Nat} {chk rest : List Nat} {o : Oper} (h : ckOne b ops (clos ops p []) pre i chk rest o = true) : Place b ops pre i chk rest o := by
  unfold ckOne at h
  simp only [Bool.and_eq_true, Bool.not_eq_true', List.all_eq_true, Bool.or_eq_true] at h
  obtain ⟨⟨⟨h1, h2⟩, h3⟩, h4⟩ := h
  have hov : ∀ j, (!(dstIn ops i (looksN ops j)) && !(dstIn ops i (match gslot ops j with | none => [] | some e => [e]))) = true → ∀ d, gslot ops i = some d → d ∉ looksN ops j ∧ gslot ops j ≠ some d := by
    intro j hj d hd
    simp only [Bool.and_eq_true, Bool.not_eq_true'] at hj
    refine ⟨dstIn_f hj.1 hd, fun he => ?_⟩
    have := dstIn_f hj.2 hd
    rw [he] at this
    simp at this
  refine ⟨fun hm => (by rw [anyN_mem.2 hm] at h1; cases h1), fun e he => anyN_mem.1 (h2 e he), fun j hj d hd hl => ?_, fun hl => ?_, fun hl => ?_, fun hl => ?_, fun hl => ?_, fun hl => ?_⟩
  · rcases h3 j hj with h | h
    · exact absurd hl (dstIn_f h hd)
    · exact lk_bef (anyN_mem.1 h)
  · rw [hl] at h4
    simp only [Bool.and_eq_true, List.all_eq_true] at h4
    exact fun q hq => lk_bef (anyN_mem.1 (h4.1.1 q hq))
  · rw [hl] at h4
    simp only [Bool.and_eq_true, List.all_eq_true] at h4
    intro j hj
    have := h4.1.2 j hj
    unfold ckLoud at this
    cases ho : nth ops j with
    | none => rw [ho] at this; cases this
    | some q =>
      rw [ho] at this
      simp only [Bool.or_eq_true, anyN_mem] at this
      refine ⟨q, rfl, ?_⟩
      rcases this with (((h | h) | h) | h) | h
      · exact .inl h
      · exact .inr (.inl h)
      · exact .inr (.inr (.inl h))
      · exact .inr (.inr (.inr (.inl (lk_bef h))))
      · exact .inr (.inr (.inr (.inr h)))
  · rw [hl] at h4
    simp only [Bool.and_eq_true, List.all_eq_true, Bool.or_eq_true] at h4
    intro j hj d hd hc
    rcases h4.2 j hj with h | h
    · obtain ⟨g1, g2⟩ := hov j (by rw [Bool.and_eq_true]; exact h) d hd
      rcases hc with hc | hc
      · exact absurd hc g1
      · exact absurd hc g2
    · exact lk_bef (anyN_mem.1 h)
  · rw [hl] at h4
    simp only [Bool.and_eq_true, Bool.not_eq_true', List.all_eq_true] at h4
    exact fun d hd => dstIn_f h4.1 hd
  · rw [hl] at h4
    simp only [Bool.and_eq_true, List.all_eq_true] at h4
    intro j hj d hd
    exact hov j (by rw [Bool.and_eq_true]; exact h4.2 j hj) d hd

/-- A plan, place by place. -/
inductive Places (b : Tb) (ops : List Oper) : List Nat → Plan → Prop
  | nil {pre : List Nat} : Places b ops pre []
  | cons {pre : List Nat} {i : Nat} {chk : List Nat} {rest : Plan} {o : Oper} (ho : nth ops i = some o) (hp : Place b ops pre i chk (rest.map (·.1)) o) (hr : Places b ops (pre ++ [i]) rest) : Places b ops pre ((i, chk) :: rest)
theorem ckGo_ok {b : Tb} {ops : List Oper} {p : List Nat} : ∀ {rest : Plan} {pre : List Nat}, ckGo b ops (clos ops p []) pre rest = true → Places b ops pre rest
  | [], _, _ => .nil
  | (i, chk) :: rest, pre, h => by
    simp only [ckGo] at h
    cases ho : nth ops i with
    | none => rw [ho] at h; cases h
    | some o =>
      rw [ho] at h
      simp only [Bool.and_eq_true] at h
      exact .cons ho (ckOne_ok h.1) (ckGo_ok h.2)
theorem ckPlan_ok {b : Tb} {ops : List Oper} {p : Plan} (h : ckPlan b ops p = true) : Places b ops [] p ∧ (∀ i, i < ops.length → i ∈ p.map (·.1)) ∧ p.length = ops.length := by
  unfold ckPlan at h
  simp only [Bool.and_eq_true, List.all_eq_true] at h
  exact ⟨ckGo_ok h.1.1, fun i hi => anyN_mem.1 (h.1.2 i (List.mem_range.2 hi)), by have := natbeq_t h.2; rwa [lenL_eq, lenL_eq] at this⟩

/-- All that an order asks: each operation's predecessors stand ahead of it. -/
def Topo (ops : List Oper) : List Nat → List Nat → Prop
  | _, [] => True
  | pre, i :: r => i ∉ pre ∧ (∃ o, nth ops i = some o ∧ ∀ e ∈ aftC o, e ∈ pre) ∧ Topo ops (pre ++ [i]) r
theorem Places.topo {b : Tb} {ops : List Oper} : ∀ {rest : Plan} {pre : List Nat}, Places b ops pre rest → Topo ops pre (rest.map (·.1))
  | _, _, .nil => trivial
  | _, _, .cons ho hp hr => ⟨hp.new, ⟨_, ho, hp.aft⟩, hr.topo⟩

/-! ## what is pending -/
inductive PK where
  | q
  | n (id : Nat)
  | off
def PK.id : PK → Option Nat
  | .n i => some i
  | _ => none
/-- Done ahead by the evaluator. -/
def PendOk (b : Tb) (ops : List Oper) (r : Rl) (nx0 nx : Nat) (E : T CV) (M : T AObj) (i : Nat) (k : PK) : Prop :=
  ∃ o, nth ops i = some o ∧ isLoud b o.op = false ∧ (match k with
  | .off => wantC E ops o = .off ∧ ∀ d, o.dst = some d → E.get d = some undefC
  | .q => wantC E ops o = .yes ∧ kd b o.op = .q ∧ ∃ Ep Mp v, (∀ t ∈ tmpsOf o.op.operands.toList, Ep.get t = E.get t) ∧ Sub Mp M ∧ qop b Ep Mp o.op = some v ∧ ∀ d, o.dst = some d → E.get d = some v
  | .n id => wantC E ops o = .yes ∧ kd b o.op = .n ∧ ∃ Ep c ob, (∀ t ∈ tmpsOf o.op.operands.toList, Ep.get t = E.get t) ∧ nop b Ep o.op id = some (c, ob) ∧ nx0 ≤ id ∧ id < nx ∧ r.σ id = none ∧ (M.get id = some ob ∨ M.get id = none) ∧ ∀ d, o.dst = some d → E.get d = some c)

theorem wantC_congr {ops : List Oper} {o : Oper} {E E' : T CV} (h : ∀ t ∈ looksC ops o, E'.get t = E.get t) : wantC E' ops o = wantC E ops o := by
  unfold wantC
  cases hg : o.guard with
  | none => rfl
  | some jw =>
    obtain ⟨j, wv⟩ := jw
    simp only
    cases hs : gslot ops j with
    | none => rfl
    | some s =>
      simp only
      rw [h s (by unfold looksC; rw [hg]; simp only; rw [hs]; simp)]
theorem tmps_looks {ops : List Oper} {o : Oper} {t : Nat} (h : t ∈ tmpsOf o.op.operands.toList) : t ∈ looksC ops o := by
  unfold looksC
  cases o.guard with
  | none => exact h
  | some jw =>
    obtain ⟨j, _⟩ := jw
    simp only
    cases gslot ops j with
    | none => exact h
    | some s => exact List.mem_cons_of_mem _ h

theorem gslot_some {ops : List Oper} {i : Nat} {o : Oper} (h : nth ops i = some o) : gslot ops i = o.dst := by unfold gslot; rw [h]
theorem looksN_some {ops : List Oper} {i : Nat} {o : Oper} (h : nth ops i = some o) : looksN ops i = looksC ops o := by unfold looksN; rw [h]

/-- The slots that matter stay, the memory grows. -/
theorem PendOk.env {b : Tb} {ops : List Oper} {r : Rl} {nx0 nx nx' i : Nat} {E E' : T CV} {M M' : T AObj} {k : PK} (h : PendOk b ops r nx0 nx E M i k) (hE : ∀ t, t ∈ looksN ops i ∨ gslot ops i = some t → E'.get t = E.get t) (hM : Sub M M') (hnx : nx ≤ nx')
    (hid : ∀ id, k = .n id → M'.get id = M.get id) : PendOk b ops r nx0 nx' E' M' i k := by
  obtain ⟨o, ho, hl, hk⟩ := h
  rw [looksN_some ho, gslot_some ho] at hE
  have hw : wantC E' ops o = wantC E ops o := wantC_congr fun t ht => hE t (.inl ht)
  refine ⟨o, ho, hl, ?_⟩
  cases k with
  | off => exact ⟨hw.trans hk.1, fun d hd => (hE d (.inr hd)).trans (hk.2 d hd)⟩
  | q =>
    obtain ⟨h1, h2, Ep, Mp, v, h3, h4, h5, h6⟩ := hk
    exact ⟨hw.trans h1, h2, Ep, Mp, v, fun t ht => (h3 t ht).trans (hE t (.inl (tmps_looks ht))).symm, fun i o h => hM i o (h4 i o h), h5, fun d hd => (hE d (.inr hd)).trans (h6 d hd)⟩
  | n id =>
    obtain ⟨h1, h2, Ep, c, ob, h3, h4, h5, h6, h7, h8, h9⟩ := hk
    exact ⟨hw.trans h1, h2, Ep, c, ob, fun t ht => (h3 t ht).trans (hE t (.inl (tmps_looks ht))).symm, h4, h5, Nat.lt_of_lt_of_le h6 hnx, h7, by rw [hid id rfl]; exact h8, fun d hd => (hE d (.inr hd)).trans (h9 d hd)⟩
end Go.Proofs.YtaodejbcmaeaaaaGreat.CE
