/- The concrete evaluator: regions that draw their order, whole. No statement of the seat is proved here. -/
import Derived.Test.YtaodejbcmaeaaaaGreatCe16
set_option linter.unusedVariables false
set_option linter.unusedSimpArgs false
namespace Go.Proofs.YtaodejbcmaeaaaaGreat.CE
open Go Go.RowKit
open Go.Proofs.YtaodejbcmaeaaaaGreat.Eng (Fr Pl pl TyI TyK Tab TabOk kix)

/-! ## sameness -/
theorem capSame_eq {c d : Cap} (h : capSame c d = true) : c = d := by
  cases c <;> cases d <;> simp only [capSame, Bool.false_eq_true] at h <;> rw [natbeq_t h]
theorem natsSame_eq : ∀ {a b : List Nat}, natsSame a b = true → a = b
  | [], [], _ => rfl
  | [], _ :: _, h => by simp [natsSame] at h
  | _ :: _, [], h => by simp [natsSame] at h
  | x :: a, y :: b, h => by
    simp only [natsSame] at h
    split at h
    · rename_i h1; rw [natbeq_t h1, natsSame_eq h]
    · cases h
mutual
theorem same_eq : ∀ {u v : CV}, same u v = true → u = v
  | u, v, h => by
    unfold same at h
    split at h
    · split at h
      · rename_i hk; rw [kEq_ok hk]; rw [iEq_eq] at h; rw [of_decide_eq_true h]
      · cases h
    · rw [bB_eq] at h; rw [beq_iff_eq.1 h]
    · rw [natsSame_eq h]
    · rfl
    · split at h
      · rename_i h1; rw [natbeq_t h1, natbeq_t h]
      · cases h
    · rfl
    · split at h
      · rename_i h1 h2 h3; rw [natbeq_t h1, natbeq_t h2, natbeq_t h3, capSame_eq h]
      · cases h
    · split at h
      · rename_i h1; rw [natbeq_t h1, capSame_eq h]
      · cases h
    · rfl
    · rfl
    · rfl
    · rw [natbeq_t h]
    · rw [sameL_eq h]
    · rw [sameL_eq h]
    · split at h
      · rename_i h1
        split at h
        · rename_i h2
          rw [natbeq_t h1, sameL_eq h2, sameL_eq h]
        · cases h
      · cases h
    · split at h
      · rename_i h1
        split at h
        · rename_i h2
          rw [natbeq_t h1, sameL_eq h2, sameL_eq h]
        · cases h
      · cases h
    · split at h
      · rename_i h1; rw [natbeq_t h1, same_eq h]
      · cases h
    · cases h
theorem sameL_eq : ∀ {u v : List CV}, sameL u v = true → u = v
  | [], [], _ => rfl
  | [], _ :: _, h => by simp [sameL] at h
  | _ :: _, [], h => by simp [sameL] at h
  | x :: a, y :: b, h => by
    simp only [sameL] at h
    split at h
    · rename_i h1; rw [same_eq h1, sameL_eq h]
    · cases h
end

theorem qop_noMem {b : Tb} {E : T CV} {M M' : T AObj} {op : Op} (h : noMem op = true) : qop b E M op = qop b E M' op := by
  cases op <;> first | rfl | (simp [noMem] at h)

theorem rechk_ok {b : Tb} {E : T CV} {M : T AObj} {ops : List Oper} : ∀ {l : List Oper}, rechk b E M ops l = true → ∀ o ∈ l, wantC E ops o = .off ∨ ∃ v, qop b E M o.op = some v ∧ ∀ d, o.dst = some d → E.get d = some v
  | [], _, o, ho => by cases ho
  | x :: l, h, o, ho => by
    simp only [rechk] at h
    cases hw : wantC E ops x with
    | off =>
      rw [hw] at h
      rcases List.mem_cons.1 ho with rfl | ho
      · exact .inl hw
      · exact rechk_ok h o ho
    | no => rw [hw] at h; cases h
    | yes =>
      rw [hw] at h
      simp only at h
      split at h
      · rename_i h1
        rcases List.mem_cons.1 ho with rfl | ho
        · right
          unfold rechk1 at h1
          rw [qopR_eq] at h1
          split at h1
          · cases h1
          · rename_i v hv
            refine ⟨v, hv, fun d hd => ?_⟩
            rw [hd] at h1
            simp only at h1
            split at h1
            · rename_i u hu; rw [hu, same_eq h1]
            · cases h1
        · exact rechk_ok h o ho
      · cases h

theorem getOps_ok {ops : List Oper} : ∀ {chk : List Nat} {l : List Oper}, getOps ops chk = some l → ∀ j ∈ chk, ∃ o, nth ops j = some o ∧ o ∈ l
  | [], _, _, j, hj => by cases hj
  | i :: chk, l, h, j, hj => by
    simp only [getOps] at h
    split at h
    · cases h
    · rename_i o ho
      split at h
      · cases h
      · rename_i l' hl
        injection h with h; subst h
        rcases List.mem_cons.1 hj with rfl | hj
        · exact ⟨o, ho, List.mem_cons_self ..⟩
        · obtain ⟨o2, h1, h2⟩ := getOps_ok hl j hj
          exact ⟨o2, h1, List.mem_cons_of_mem _ h2⟩

theorem erase_get {t : Nat} {v : CV} : ∀ {l : List Oper} {E : T CV}, (erase E l).get t = some v → E.get t = some v ∧ ∀ o ∈ l, o.dst ≠ some t
  | [], E, h => ⟨h, by simp⟩
  | o :: l, E, h => by
    simp only [erase] at h
    cases hd : o.dst with
    | none =>
      rw [hd] at h
      obtain ⟨h1, h2⟩ := erase_get h
      exact ⟨h1, fun x hx => by
        rcases List.mem_cons.1 hx with rfl | hx
        · rw [hd]; simp
        · exact h2 x hx⟩
    | some d =>
      rw [hd] at h
      obtain ⟨h1, h2⟩ := erase_get h
      rw [T.get_del] at h1
      split at h1
      · cases h1
      · rename_i hne
        exact ⟨h1, fun x hx => by
          rcases List.mem_cons.1 hx with rfl | hx
          · rw [hd]; exact fun e => hne (by injection e)
          · exact h2 x hx⟩

section c
variable {P : Program} {b : Tb} {w0 w : World} {S : Nat → Prop} {ro : Nat} {ops : Array Oper}
variable {r0 : Rl} {M0 : T AObj} {nx0 N : Nat} {base : List Deferred} {pre rest : List Nat} {pend : List (Nat × PK)} {listed : Array Bool} {r : Rl} {a : Act} {E : T CV} {M : T AObj} {nx i : Nat} {D : List (Nat ⊕ CDef)} {chk : List Nat} {o : Oper}

theorem isLp_ok {o : Option AObj} (h : isLp o = true) : ∃ st pe fn n E ps as bd d, o = some (.loop st pe fn n E ps as bd d) := by
  unfold isLp at h
  split at h
  · exact ⟨_, _, _, _, _, _, _, _, _, rfl⟩
  · cases h
theorem nop_noLp {b : Tb} {E : T CV} {op : Op} {nx : Nat} {c : CV} {ob : AObj} (h : nop b E op nx = some (c, ob)) {st : LS} {pe : Option Code} {fn n : Nat} {E' : T CV} {ps : List Nat} {as bd : Code} {d : Nat} : ob ≠ .loop st pe fn n E' ps as bd d := by
  intro e; subst e
  unfold nop at h
  repeat' split at h
  all_goals first | cases h | (simp only [Option.some.injEq, Prod.mk.injEq] at h; obtain ⟨_, h⟩ := h; cases h)

theorem StepR.later {ob : AObj} (h : StepR P w0 S ro r0 r M0 M nx0 nx w) (hro : ro ≤ nx0) : StepR P w0 S ro r0 r M0 (M.set nx ob) nx0 (Nat.succ nx) w := by
  have hm := h.mem
  have hn := hm.dom nx (Nat.le_refl _)
  have hle := h.nxle
  refine ⟨h.le, ⟨hm.fr, fun i bk o' h1 h2 => ?_, fun i j bk h1 h2 h3 h4 => ?_, fun i bk o' h1 h2 h3 => ?_, fun i hi => ⟨(hm.dom i (by omega)).1, ?_⟩⟩, Nat.le_succ_of_le h.nxle, fun j hj hsj => ?_, fun j hj hjn => ?_, fun j hj => ?_⟩
  · rw [T.get_set, if_neg (fun e => by subst e; rw [hn.1] at h1; cases h1)] at h2
    exact hm.ok i bk o' h1 h2
  · rw [T.get_set, if_neg (fun e => by subst e; rw [hn.1] at h1; cases h1)] at h3
    rw [T.get_set, if_neg (fun e => by subst e; rw [hn.1] at h2; cases h2)] at h4
    exact hm.inj i j bk h1 h2 h3 h4
  · rw [T.get_set, if_neg (fun e => by subst e; rw [hn.1] at h1; cases h1)] at h2
    exact hm.own i bk o' h1 h2 h3
  · rw [T.get_set, if_neg (by omega)]; exact (hm.dom i (by omega)).2
  · rw [T.get_set, if_neg (by omega)]; exact h.un j hj hsj
  · rw [T.get_set, if_neg (by omega)]; exact h.roq j hj hjn
  · rw [T.get_set, if_neg (by omega)]; exact h.lc j hj

theorem put_get {E : T CV} {d : Option Nat} {v : CV} {t : Nat} (h : d ≠ some t) : (put E d v).get t = E.get t := by
  cases d with
  | none => rfl
  | some d => simp only [CE.put, T.get_set]; rw [if_neg (fun e => h (by rw [e]))]
theorem put_get_self {E : T CV} {v : CV} {t : Nat} : (put E (some t) v).get t = some v := by simp only [CE.put, T.get_set, if_true]

/-- The evaluator goes ahead. -/
theorem Inv.adv (h : Inv P b w0 S ro ops r0 M0 nx0 base N pre (i :: rest) pend listed ⟨E, M, nx, D⟩ r a w) (hpl : Place b ops.toList pre i chk rest o) (ho : nth ops.toList i = some o) (hl : isLoud b o.op = false) {k : PK} {v : CV} {M' : T AObj} {nx' : Nat}
    (hM : Sub M M') (hnx : nx ≤ nx') (hst : StepR P w0 S ro r0 r M0 M' nx0 nx' w) (hids : ∀ q ∈ pend, ∀ x, q.2 = .n x → M'.get x = M.get x) (hnew : PendOk b ops.toList r nx0 nx' (put E o.dst v) M' i k) (hkid : ∀ q ∈ pend, ∀ x, q.2 = .n x → k ≠ .n x) :
    Inv P b w0 S ro ops r0 M0 nx0 base N (pre ++ [i]) rest (pend ++ [(i, k)]) listed ⟨put E o.dst v, M', nx', D⟩ r a w := by
  have hgi := gslot_some ho
  have hfresh := hpl.fresh hl
  have hself := hpl.self hl
  have hne : ∀ q ∈ pend, q.1 ≠ i := fun q hq e => hpl.new (e ▸ h.pp q hq)
  refine ⟨⟨hst, ?_, h.std.df, h.std.sz⟩, h.size, ?_, ?_, ?_, ?_, ?_, ?_, ?_, ?_, h.dc, ?_, ?_⟩
  · intro t c hc hx
    have hdt : o.dst ≠ some t := fun e => hx ⟨(i, k), List.mem_append_right _ (List.mem_singleton.2 rfl), by rw [hgi]; exact e⟩
    have hc : (put E o.dst v).get t = some c := hc
    rw [put_get hdt] at hc
    exact h.std.env t c hc fun ⟨q, hq, hg⟩ => hx ⟨q, List.mem_append_left _ hq, hg⟩
  · intro j hj
    rcases h.all j hj with h1 | h1
    · exact .inl (List.mem_append_left _ h1)
    · rcases List.mem_cons.1 h1 with rfl | h1
      · exact .inl (List.mem_append_right _ (List.mem_singleton.2 rfl))
      · exact .inr h1
  · have := h.topo
    rw [List.append_assoc]; exact this
  · intro j hj
    rw [h.lis j hj]
    simp only [List.map_append, List.map_cons, List.map_nil, List.mem_append, List.mem_singleton]
    constructor
    · rintro ⟨h1, h2⟩
      exact ⟨.inl h1, fun h3 => h3.elim h2 (fun e => hpl.new (e ▸ h1))⟩
    · rintro ⟨h1, h2⟩
      refine ⟨h1.elim id (fun e => absurd (Or.inr e) h2), fun h3 => h2 (.inl h3)⟩
  · intro j hj
    rcases List.mem_append.1 hj with hj | hj
    · exact h.lt j hj
    · rw [List.mem_singleton.1 hj]
      exact (Array.getElem?_eq_some_iff.1 (nth_ops.1 ho)).1
  · intro q hq
    rcases List.mem_append.1 hq with hq | hq
    · exact List.mem_append_left _ (h.pp q hq)
    · rw [List.mem_singleton.1 hq]; exact List.mem_append_right _ (List.mem_singleton.2 rfl)
  · rw [List.map_append, List.nodup_append]
    refine ⟨h.nd, by simp, ?_⟩
    intro x hx y hy e
    obtain ⟨q, hq, rfl⟩ := List.mem_map.1 hx
    simp only [List.map_cons, List.map_nil, List.mem_singleton] at hy
    exact hne q hq (e.trans hy)
  · intro q hq
    rcases List.mem_append.1 hq with hq | hq
    · refine (h.ok q hq).env (fun t ht => put_get fun hd => ?_) hM hnx (hids q hq)
      obtain ⟨g1, g2⟩ := hfresh q.1 (h.pp q hq) t (by rw [hgi]; exact hd)
      rcases ht with ht | ht
      · exact g1 ht
      · exact g2 ht
    · rw [List.mem_singleton.1 hq]; exact hnew
  · rw [List.pairwise_append]
    refine ⟨h.ids, List.pairwise_singleton _ _, ?_⟩
    intro q hq p hp x hx
    rw [List.mem_singleton.1 hp]
    exact hkid q hq x hx
  · intro p hp q hq d hd hlk
    rcases List.mem_append.1 hp with hp | hp <;> rcases List.mem_append.1 hq with hq | hq
    · exact h.data p hp q hq d hd hlk
    · rw [List.mem_singleton.1 hq] at hd
      exact absurd hlk (hfresh p.1 (h.pp p hp) d hd).1
    · rw [List.mem_singleton.1 hp] at hlk ⊢
      exact hpl.data q.1 (h.pp q hq) d hd (by rw [← looksN_some ho]; exact hlk)
    · rw [List.mem_singleton.1 hq] at hd
      rw [List.mem_singleton.1 hp] at hlk
      exact absurd (by rw [← looksN_some ho]; exact hlk) (hself d hd)
  · intro p hp q hq hpq d hd hd2
    rcases List.mem_append.1 hp with hp | hp <;> rcases List.mem_append.1 hq with hq | hq
    · exact h.over p hp q hq hpq d hd hd2
    · rw [List.mem_singleton.1 hq] at hd2
      exact (hfresh p.1 (h.pp p hp) d hd2).2 hd
    · rw [List.mem_singleton.1 hp] at hd
      exact (hfresh q.1 (h.pp q hq) d hd).2 hd2
    · rw [List.mem_singleton.1 hp, List.mem_singleton.1 hq] at hpq; exact hpq rfl

/-- A loud operation, in both. -/
theorem Inv.step (h : Inv P b w0 S ro ops r0 M0 nx0 base N pre (i :: rest) pend listed ⟨E, M, nx, D⟩ r a w) (hpl : Place b ops.toList pre i chk rest o) (ho : nth ops.toList i = some o) (hl : isLoud b o.op = true) (hr : i ∈ Region.ready .any ops listed) {c : CV} {u : Value} {M' : T AObj} {nx' : Nat} {D' : List (Nat ⊕ CDef)} {ds' : List Deferred} {r' : Rl} {w' : World} {l : List Oper}
    (hdst : ∀ t, o.dst = some t → t < N) (hu : Den r' c u) (hst : StepR P w0 S ro r r' M M' nx nx' w') (hD : DefR r' D' ds') (hc : rechk b (put E o.dst c) M' ops.toList l = true ∨ Sub M M') (hl2 : getOps ops.toList chk = some l) :
    Inv P b w0 S ro ops r0 M0 nx0 base N (pre ++ [i]) rest pend (listed.setIfInBounds i true) ⟨put E o.dst c, M', nx', D'⟩ r' (({ a with defers := ds' ++ base } : Act).put o.dst u) w' := by
  have hlt := h.ready_lt hr
  have hne : ∀ q ∈ pend, q.1 ≠ i := fun q hq e => hpl.new (e ▸ h.pp q hq)
  have hnb : ∀ q ∈ pend, ¬ Bef ops.toList q.1 i := by
    intro q hq hb
    obtain ⟨h1, h2⟩ := getD_f (ready_bef h.dc hr hb)
    exact ((h.lis q.1 (h.lt _ (h.pp q hq))).1 h2).2 (List.mem_map.2 ⟨q, hq, rfl⟩)
  have hslots : ∀ q ∈ pend, ∀ t, t ∈ looksN ops.toList q.1 ∨ gslot ops.toList q.1 = some t → (put E o.dst c).get t = E.get t := by
    intro q hq t ht
    refine put_get fun hd => hnb q hq (hpl.over hl q.1 (h.pp q hq) t (by rw [gslot_some ho]; exact hd) ht)
  refine ⟨⟨h.std.st.trans hst, ?_, ⟨ds', hD, by rw [put_defers]⟩, by rw [put_size]; exact h.std.sz⟩, by rw [Array.size_setIfInBounds]; exact h.size, ?_, ?_, ?_, ?_, ?_, h.nd, ?_, h.ids, dc_set h.dc hr hlt, h.data, h.over⟩
  · intro t v hv hx
    have hv : (put E o.dst c).get t = some v := hv
    by_cases hd : o.dst = some t
    · rw [hd, put_get_self] at hv
      injection hv with hv; subst hv
      rw [hd]
      simp only [Act.put, getD_set]
      rw [if_pos ⟨trivial, Nat.lt_of_lt_of_le (hdst t hd) h.std.sz⟩]
      exact hu
    · rw [put_get hd] at hv
      have h1 := (h.std.env t v hv hx).mono hst.le
      cases hdd : o.dst with
      | none => exact h1
      | some d =>
        simp only [Act.put, getD_set]
        rw [if_neg (fun e => hd (by rw [hdd, e.1]))]
        exact h1
  · intro j hj
    rcases h.all j hj with h1 | h1
    · exact .inl (List.mem_append_left _ h1)
    · rcases List.mem_cons.1 h1 with rfl | h1
      · exact .inl (List.mem_append_right _ (List.mem_singleton.2 rfl))
      · exact .inr h1
  · have := h.topo
    rw [List.append_assoc]; exact this
  · intro j hj
    rw [set_getD hlt]
    by_cases hij : i = j
    · subst hij
      simp only [if_true, true_iff]
      refine ⟨List.mem_append_right _ (List.mem_singleton.2 rfl), fun hm => ?_⟩
      obtain ⟨q, hq, e⟩ := List.mem_map.1 hm
      exact hne q hq e
    · rw [if_neg hij, h.lis j hj]
      simp only [List.mem_append, List.mem_singleton]
      constructor
      · rintro ⟨h1, h2⟩; exact ⟨.inl h1, h2⟩
      · rintro ⟨h1, h2⟩; exact ⟨h1.elim id (fun e => absurd e.symm hij), h2⟩
  · intro j hj
    rcases List.mem_append.1 hj with hj | hj
    · exact h.lt j hj
    · rw [List.mem_singleton.1 hj]
      exact (Array.getElem?_eq_some_iff.1 (nth_ops.1 ho)).1
  · intro q hq
    exact List.mem_append_left _ (h.pp q hq)
  · intro q hq
    obtain ⟨o2, g1, g2, g3⟩ := h.ok q hq
    have hsl := hslots q hq
    rw [looksN_some g1, gslot_some g1] at hsl
    have hw : wantC (put E o.dst c) ops.toList o2 = wantC E ops.toList o2 := wantC_congr fun t ht => hsl t (.inl ht)
    refine ⟨o2, g1, g2, ?_⟩
    cases hk : q.2 with
    | off => rw [hk] at g3; exact ⟨hw.trans g3.1, fun d hd => (hsl d (.inr hd)).trans (g3.2 d hd)⟩
    | n x =>
      rw [hk] at g3
      obtain ⟨k1, k2, Ep, c2, ob, k3, k4, k5, k6, k7, k8, k9⟩ := g3
      obtain ⟨e1, e2⟩ := hst.un x k6 k7
      refine ⟨hw.trans k1, k2, Ep, c2, ob, fun t ht => (k3 t ht).trans (hsl t (.inl (tmps_looks ht))).symm, k4, k5, Nat.lt_of_lt_of_le k6 hst.nxle, e1, ?_, fun d hd => (hsl d (.inr hd)).trans (k9 d hd)⟩
      rcases e2 with e2 | e2
      · rcases k8 with k8 | k8
        · exact .inl (e2.trans k8)
        · exact .inr (e2.trans k8)
      · rcases e2 with e2 | e2
        · exact .inr e2
        · obtain ⟨st, pe, fn, n, E9, ps, as, bd, d, e9⟩ := isLp_ok e2
          obtain ⟨st0, pe0, E0, e0⟩ := hst.lc x k6 st pe fn n E9 ps as bd d e9
          rcases k8 with k8 | k8
          · rw [k8] at e0; injection e0 with e0
            exact absurd e0 (nop_noLp k4)
          · rw [k8] at e0; cases e0
    | q =>
      rw [hk] at g3
      obtain ⟨k1, k2, Ep, Mp, v, k3, k4, k5, k6⟩ := g3
      rcases hc with hc | hc
      · obtain ⟨q2, m1, m2⟩ := hpl.chk hl q.1 (h.pp q hq)
        rw [g1] at m1; injection m1 with m1; subst m1
        have hnm : noMem o2.op = true ∨ q.1 ∈ chk := by
          rcases m2 with m2 | m2 | m2 | m2 | m2
          · rw [g2] at m2; cases m2
          · simp [isNew, kdR_eq, k2] at m2
          · exact .inl m2
          · exact absurd m2 (hnb q hq)
          · exact .inr m2
        rcases hnm with hnm | hnm
        · exact ⟨hw.trans k1, k2, Ep, M', v, fun t ht => (k3 t ht).trans (hsl t (.inl (tmps_looks ht))).symm, fun _ _ h => h, by rw [← qop_noMem (M := Mp) hnm]; exact k5, fun d hd => (hsl d (.inr hd)).trans (k6 d hd)⟩
        · obtain ⟨o3, n1, n2⟩ := getOps_ok hl2 q.1 hnm
          rw [g1] at n1; injection n1 with n1; subst n1
          rcases rechk_ok hc o2 n2 with n3 | ⟨v', n3, n4⟩
          · rw [hw, k1] at n3; cases n3
          · exact ⟨hw.trans k1, k2, put E o.dst c, M', v', fun _ _ => rfl, fun _ _ h => h, n3, n4⟩
      · exact ⟨hw.trans k1, k2, Ep, Mp, v, fun t ht => (k3 t ht).trans (hsl t (.inl (tmps_looks ht))).symm, fun i o h => hc i o (k4 i o h), k5, fun d hd => (hsl d (.inr hd)).trans (k6 d hd)⟩

/-! ## the whole -/
theorem first_ready : ∀ (is done : List Nat), Topo ops.toList done is → (∀ j ∈ done, listed.getD j false = true) → listed.size = ops.size → (∃ j ∈ is, listed.getD j true = false) → ∃ i, i ∈ Region.ready .any ops listed
  | [], _, _, _, _, ⟨j, hj, _⟩ => by cases hj
  | i :: is, done, ht, hd, hsz, hex => by
    obtain ⟨h1, ⟨o, ho, h2⟩, h3⟩ := ht
    cases hl : listed.getD i true with
    | false => exact ⟨i, ready_iff.2 ⟨hl, o, nth_ops.1 ho, fun e he => hd e (h2 e he)⟩⟩
    | true =>
      refine first_ready is (done ++ [i]) h3 (fun j hj => ?_) hsz ?_
      · rcases List.mem_append.1 hj with hj | hj
        · exact hd j hj
        · rw [List.mem_singleton.1 hj, getD_t (by rw [hsz]; exact (Array.getElem?_eq_some_iff.1 (nth_ops.1 ho)).1)]; exact hl
      · obtain ⟨j, hj, hf⟩ := hex
        rcases List.mem_cons.1 hj with rfl | hj
        · rw [hl] at hf; cases hf
        · exact ⟨j, hj, hf⟩
theorem topo_split {l : List Oper} : ∀ (A pre0 : List Nat) {i : Nat} {B : List Nat}, Topo l pre0 (A ++ i :: B) → i ∉ pre0 ++ A ∧ ∃ o, nth l i = some o
  | [], pre0, i, B, h => by simpa using ⟨h.1, let ⟨o, ho, _⟩ := h.2.1; ⟨o, ho⟩⟩
  | j :: A, pre0, i, B, h => by
    have := topo_split A (pre0 ++ [j]) h.2.2
    rw [List.append_assoc] at this
    exact this

theorem Inv.prog {s : St} (h : Inv P b w0 S ro ops r0 M0 nx0 base N pre rest pend listed s r a w) (hr : Region.ready .any ops listed = []) : pend = [] ∧ rest = [] := by
  have hno : ¬ ∃ j ∈ pre ++ rest, listed.getD j true = false := by
    intro hex
    obtain ⟨i, hi⟩ := first_ready _ [] h.topo (by simp) h.size hex
    rw [hr] at hi; cases hi
  constructor
  · cases pend with
    | nil => rfl
    | cons p pend =>
      exfalso
      refine hno ⟨p.1, List.mem_append_left _ (h.pp p (List.mem_cons_self ..)), ?_⟩
      cases hl : listed.getD p.1 true with
      | false => rfl
      | true => exact absurd (List.mem_cons_self ..) ((h.lis p.1 (h.lt _ (h.pp p (List.mem_cons_self ..)))).1 hl).2
  · cases rest with
    | nil => rfl
    | cons i rest =>
      exfalso
      obtain ⟨h1, o, ho⟩ := topo_split pre [] h.topo
      refine hno ⟨i, List.mem_append_right _ (List.mem_cons_self ..), ?_⟩
      cases hl : listed.getD i true with
      | false => rfl
      | true => exact absurd ((h.lis i (Array.getElem?_eq_some_iff.1 (nth_ops.1 ho)).1).1 hl).1 (by simpa using h1)
theorem Inv.none {s : St} (h : Inv P b w0 S ro ops r0 M0 nx0 base N pre [] [] listed s r a w) : Region.ready .any ops listed = [] := by
  cases hr : Region.ready .any ops listed with
  | nil => rfl
  | cons i l =>
    exfalso
    have hi : i ∈ Region.ready .any ops listed := by rw [hr]; exact List.mem_cons_self ..
    have hlt := h.ready_lt hi
    rw [h.size] at hlt
    have h1 := (h.lis i hlt).2 ⟨(h.all i hlt).resolve_right (by simp), by simp⟩
    rw [(ready_iff.1 hi).1] at h1
    cases h1

theorem Inv.drain (hT : TbOk P b) {l : Option Nat} {s : St} {Q : Exit → Act → World → Prop} (hN : ∀ o ∈ ops.toList, ∀ t, o.dst = some t → t < N)
    (hhead : ∀ pend listed r a w, Inv P b w0 S ro ops r0 M0 nx0 base N pre rest pend listed s r a w → ∀ i ∈ Region.ready .any ops listed, i ∉ pend.map (·.1) → ∃ R', rest.length = R' + 1 ∧ wpOpIn (Wf l) 0 P ops Q i (wpAnyIn (Wf l) 0 P .any ops Q (pend.length + R') (listed.setIfInBounds i true)) a w)
    (hdone : rest = [] → ∀ listed r a w, Inv P b w0 S ro ops r0 M0 nx0 base N pre rest [] listed s r a w → Q .normal a w) :
    ∀ (n : Nat) (pend : List (Nat × PK)) (listed : Array Bool) (r : Rl) (a : Act) (w : World), pend.length = n → Inv P b w0 S ro ops r0 M0 nx0 base N pre rest pend listed s r a w → wpAnyIn (Wf l) 0 P .any ops Q (n + rest.length) listed a w := by
  intro n
  induction n with
  | zero =>
    intro pend listed r a w hlen h
    have hp : pend = [] := List.eq_nil_of_length_eq_zero hlen
    subst hp
    cases hrl : rest.length with
    | zero =>
      have hre : rest = [] := List.eq_nil_of_length_eq_zero hrl
      exact ⟨by subst hre; exact h.none, hdone hre listed r a w h⟩
    | succ m =>
      refine ⟨fun hr => ?_, fun i hi => ?_⟩
      · have := (h.prog hr).2
        rw [this] at hrl; cases hrl
      · obtain ⟨R', h1, h2⟩ := hhead [] listed r a w h i hi (by simp)
        have : R' = m := by omega
        subst this
        exact h2
  | succ n ih =>
    intro pend listed r a w hlen h
    rw [Nat.succ_add]
    refine ⟨fun hr => ?_, fun i hi => ?_⟩
    · have := (h.prog hr).1
      rw [this] at hlen; cases hlen
    · by_cases hip : i ∈ pend.map (·.1)
      · obtain ⟨p, hp, rfl⟩ := List.mem_map.1 hip
        obtain ⟨A, B, rfl⟩ := List.append_of_mem hp
        refine h.discharge hT hi hN fun r' a' w' h' => ih (A ++ B) _ r' a' w' ?_ h'
        simp at hlen ⊢; omega
      · obtain ⟨R', h1, h2⟩ := hhead pend listed r a w h i hi hip
        rw [hlen] at h2
        have : n + rest.length = n + 1 + R' := by omega
        rw [this]; exact h2

theorem regP_ok (hT : TbOk P b) {C : Cl} (hC : ClOk P w0 S C) {l : Option Nat} {rd : Bool} (hrd : rd = l.isSome) {fn id : Nat} {x : CX} {s' : St} (hN : ∀ o ∈ ops.toList, ∀ t, o.dst = some t → t < N) (hro0 : ro ≤ nx0) :
    ∀ (rest : Plan) (pl : List (Oper × List Oper)) (pre : List Nat) (E : T CV) (M : T AObj) (nx : Nat) (D : List (Nat ⊕ CDef)), mkPl ops.toList rest = some pl → Places b ops.toList pre rest →
      regP b C rd ro fn id ops.toList pl E M nx D = .ok x s' → ∀ (pend : List (Nat × PK)) (listed : Array Bool) (r : Rl) (a : Act) (w : World), Inv P b w0 S ro ops r0 M0 nx0 base N pre (rest.map (·.1)) pend listed ⟨E, M, nx, D⟩ r a w →
      wpAnyIn (Wf l) 0 P .any ops (PostR P w0 S ro r0 M0 nx0 base N x s') (pend.length + rest.length) listed a w
  | [], pl, pre, E, M, nx, D, hpl, _, h, pend, listed, r, a, w, hi => by
    simp only [mkPl, Option.some.injEq] at hpl
    subst hpl
    simp only [regP] at h
    injection h with e1 e2
    subst e1 e2
    refine Inv.drain (rest := []) hT hN (fun pend listed r a w h i hr hn => ?_) (fun _ listed r a w h => ?_) _ pend listed r a w rfl hi
    · exfalso
      have hlt := h.ready_lt hr
      rw [h.size] at hlt
      have h1 := (h.lis i hlt).2 ⟨(h.all i hlt).resolve_right (by simp), hn⟩
      rw [(ready_iff.1 hr).1] at h1
      cases h1
    · exact ⟨r, rfl, h.std.st, fun t v hv _ => h.std.env t v hv (by simp), h.std.df, h.std.sz⟩
  | (i, chk) :: rest, pl, pre, E, M, nx, D, hpl, hps, h, pend, listed, r, a, w, hi => by
    cases hps with
    | @cons _ _ _ _ o ho hp hps =>
    simp only [mkPl] at hpl
    rw [ho] at hpl
    cases hgo : getOps ops.toList chk with
    | none => rw [hgo] at hpl; cases hpl
    | some lo =>
    rw [hgo] at hpl
    simp only at hpl
    cases hmk : mkPl ops.toList rest with
    | none => rw [hmk] at hpl; cases hpl
    | some pl' =>
    rw [hmk] at hpl
    injection hpl with hpl
    subst hpl
    simp only [regP] at h
    have hmem : o ∈ ops.toList := by simpa using Array.mem_of_getElem? (nth_ops.1 ho)
    have hdst := hN o hmem
    have ih := regP_ok (fn := fn) (id := id) (x := x) (s' := s') hT hC hrd hN hro0 rest pl' (pre ++ [i])
    cases hl : isLoud b o.op with
    | false =>
      have hnl := hl
      have hlen : ∀ k : PK, pend.length + ((i, chk) :: rest).length = (pend ++ [(i, k)]).length + rest.length := by intro k; simp; omega
      have hroN : ro ≤ nx := Nat.le_trans hro0 hi.std.st.nxle
      have hself := hp.self hl
      have hpself : ∀ (v : CV) (t : Nat), t ∈ looksC ops.toList o → (put E o.dst v).get t = E.get t := fun v t ht => put_get fun e => hself t (by rw [gslot_some ho]; exact e) ht
      cases hw : wantC E ops.toList o with
      | no => rw [hw] at h; simp [bad] at h
      | off =>
        rw [hw] at h
        rw [hlen .off]
        refine ih _ _ _ _ hmk hps h _ listed r a w (hi.adv hp ho hl (k := .off) (fun _ _ h => h) (Nat.le_refl _) hi.std.st (fun _ _ _ _ => rfl) ⟨o, ho, hl, ?_, ?_⟩ (fun _ _ _ _ e => by cases e))
        · rw [wantC_congr (hpself undefC)]; exact hw
        · intro d hd; rw [hd, put_get_self]
      | yes =>
        rw [hw] at h
        cases hop : opY b C rd ro E M nx D o.op with
        | bad => rw [hop] at h; simp [bad] at h
        | no => rw [hop] at h; simp at h
        | pan ch M' nx' =>
          exfalso
          unfold opY at hop
          unfold isLoud at hl
          rw [kdR_eq] at hop hl
          cases hk : kd b o.op with
          | q => rw [hk] at hop; simp only [oQ] at hop; split at hop <;> cases hop
          | n => rw [hk] at hop; simp only [oN] at hop; split at hop <;> cases hop
          | _ => rw [hk] at hl; cases hl
        | v c M' nx' D' =>
          rw [hop] at h
          simp only at h
          split at h
          · unfold opY at hop
            unfold isLoud at hl
            rw [kdR_eq] at hop hl
            cases hk : kd b o.op with
            | q =>
              rw [hk] at hop
              simp only [oQ, qopR_eq] at hop
              split at hop
              · rename_i v hv
                injection hop with e1 e2 e3 e4
                subst e1 e2 e3 e4
                rw [hlen .q]
                refine ih _ _ _ _ hmk hps h _ listed r a w (hi.adv hp ho hnl (k := .q) (fun _ _ h => h) (Nat.le_refl _) hi.std.st (fun _ _ _ _ => rfl) ⟨o, ho, hnl, ?_, hk, E, M, v, fun t ht => (hpself v t (tmps_looks ht)).symm, fun _ _ h => h, hv, fun d hd => by rw [hd, put_get_self]⟩ (fun _ _ _ _ e => by cases e))
                rw [wantC_congr (hpself v)]; exact hw
              · cases hop
            | n =>
              rw [hk] at hop
              simp only [oN] at hop
              split at hop
              · rename_i v ob hv
                injection hop with e1 e2 e3 e4
                subst e1 e2 e3 e4
                rw [hlen (.n nx)]
                have hm := hi.std.st.mem
                have hn := hm.dom nx (Nat.le_refl _)
                have hsub : Sub M (M.set nx ob) := fun j oj hj => by
                  rw [T.get_set, if_neg (fun e => by subst e; rw [hn.2] at hj; cases hj)]; exact hj
                have hidlt : ∀ q ∈ pend, ∀ y, q.2 = .n y → y < nx := by
                  intro q hq y hy
                  obtain ⟨_, _, _, g⟩ := hi.ok q hq
                  rw [hy] at g
                  obtain ⟨_, _, _, _, _, _, _, _, g, _⟩ := g
                  exact g
                refine ih _ _ _ _ hmk hps h _ listed r a w (hi.adv hp ho hnl (k := .n nx) hsub (Nat.le_succ _) (hi.std.st.later hro0) (fun q hq y hy => ?_) ⟨o, ho, hnl, ?_, hk, E, v, ob, fun t ht => (hpself v t (tmps_looks ht)).symm, hv, hi.std.st.nxle, Nat.lt_succ_self _, hn.1, .inl (by rw [T.get_set, if_pos rfl]), fun d hd => by rw [hd, put_get_self]⟩ (fun q hq y hy e => ?_))
                · have := hidlt q hq y hy
                  rw [T.get_set, if_neg (by omega)]
                · rw [wantC_congr (hpself v)]; exact hw
                · injection e with e
                  have := hidlt q hq y hy
                  omega
              · cases hop
            | _ => rw [hk] at hl; cases hl
          · simp [bad] at h
    | true =>
      refine Inv.drain (rest := i :: rest.map (·.1)) hT hN (fun pend listed r a w hi j hr hn => ?_) (fun e => by cases e) _ pend listed r a w rfl hi |> fun z => by simpa using z
      refine ⟨(rest.map (·.1)).length, by simp, ?_⟩
      have hji : j = i := by
        have hlt := hi.ready_lt hr
        rw [hi.size] at hlt
        have hlf := (ready_iff.1 hr).1
        rcases hi.all j hlt with h1 | h1
        · exfalso
          have := (hi.lis j hlt).2 ⟨h1, hn⟩
          rw [hlf] at this; cases this
        · rcases List.mem_cons.1 h1 with h1 | h1
          · exact h1
          · exfalso
            have hb := hp.rest hl j h1
            obtain ⟨g1, g2⟩ := getD_f (ready_bef hi.dc hr hb)
            rw [hi.size] at g1
            exact hp.new ((hi.lis i g1).1 g2).1
      subst hji
      have hX : ∀ t ∈ looksC ops.toList o, ¬ ∃ q ∈ pend, gslot ops.toList q.1 = some t := by
        rintro t ht ⟨q, hq, hd⟩
        have hb := hp.data q.1 (hi.pp q hq) t hd ht
        obtain ⟨h1, h2⟩ := getD_f (ready_bef hi.dc hr hb)
        exact ((hi.lis q.1 (hi.lt _ (hi.pp q hq))).1 h2).2 (List.mem_map.2 ⟨q, hq, rfl⟩)
      have hwc := wantC_ok (ops := ops) (o := o) hi.std.env hX
      have hρ : OpsR r E a.eval o.op.operands.toList := opsR_of hi.std.env fun t ht => hX t (tmps_looks ht)
      obtain ⟨ds, hD, hds⟩ := hi.std.df
      have hm := hi.std.st.mem
      have hroN : ro ≤ nx := Nat.le_trans hro0 hi.std.st.nxle
      have hself : ({ a with defers := ds ++ base } : Act) = a := by rw [← hds]
      unfold wpOpIn
      simp only [nth_ops.1 ho, List.length_map]
      cases hw : wantC E ops.toList o with
      | no => rw [hw] at h; simp [bad] at h
      | off =>
        rw [hw] at h
        simp only [hwc.2 hw, Bool.false_eq_true, if_false]
        refine ⟨fun _ _ => trivial, ?_⟩
        have := hi.step hp ho hl hr hdst (den_undef (r := r)) (StepR.refl hm) hD (.inr fun _ _ h => h) hgo
        rw [hself] at this
        exact ih _ _ _ _ hmk hps h _ _ _ _ _ this
      | yes =>
        rw [hw] at h
        simp only [hwc.1 hw, if_true]
        cases hop : opY b C rd ro E M nx D o.op with
        | bad => rw [hop] at h; simp [bad] at h
        | no => rw [hop] at h; simp at h
        | v c M' nx' D' =>
          rw [hop] at h
          simp only at h
          split at h
          · rename_i hck
            refine opY_ok hT hC hm hroN hrd hρ hD hds (by rw [hop]; rfl) ?_ (fun ch M2 nx2 chain w' r' h1 => by rw [hop] at h1; cases h1)
            intro c2 M2 nx2 D2 u w' r' ds' h1 h2 h3 h4
            rw [hop] at h1
            injection h1 with e1 e2 e3 e4
            subst e1 e2 e3 e4
            exact ih _ _ _ _ hmk hps h _ _ _ _ _ (hi.step hp ho hl hr hdst h2 h3 h4 (.inl hck) hgo)
          · simp [bad] at h
        | pan ch M' nx' =>
          rw [hop] at h
          injection h with e1 e2
          subst e1 e2
          refine opY_ok hT hC hm hroN hrd hρ hD hds (by rw [hop]; rfl) (fun c2 M2 nx2 D2 u w' r' ds' h1 => by rw [hop] at h1; cases h1) ?_
          intro ch2 M2 nx2 chain w' r' h1 h2 h3
          rw [hop] at h1
          injection h1 with e1 e2 e3
          subst e1 e2 e3
          refine ⟨r', ⟨chain, rfl, h2⟩, hi.std.st.trans h3, fun t v hv _ => ?_, ⟨ds, hD.mono h3.le, hds⟩, hi.std.sz⟩
          obtain ⟨g1, g2⟩ := erase_get hv
          refine (hi.std.env t v g1 ?_).mono h3.le
          rintro ⟨q, hq, hg⟩
          obtain ⟨o2, k1, _⟩ := hi.ok q hq
          rw [gslot_some k1] at hg
          exact g2 o2 (by simpa using Array.mem_of_getElem? (nth_ops.1 k1)) hg
end c
end Go.Proofs.YtaodejbcmaeaaaaGreat.CE
