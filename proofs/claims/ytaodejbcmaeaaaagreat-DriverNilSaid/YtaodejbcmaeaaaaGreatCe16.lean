/- The concrete evaluator: regions that draw their order. No statement of the seat is proved here. -/
import Derived.Test.YtaodejbcmaeaaaaGreatCe15
import Derived.OrdersIn
set_option linter.unusedVariables false
set_option linter.unusedSimpArgs false
namespace Go.Proofs.YtaodejbcmaeaaaaGreat.CE
open Go Go.RowKit
open Go.Proofs.YtaodejbcmaeaaaaGreat.Eng (Fr Pl pl TyI TyK Tab TabOk kix)

section c
variable {P : Program} {b : Tb} {w0 w : World} {S : Nat → Prop} {ro : Nat} {ops : Array Oper}

/-- The evaluator has done 'pre' of a plan; the model 'pre' less 'pend'. -/
structure Inv (P : Program) (b : Tb) (w0 : World) (S : Nat → Prop) (ro : Nat) (ops : Array Oper) (r0 : Rl) (M0 : T AObj) (nx0 : Nat) (base : List Deferred) (N : Nat) (pre : List Nat) (rest : List Nat) (pend : List (Nat × PK)) (listed : Array Bool) (s : St) (r : Rl) (a : Act) (w : World) : Prop where
  std : Std P w0 S ro r0 M0 nx0 base N (fun t => ∃ p ∈ pend, gslot ops.toList p.1 = some t) s r a w
  size : listed.size = ops.size
  all : ∀ i, i < ops.size → i ∈ pre ∨ i ∈ rest
  topo : Topo ops.toList [] (pre ++ rest)
  lis : ∀ i, i < ops.size → (listed.getD i true = true ↔ i ∈ pre ∧ i ∉ pend.map (·.1))
  lt : ∀ i ∈ pre, i < ops.size
  pp : ∀ p ∈ pend, p.1 ∈ pre
  nd : (pend.map (·.1)).Nodup
  ok : ∀ p ∈ pend, PendOk b ops.toList r nx0 s.nx s.E s.M p.1 p.2
  ids : pend.Pairwise fun p q => ∀ x, p.2 = .n x → q.2 ≠ .n x
  dc : ∀ i o, listed.getD i false = true → ops[i]? = some o → ∀ e ∈ aftC o, listed.getD e false = true
  data : ∀ p ∈ pend, ∀ q ∈ pend, ∀ d, gslot ops.toList q.1 = some d → d ∈ looksN ops.toList p.1 → Bef ops.toList q.1 p.1
  over : ∀ p ∈ pend, ∀ q ∈ pend, p.1 ≠ q.1 → ∀ d, gslot ops.toList p.1 = some d → gslot ops.toList q.1 ≠ some d

theorem nth_ops {i : Nat} {o : Oper} : nth ops.toList i = some o ↔ ops[i]? = some o := by rw [nth_eq, Array.getElem?_toList]
theorem getD_f {listed : Array Bool} {i : Nat} (h : listed.getD i false = true) : i < listed.size ∧ listed.getD i true = true := by
  rw [Array.getD_eq_getD_getElem?] at h ⊢
  cases hh : listed[i]? with
  | none => rw [hh] at h; cases h
  | some x =>
    rw [hh] at h
    exact ⟨(Array.getElem?_eq_some_iff.1 hh).1, by simpa using h⟩
theorem getD_t {listed : Array Bool} {i : Nat} (hlt : i < listed.size) : listed.getD i false = listed.getD i true := by
  simp [Array.getD_eq_getD_getElem?, hlt]

theorem aftC_mem {o : Oper} {e : Nat} : e ∈ aftC o ↔ ∃ x ∈ o.after, Region.binds .any x = true ∧ x.on = e := by
  unfold aftC
  simp only [List.mem_map, List.mem_filter, Array.mem_toList_iff]
  constructor
  · rintro ⟨x, ⟨h1, h2⟩, h3⟩; exact ⟨x, h1, h2, h3⟩
  · rintro ⟨x, h1, h2, h3⟩; exact ⟨x, ⟨h1, h2⟩, h3⟩
theorem ready_iff {i : Nat} {listed : Array Bool} : i ∈ Region.ready .any ops listed ↔ listed.getD i true = false ∧ ∃ o, ops[i]? = some o ∧ ∀ e ∈ aftC o, listed.getD e false = true := by
  rw [mem_ready]
  constructor
  · rintro ⟨h1, o, h2, h3⟩
    refine ⟨h1, o, h2, fun e he => ?_⟩
    obtain ⟨x, h4, h5, rfl⟩ := aftC_mem.1 he
    exact h3 x h4 h5
  · rintro ⟨h1, o, h2, h3⟩
    exact ⟨h1, o, h2, fun x h4 h5 => h3 x.on (aftC_mem.2 ⟨x, h4, h5, rfl⟩)⟩

theorem listed_bef {listed : Array Bool} (dc : ∀ i o, listed.getD i false = true → ops[i]? = some o → ∀ e ∈ aftC o, listed.getD e false = true) {i j : Nat} (hb : Bef ops.toList j i) : listed.getD i false = true → listed.getD j false = true := by
  induction hb with
  | one h hj => exact fun hi => dc _ _ hi (nth_ops.1 h) _ hj
  | more h he _ ih => exact fun hi => ih (dc _ _ hi (nth_ops.1 h) _ he)
theorem ready_bef {listed : Array Bool} (dc : ∀ i o, listed.getD i false = true → ops[i]? = some o → ∀ e ∈ aftC o, listed.getD e false = true) {i j : Nat} (hr : i ∈ Region.ready .any ops listed) (hb : Bef ops.toList j i) : listed.getD j false = true := by
  obtain ⟨_, o, ho, hall⟩ := ready_iff.1 hr
  cases hb with
  | one h hj => rw [nth_ops.1 h] at ho; cases ho; exact hall _ hj
  | more h he hb => rw [nth_ops.1 h] at ho; cases ho; exact listed_bef dc hb (hall _ he)

theorem set_getD {listed : Array Bool} {i j : Nat} {d : Bool} (hi : i < listed.size) : (listed.setIfInBounds i true).getD j d = if i = j then true else listed.getD j d := by
  by_cases h : i = j
  · subst h; simp [hi]
  · rw [if_neg h]; exact getD_set_ne d h

/-- One more of those done. -/
theorem dc_set {listed : Array Bool} (dc : ∀ i o, listed.getD i false = true → ops[i]? = some o → ∀ e ∈ aftC o, listed.getD e false = true) {i : Nat} (hr : i ∈ Region.ready .any ops listed) (hi : i < listed.size) :
    ∀ j o, (listed.setIfInBounds i true).getD j false = true → ops[j]? = some o → ∀ e ∈ aftC o, (listed.setIfInBounds i true).getD e false = true := by
  intro j o hj ho e he
  rw [set_getD hi] at hj ⊢
  split
  · rfl
  · split at hj
    · rename_i h; subst h
      obtain ⟨_, o', ho', hall⟩ := ready_iff.1 hr
      rw [ho] at ho'; cases ho'
      exact hall e he
    · exact dc j o hj ho e he

section
variable {r0 : Rl} {M0 : T AObj} {nx0 N : Nat} {base : List Deferred} {pre rest : List Nat} {A B pend : List (Nat × PK)} {p : Nat × PK} {listed : Array Bool} {s : St} {r : Rl} {a : Act}

/-- What a pending operation looks at is there, if it is ready. -/
theorem Inv.seen (h : Inv P b w0 S ro ops r0 M0 nx0 base N pre rest pend listed s r a w) (hp : p ∈ pend) (hr : p.1 ∈ Region.ready .any ops listed) {o : Oper} (ho : nth ops.toList p.1 = some o) :
    ∀ t ∈ looksC ops.toList o, ¬ ∃ q ∈ pend, gslot ops.toList q.1 = some t := by
  rintro t ht ⟨q, hq, hd⟩
  have hb := h.data p hp q hq t hd (by rw [looksN_some ho]; exact ht)
  obtain ⟨h1, h2⟩ := getD_f (ready_bef h.dc hr hb)
  have := (h.lis q.1 (h.lt _ (h.pp q hq))).1 h2
  exact this.2 (List.mem_map.2 ⟨q, hq, rfl⟩)

theorem Inv.ready_lt (h : Inv P b w0 S ro ops r0 M0 nx0 base N pre rest pend listed s r a w) {i : Nat} (hr : i ∈ Region.ready .any ops listed) : i < listed.size := by
  obtain ⟨_, o, ho, _⟩ := ready_iff.1 hr
  rw [h.size]; exact (Array.getElem?_eq_some_iff.1 ho).1

/-- A pending operation is done by the model, too. -/
theorem Inv.drop (h : Inv P b w0 S ro ops r0 M0 nx0 base N pre rest (A ++ p :: B) listed s r a w) (hr : p.1 ∈ Region.ready .any ops listed) {o : Oper} (ho : nth ops.toList p.1 = some o) {u : Value} {w' : World} {r' : Rl} (hle : r.le r') (hst : StepR P w0 S ro r0 r' M0 s.M nx0 s.nx w')
    (hdst : ∀ t, o.dst = some t → t < N) (hu : ∀ t v, o.dst = some t → s.E.get t = some v → Den r' v u) (hid : ∀ q ∈ A ++ B, ∀ x, q.2 = .n x → r'.σ x = none) :
    Inv P b w0 S ro ops r0 M0 nx0 base N pre rest (A ++ B) (listed.setIfInBounds p.1 true) s r' (a.put o.dst u) w' := by
  have hsub : ∀ q, q ∈ A ++ B → q ∈ A ++ p :: B := fun q hq => by
    rcases List.mem_append.1 hq with h | h
    · exact List.mem_append_left _ h
    · exact List.mem_append_right _ (List.mem_cons_of_mem _ h)
  have hlt := h.ready_lt hr
  have hnd := h.nd
  rw [List.map_append, List.map_cons] at hnd
  have hpn : p.1 ∉ (A ++ B).map (·.1) := by
    rw [List.map_append]
    have h1 := List.nodup_append.1 hnd
    have h2 := List.nodup_cons.1 h1.2.1
    intro hm
    rcases List.mem_append.1 hm with hm | hm
    · exact h1.2.2 _ hm _ (List.mem_cons_self ..) rfl
    · exact h2.1 hm
  have hsl : (A ++ B).Sublist (A ++ p :: B) := (List.Sublist.refl A).append (List.sublist_cons_self p B)
  refine ⟨⟨hst, ?_, ?_, by rw [put_size]; exact h.std.sz⟩, by rw [Array.size_setIfInBounds]; exact h.size, h.all, h.topo, ?_, h.lt, fun q hq => h.pp q (hsub q hq), ?_, ?_, h.ids.sublist hsl, dc_set h.dc hr hlt, fun q1 h1 q2 h2 => h.data q1 (hsub _ h1) q2 (hsub _ h2), fun q1 h1 q2 h2 => h.over q1 (hsub _ h1) q2 (hsub _ h2)⟩
  · intro t v hv hx
    cases hd : o.dst with
    | none =>
      have : ¬ ∃ q ∈ A ++ p :: B, gslot ops.toList q.1 = some t := by
        rintro ⟨q, hq, hg⟩
        rcases List.mem_append.1 hq with hq | hq
        · exact hx ⟨q, List.mem_append_left _ hq, hg⟩
        · rcases List.mem_cons.1 hq with rfl | hq
          · rw [gslot_some ho, hd] at hg; cases hg
          · exact hx ⟨q, List.mem_append_right _ hq, hg⟩
      simp only [Act.put]
      exact (h.std.env t v hv this).mono hle
    | some d =>
      simp only [Act.put, getD_set]
      by_cases hdt : d = t
      · subst hdt
        rw [if_pos ⟨rfl, Nat.lt_of_lt_of_le (hdst d hd) h.std.sz⟩]
        exact hu d v hd hv
      · rw [if_neg (fun hh => hdt hh.1)]
        have : ¬ ∃ q ∈ A ++ p :: B, gslot ops.toList q.1 = some t := by
          rintro ⟨q, hq, hg⟩
          rcases List.mem_append.1 hq with hq | hq
          · exact hx ⟨q, List.mem_append_left _ hq, hg⟩
          · rcases List.mem_cons.1 hq with rfl | hq
            · rw [gslot_some ho, hd] at hg; injection hg with hg; exact hdt hg
            · exact hx ⟨q, List.mem_append_right _ hq, hg⟩
        exact (h.std.env t v hv this).mono hle
  · rw [put_defers]
    obtain ⟨ds, h1, h2⟩ := h.std.df
    exact ⟨ds, h1.mono hle, h2⟩
  · intro i hi
    rw [set_getD hlt]
    by_cases hip : p.1 = i
    · subst hip
      simp only [if_true, true_iff]
      exact ⟨h.pp p (List.mem_append_right _ (List.mem_cons_self ..)), hpn⟩
    · rw [if_neg hip, h.lis i hi]
      simp only [List.map_append, List.map_cons, List.mem_append, List.mem_cons]
      constructor
      · rintro ⟨h1, h2⟩; exact ⟨h1, fun h3 => h2 (h3.elim .inl (fun h => .inr (.inr h)))⟩
      · rintro ⟨h1, h2⟩; exact ⟨h1, fun h3 => h3.elim (fun h => h2 (.inl h)) (fun h => h.elim (fun e => hip e.symm) (fun h => h2 (.inr h)))⟩
  · exact h.nd.sublist (hsl.map _)
  · intro q hq
    obtain ⟨o2, g1, g2, g3⟩ := h.ok q (hsub q hq)
    refine ⟨o2, g1, g2, ?_⟩
    cases hk : q.2 with
    | off => rw [hk] at g3; exact g3
    | q => rw [hk] at g3; exact g3
    | n x =>
      rw [hk] at g3
      obtain ⟨k1, k2, Ep, c, ob, k3, k4, k5, k6, k7, k8, k9⟩ := g3
      exact ⟨k1, k2, Ep, c, ob, k3, k4, k5, k6, hid q hq x hk, k8, k9⟩

theorem ev_congr {E E' : T CV} : ∀ {l : List Operand}, (∀ t ∈ tmpsOf l, E'.get t = E.get t) → ∀ x ∈ l, ev E' x = ev E x
  | [], _, x, hx => by cases hx
  | y :: l, h, x, hx => by
    cases x with
    | tmp t => exact h t (mem_tmpsOf hx)
    | const v => rfl
    | global g => rfl
    | func f => rfl
theorem opsR_congr {E E' : T CV} {ρ : Operand → Value} {l : List Operand} (h : OpsR r E ρ l) (he : ∀ t ∈ tmpsOf l, E'.get t = E.get t) : OpsR r E' ρ l := fun x hx v hv => h x hx v (by rw [← ev_congr he x hx]; exact hv)

theorem loud_defer {o : Oper} (h : isLoud b o.op = false) : ∀ c, o.op ≠ .defer c := fun c e => by rw [e] at h; simp [isLoud, kdR_eq, kd] at h

theorem Inv.discharge (hT : TbOk P b) {l : Option Nat} (h : Inv P b w0 S ro ops r0 M0 nx0 base N pre rest (A ++ p :: B) listed s r a w) (hr : p.1 ∈ Region.ready .any ops listed) (hN : ∀ o ∈ ops.toList, ∀ t, o.dst = some t → t < N) {Q : Exit → Act → World → Prop} {K : Act → World → Prop}
    (hK : ∀ r' a' w', Inv P b w0 S ro ops r0 M0 nx0 base N pre rest (A ++ B) (listed.setIfInBounds p.1 true) s r' a' w' → K a' w') : wpOpIn (Wf l) 0 P ops Q p.1 K a w := by
  have hp : p ∈ A ++ p :: B := List.mem_append_right _ (List.mem_cons_self ..)
  obtain ⟨o, ho, hl, hk⟩ := h.ok p hp
  have ho2 := nth_ops.1 ho
  have hmem : o ∈ ops.toList := by simpa using Array.mem_of_getElem? ho2
  have hX := h.seen hp hr ho
  have hw := wantC_ok (ops := ops) (o := o) h.std.env hX
  have hρ : OpsR r s.E a.eval o.op.operands.toList := opsR_of h.std.env fun t ht => hX t (tmps_looks ht)
  have hids : ∀ q ∈ A ++ B, ∀ x, q.2 = .n x → r.σ x = none := by
    intro q hq x hx
    have hq2 : q ∈ A ++ p :: B := by
      rcases List.mem_append.1 hq with h | h
      · exact List.mem_append_left _ h
      · exact List.mem_append_right _ (List.mem_cons_of_mem _ h)
    obtain ⟨_, _, _, g⟩ := h.ok q hq2
    rw [hx] at g
    obtain ⟨_, _, _, _, _, _, _, _, _, g, _⟩ := g
    exact g
  unfold wpOpIn
  simp only [ho2]
  have hm := h.std.st.mem
  cases hpk : p.2 with
  | off =>
    rw [hpk] at hk
    simp only [hw.2 hk.1, Bool.false_eq_true, if_false]
    exact ⟨fun _ _ => trivial, hK r _ w (h.drop hr ho (Rl.le_refl r) h.std.st (hN o hmem) (fun t v ht hv => by rw [hk.2 t ht] at hv; cases hv; exact den_undef) hids)⟩
  | q =>
    rw [hpk] at hk
    obtain ⟨k1, k2, Ep, Mp, v, k3, k4, k5, k6⟩ := hk
    simp only [hw.1 k1, if_true]
    refine ⟨fun _ _ => trivial, ?_⟩
    rw [semAt_nd (loud_defer hl)]
    obtain ⟨u, g1, g2⟩ := qop_ok (w := w) hT (hm.sub k4) (opsR_congr hρ k3) k5
    rw [g1]
    exact hK r _ w (h.drop hr ho (Rl.le_refl r) h.std.st (hN o hmem) (fun t v' ht hv => by rw [k6 t ht] at hv; cases hv; exact g2) hids)
  | n id =>
    rw [hpk] at hk
    obtain ⟨k1, k2, Ep, c, ob, k3, k4, k5, k6, k7, k8, k9⟩ := hk
    simp only [hw.1 k1, if_true]
    refine ⟨fun _ _ => trivial, ?_⟩
    rw [semAt_nd (loud_defer hl)]
    obtain ⟨u, w', cap, x, g1, g2, g3, g4, g5, g6, g7⟩ := nop_ok (w := w) hT k7 (opsR_congr hρ k3) k4
    rw [g1]
    have hle : r.le (r.add id w.heap.size cap) := Rl.le_add k7
    have hmem' : MemR P w0 S (r.add id w.heap.size cap) s.M s.nx w' := hm.real' k6 k7 (fun o' ho' => by
      rcases k8 with k8 | k8
      · rw [k8] at ho'; cases ho'; exact g3
      · rw [k8] at ho'; cases ho') g4 g5 g6 g7
    have hst : StepR P w0 S ro r0 (r.add id w.heap.size cap) M0 s.M nx0 s.nx w' := by
      refine ⟨Rl.le_trans h.std.st.le hle, hmem', h.std.st.nxle, fun j hj hsj => ?_, h.std.st.roq, h.std.st.lc⟩
      obtain ⟨e1, e2⟩ := h.std.st.un j hj hsj
      refine ⟨?_, e2⟩
      simp only [Rl.add]; rw [if_neg (by omega)]; exact e1
    refine hK _ _ w' (h.drop hr ho hle hst (hN o hmem) (fun t v' ht hv => by rw [k9 t ht] at hv; cases hv; exact g2) fun q hq y hy => ?_)
    have hne : y ≠ id := by
      intro e; subst e
      have hids := h.ids
      rw [List.pairwise_append] at hids
      rcases List.mem_append.1 hq with hq | hq
      · exact hids.2.2 q hq p (List.mem_cons_self ..) y hy hpk
      · exact (List.pairwise_cons.1 hids.2.1).1 q hq y hpk hy
    simp only [Rl.add]; rw [if_neg hne]; exact hids q hq y hy
end
end c
end Go.Proofs.YtaodejbcmaeaaaaGreat.CE
