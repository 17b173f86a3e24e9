/- The concrete evaluator: regions in the order of the text. No statement of the seat is proved here. -/
import Derived.Test.YtaodejbcmaeaaaaGreatCe13
set_option linter.unusedVariables false
set_option linter.unusedSimpArgs false
namespace Go.Proofs.YtaodejbcmaeaaaaGreat.CE
open Go Go.RowKit
open Go.Proofs.YtaodejbcmaeaaaaGreat.Eng (Fr Pl pl TyI TyK Tab TabOk kix)

section c
variable {P : Program} {b : Tb} {w0 w : World} {S : Nat → Prop} {r : Rl} {M : T AObj} {nx ro : Nat} {E : T CV} {ρ : Operand → Value}

/-- Slots, but for some. -/
def EnvX (r : Rl) (E : T CV) (X : Nat → Prop) (tmps : Array Value) : Prop := ∀ t v, E.get t = some v → ¬ X t → Den r v (tmps.getD t undef)
theorem EnvX.mono {r r' : Rl} (h : r.le r') {X : Nat → Prop} {a : Array Value} (he : EnvX r E X a) : EnvX r' E X a := fun t v hv hx => (he t v hv hx).mono h
theorem EnvX.all {a : Array Value} (h : EnvT r E a) (X : Nat → Prop) : EnvX r E X a := fun t v hv _ => h t v hv

theorem mem_tmpsOf {t : Nat} : ∀ {l : List Operand}, Operand.tmp t ∈ l → t ∈ tmpsOf l
  | [], h => by cases h
  | x :: l, h => by
    rcases List.mem_cons.1 h with e | h
    · subst e; simp [tmpsOf]
    · have := mem_tmpsOf h
      cases x <;> simp [tmpsOf, this]

theorem opsR_of {X : Nat → Prop} {a : Act} {l : List Operand} (he : EnvX r E X a.tmps) (hX : ∀ t ∈ tmpsOf l, ¬ X t) : OpsR r E a.eval l := by
  intro x hx v hv
  cases x with
  | tmp t => exact he t v hv (hX t (mem_tmpsOf hx))
  | const u => simp only [ev, Option.some.injEq] at hv; subst hv; exact den_ofVal r u
  | global g => simp [ev] at hv
  | func f => simp only [ev, Option.some.injEq] at hv; subst hv; simp only [Den]; exact ⟨_, [], [], rfl, by simp [DenL], by simp [DenL], rfl⟩

theorem getD_set {a : Array Value} {d t : Nat} {u : Value} : (a.setIfInBounds d u).getD t undef = if d = t ∧ d < a.size then u else a.getD t undef := by
  simp only [Array.getD_eq_getD_getElem?, Array.getElem?_setIfInBounds]
  by_cases h : d = t
  · subst h
    by_cases h2 : d < a.size
    · simp [h2]
    · simp [h2]
  · simp [h]

theorem put_size (a : Act) (d : Option Nat) (u : Value) : (a.put d u).tmps.size = a.tmps.size := by
  cases d <;> simp [Act.put]
theorem put_defers (a : Act) (d : Option Nat) (u : Value) : (a.put d u).defers = a.defers := by cases d <;> rfl
theorem EnvX.put {X : Nat → Prop} {a : Act} {d : Option Nat} {c : CV} {u : Value} {N : Nat} (he : EnvX r E X a.tmps) (hd : Den r c u) (hN : ∀ t, d = some t → t < N) (hsz : N ≤ a.tmps.size) : EnvX r (put E d c) X (a.put d u).tmps := by
  cases d with
  | none => exact he
  | some d =>
    intro t v hv hx
    have hlt := hN d rfl
    simp only [CE.put, T.get_set] at hv
    simp only [Act.put, getD_set]
    split at hv
    · rename_i e; subst e
      rw [if_pos ⟨rfl, by omega⟩]
      cases hv; exact hd
    · rename_i e
      rw [if_neg (fun h => e h.1)]
      exact he t v hv hx

theorem gslot_eq {ops : Array Oper} {j : Nat} : gslot ops.toList j = (ops[j]?).bind (·.dst) := by
  unfold gslot
  rw [nth_eq, Array.getElem?_toList]
  cases ops[j]? <;> rfl

/-- Whether an operation is wanted. -/
theorem wantC_ok {ops : Array Oper} {o : Oper} {X : Nat → Prop} {tmps : Array Value} (he : EnvX r E X tmps) (hX : ∀ t ∈ looksC ops.toList o, ¬ X t) :
    (wantC E ops.toList o = .yes → Region.wanted o (yielded ops tmps) = true) ∧ (wantC E ops.toList o = .off → Region.wanted o (yielded ops tmps) = false) := by
  unfold wantC Region.wanted
  cases hg : o.guard with
  | none => simp
  | some jw =>
    obtain ⟨j, wv⟩ := jw
    simp only
    rw [gslot_eq]
    unfold yielded
    cases hs : (ops[j]?).bind (·.dst) with
    | none => simp
    | some s =>
      simp only
      have hxs : ¬ X s := hX s (by unfold looksC; rw [hg]; simp only; rw [gslot_eq, hs]; simp)
      have key : ∀ v, E.get s = some v → Den r v (tmps.getD s undef) := fun v hv => he s v hv hxs
      have hget : ∀ u, u ≠ undef → tmps.getD s undef = u → tmps[s]? = some u := by
        intro u hu h
        rw [Array.getD_eq_getD_getElem?] at h
        cases hh : tmps[s]? with
        | none => rw [hh] at h; exact absurd h.symm hu
        | some x => rw [hh] at h; simp at h; rw [h]
      cases hv : E.get s with
      | none => simp
      | some v =>
        have hd := key v hv
        cases v with
        | bool c =>
          simp only [Den] at hd
          have := hget (.bool c) (by simp [undef]) hd
          simp only [Option.bind_some, this]
          rw [bB_eq]
          cases c <;> cases wv <;> simp
        | tup l =>
          cases l with
          | nil =>
            simp only [Den, DenL] at hd
            obtain ⟨us, rfl, hd⟩ := hd
            simp only [Option.bind_some]
            cases hh : tmps[s]? with
            | none => simp
            | some x =>
              rw [Array.getD_eq_getD_getElem?, hh] at hd
              simp at hd
              subst hd
              simp
          | cons _ _ => simp
        | _ => simp

/-! ## what a run comes to -/
def ExR (r : Rl) : CX → Exit → Prop
  | .nrm, e => e = .normal
  | .exit i, e => e = .exit i
  | .ret, e => e = .ret
  | .pan ch, e => ∃ chain, e = .panic chain ∧ ChR r ch chain
/-- Where a run stands that began with (r0, M0, nx0). -/
structure Std (P : Program) (w0 : World) (S : Nat → Prop) (ro : Nat) (r0 : Rl) (M0 : T AObj) (nx0 : Nat) (base : List Deferred) (N : Nat) (X : Nat → Prop) (s : St) (r : Rl) (a : Act) (w : World) : Prop where
  st : StepR P w0 S ro r0 r M0 s.M nx0 s.nx w
  env : EnvX r s.E X a.tmps
  df : ∃ ds, DefR r s.D ds ∧ a.defers = ds ++ base
  sz : N ≤ a.tmps.size
def noX : Nat → Prop := fun _ => False
def PostR (P : Program) (w0 : World) (S : Nat → Prop) (ro : Nat) (r0 : Rl) (M0 : T AObj) (nx0 : Nat) (base : List Deferred) (N : Nat) (x : CX) (s : St) (e : Exit) (a : Act) (w : World) : Prop :=
  ∃ r, ExR r x e ∧ Std P w0 S ro r0 M0 nx0 base N noX s r a w

theorem ckDst_ok {N : Nat} {o : Oper} (h : ckDst N o = true) : ∀ t, o.dst = some t → t < N := by
  intro t ht
  unfold ckDst at h
  rw [ht] at h
  exact blt_t h

theorem regL_ok (hT : TbOk P b) {C : Cl} (hC : ClOk P w0 S C) {l : Option Nat} {rd : Bool} (hrd : rd = l.isSome) {fn id : Nat} {ops : Array Oper} {x : CX} {s' : St} {r0 : Rl} {M0 : T AObj} {nx0 N : Nat} {base : List Deferred} (hN : ∀ o ∈ ops.toList, ∀ t, o.dst = some t → t < N) (hro0 : ro ≤ nx0) :
    ∀ (os : List Oper) (is : List Nat) (E : T CV) (M : T AObj) (nx : Nat) (D : List (Nat ⊕ CDef)) (r : Rl) (a : Act) (w : World), is.map (ops[·]?) = os.map some →
      regL b C rd ro fn id ops.toList os E M nx D = .ok x s' → Std P w0 S ro r0 M0 nx0 base N noX ⟨E, M, nx, D⟩ r a w →
      wpOpsIn (Wf l) 0 P ops (PostR P w0 S ro r0 M0 nx0 base N x s') is a w
  | [], [], E, M, nx, D, r, a, w, _, h, hs => by
    simp only [regL] at h
    injection h with e1 e2
    subst e1 e2
    exact ⟨r, rfl, hs⟩
  | [], i :: is, E, M, nx, D, r, a, w, hi, h, hs => by simp at hi
  | o :: os, [], E, M, nx, D, r, a, w, hi, h, hs => by simp at hi
  | o :: os, i :: is, E, M, nx, D, r, a, w, hi, h, hs => by
    simp only [List.map_cons, List.cons.injEq] at hi
    obtain ⟨hi, his⟩ := hi
    have hmem : o ∈ ops.toList := by
      have := Array.mem_of_getElem? hi
      simpa using this
    have hdst := hN o hmem
    have hm := hs.st.mem
    have hro : ro ≤ nx := Nat.le_trans hro0 hs.st.nxle
    have hw := wantC_ok (ops := ops) (o := o) hs.env (fun _ _ h => h)
    simp only [wpOpsIn, hi]
    simp only [regL] at h
    cases hwc : wantC E ops.toList o with
    | no => rw [hwc] at h; simp [bad] at h
    | off =>
      rw [hwc] at h
      simp only [hw.2 hwc, Bool.false_eq_true, if_false]
      refine ⟨fun _ _ => trivial, ?_⟩
      refine regL_ok hT hC hrd hN hro0 os is _ M nx D r _ w his h ⟨hs.st, hs.env.put den_undef hdst hs.sz, ?_, by rw [put_size]; exact hs.sz⟩
      rw [put_defers]; exact hs.df
    | yes =>
      rw [hwc] at h
      simp only [hw.1 hwc, if_true]
      obtain ⟨ds, hD, hds⟩ := hs.df
      have hρ : OpsR r E a.eval o.op.operands.toList := opsR_of hs.env (fun _ _ h => h)
      cases hop : opY b C rd ro E M nx D o.op with
      | bad => rw [hop] at h; simp [bad] at h
      | no => rw [hop] at h; simp at h
      | v c M' nx' D' =>
        rw [hop] at h
        refine opY_ok hT hC hm hro hrd hρ hD hds (by rw [hop]; rfl) ?_ (fun ch M2 nx2 chain w' r' h1 => by rw [hop] at h1; cases h1)
        intro c2 M2 nx2 D2 u w' r' ds' h1 h2 h3 h4
        rw [hop] at h1
        injection h1 with e1 e2 e3 e4
        subst e1 e2 e3 e4
        refine regL_ok hT hC hrd hN hro0 os is _ M' nx' D' r' _ w' his h ⟨hs.st.trans h3, ?_, ⟨ds', h4, by rw [put_defers]⟩, by rw [put_size]; exact hs.sz⟩
        exact EnvX.put (a := { a with defers := ds' ++ base }) (hs.env.mono h3.le) h2 hdst hs.sz
      | pan ch M' nx' =>
        rw [hop] at h
        injection h with e1 e2
        subst e1 e2
        refine opY_ok hT hC hm hro hrd hρ hD hds (by rw [hop]; rfl) (fun c2 M2 nx2 D2 u w' r' ds' h1 => by rw [hop] at h1; cases h1) ?_
        intro ch2 M2 nx2 chain w' r' h1 h2 h3
        rw [hop] at h1
        injection h1 with e1 e2 e3
        subst e1 e2 e3
        exact ⟨r', ⟨chain, rfl, h2⟩, hs.st.trans h3, hs.env.mono h3.le, ⟨ds, hD.mono h3.le, hds⟩, hs.sz⟩
end c
end Go.Proofs.YtaodejbcmaeaaaaGreat.CE
