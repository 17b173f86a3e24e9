/- The concrete evaluator: one operation of a region, calls and all. No statement of the seat is proved here. -/
import Derived.Test.YtaodejbcmaeaaaaGreatCe12
import Derived.RangeFuncLeaves
set_option linter.unusedVariables false
set_option linter.unusedSimpArgs false
namespace Go.Proofs.YtaodejbcmaeaaaaGreat.CE
open Go Go.RowKit
open Go.Proofs.YtaodejbcmaeaaaaGreat.Eng (Fr Pl pl TyI TyK Tab TabOk kix)

theorem qopR_eq (b : Tb) (E : T CV) (M : T AObj) (op : Op) : qopR op b E M = qop b E M op := by
  cases op with
  | call c =>
    obtain ⟨callee, args, tys⟩ := c
    cases callee with
    | builtin bi => cases bi <;> rfl
    | _ => rfl
  | _ => rfl
theorem lopR_eq (b : Tb) (ro : Nat) (E : T CV) (M : T AObj) (nx : Nat) (op : Op) : lopR op b ro E M nx = lop b ro E M nx op := by
  cases op with
  | call c =>
    obtain ⟨callee, args, tys⟩ := c
    cases callee with
    | builtin bi => cases bi <;> rfl
    | _ => rfl
  | _ => rfl
theorem kdR_eq (b : Tb) (op : Op) : kdR op b = kd b op := by
  cases op with
  | call c =>
    obtain ⟨callee, args, tys⟩ := c
    cases callee with
    | builtin bi => cases bi <;> rfl
    | _ => rfl
  | _ => rfl

/-- The fence: none, but for the round. -/
abbrev Wf (l : Option Nat) : Fence := { fn := fun _ => True, depth := none, alive := false, round := l }

section c
variable {P : Program} {b : Tb} {w0 w : World} {S : Nat → Prop} {r : Rl} {M : T AObj} {nx ro : Nat} {E : T CV} {ρ : Operand → Value}

/-- A chain of panics. -/
def ChR (r : Rl) : List (CV × Bool) → List PanicEntry → Prop
  | [], ch => ch = []
  | (v, d) :: l, ch => ∃ u ur, Den r v u ∧ ChR r l ur ∧ ch = { v := u, recovered := d } :: ur
theorem ChR.mono {r r' : Rl} (h : r.le r') : ∀ {l : List (CV × Bool)} {ch : List PanicEntry}, ChR r l ch → ChR r' l ch
  | [], _, hd => hd
  | (_, _) :: _, _, hd => by obtain ⟨u, ur, h1, h2, e⟩ := hd; exact ⟨u, ur, h1.mono h, ChR.mono h h2, e⟩
/-- Deferred calls. -/
def DefR (r : Rl) : List (Nat ⊕ CDef) → List Deferred → Prop
  | [], ds => ds = []
  | .inl i :: D, ds => ∃ bk dr, r.σ i = some bk ∧ DefR r D dr ∧ ds = { target := .collected bk, args := #[] } :: dr
  | .inr d :: D, ds => ∃ us cs dr, DenL r d.args (us ++ cs) ∧ DefR r D dr ∧ ds = { target := .fn (.func d.fn) cs.toArray, args := us.toArray } :: dr
theorem DefR.mono {r r' : Rl} (h : r.le r') : ∀ {D : List (Nat ⊕ CDef)} {ds : List Deferred}, DefR r D ds → DefR r' D ds
  | [], _, hd => hd
  | .inl i :: _, _, hd => by obtain ⟨bk, dr, h1, h2, e⟩ := hd; exact ⟨bk, dr, (h i bk h1).1, DefR.mono h h2, e⟩
  | .inr _ :: _, _, hd => by obtain ⟨us, cs, dr, h1, h2, e⟩ := hd; exact ⟨us, cs, dr, h1.mono h, DefR.mono h h2, e⟩

/-- What a call comes to, in the model. -/
def RCP (P : Program) (w0 : World) (S : Nat → Prop) (ro : Nat) (r : Rl) (M : T AObj) (nx : Nat) (rc : RC) (e : Ending) (w' : World) : Prop := match rc with
  | .ret v M' nx' => ∃ u r', e = .returned u ∧ Den r' v u ∧ StepR P w0 S ro r r' M M' nx nx' w'
  | .pan ch M' nx' => ∃ chain r', e = .panicked chain ∧ ChR r' ch chain ∧ StepR P w0 S ro r r' M M' nx nx' w'
  | .no .. => False
def RC.isNo : RC → Bool
  | .no .. => true
  | _ => false
/-- A function is called: it has a body, or is carried out at once. -/
def FnDoes (P : Program) (g : Nat) (us : Array Value) (w : World) (R : Ending → World → Prop) : Prop :=
  ((callFunc g us).run P w = .ok (.enter g us) w ∧ CallsIn (Wf none) 0 P g us w R) ∨ ∃ u w', (callFunc g us).run P w = .ok (.value u) w' ∧ R (.returned u) w'
structure ClOk (P : Program) (w0 : World) (S : Nat → Prop) (C : Cl) : Prop where
  call : ∀ ro g as M nx r w us, MemR P w0 S r M nx w → DenL r as us → ro ≤ nx → (C.call ro g as M nx).isNo = false → FnDoes P g us.toArray w (RCP P w0 S ro r M nx (C.call ro g as M nx))
  yield : ∀ ro j as M nx r w us bk, MemR P w0 S r M nx w → DenL r as us → r.σ j = some bk → ro ≤ nx → (C.yield ro j as M nx).isNo = false →
    ∃ f tmps assign body, (Instr.yield bk us.toArray).run P w = .ok (.round bk f tmps assign body) w ∧ RoundIn (Wf none) 0 P bk f tmps assign body w (RCP P w0 S ro r M nx (C.yield ro j as M nx))

theorem prog_run : (program : Sem Program).run P w = .ok P w := rfl
theorem mtd_ok (hT : TbOk P b) (hm : MemR P w0 S r M nx w) {t g : Nat} {v : CV} {m : String} {as as' : List CV} (h : mtd b M t v m as = .fn g as') {vu : Value} {us : List Value} (hv : Den r v vu) (has : DenL r as us) :
    ∃ us', DenL r as' us' ∧ (callMethod (.iface t vu) m us.toArray).run P w = (callFunc g us'.toArray).run P w := by
  unfold mtd at h
  split at h
  · rename_i g' hmd
    injection h with e1 e2
    subst e1 e2
    have hk := hT.md _ _ _ _ hmd vu w
    simp only at hk
    refine ⟨vu :: us, DenL.cons hv has, ?_⟩
    simp only [callMethod, Sem.run_bind, prog_run, Result.andThen_ok, hk]
    congr 2
    apply Array.toList_inj.1
    simp
  · rename_i g' e hmd
    split at h
    · rename_i u hl
      injection h with e1 e2
      subst e1 e2
      obtain ⟨z, h3, h4⟩ := loadC_ok hT hm hl hv
      have hk := hT.md _ _ _ _ hmd vu w
      simp only at hk
      obtain ⟨a, rfl⟩ : ∃ a, vu = .pointer (some a) := by
        unfold loadC at hl
        split at hl
        · simp only [Den] at hv
          obtain ⟨bk, _, rfl⟩ := hv
          exact ⟨_, rfl⟩
        · cases hl
      have hld : (loadVar e a).run P w = .ok z w := by simpa [Instr.loadAt, Instr.sureAddr, asAddr] using h3
      have hk := hk a z rfl hld
      refine ⟨z :: us, DenL.cons h4 has, ?_⟩
      simp only [callMethod, Sem.run_bind, prog_run, Result.andThen_ok, hk]
      congr 2
      apply Array.toList_inj.1
      simp
    · cases h
  · cases h
theorem mtdI_ok (hT : TbOk P b) (hm : MemR P w0 S r M nx w) {g : Nat} {m : String} {l as' : List CV} (h : mtdI b M m l = .fn g as') {us : List Value} (has : DenL r l us) :
    ∃ us' ru rest, us = ru :: rest ∧ DenL r as' us' ∧ (callMethod ru m rest.toArray).run P w = (callFunc g us'.toArray).run P w := by
  unfold mtdI at h
  split at h
  · rename_i t v as
    simp only [DenL] at has
    obtain ⟨u, ur, h1, h2, rfl⟩ := has
    simp only [Den] at h1
    obtain ⟨vu, h1, rfl⟩ := h1
    obtain ⟨us', k1, k2⟩ := mtd_ok hT hm h h1 h2
    exact ⟨us', _, _, rfl, k1, k2⟩
  · cases h
theorem mtdI_y {M : T AObj} {m : String} {l as' : List CV} {j : Nat} : mtdI b M m l ≠ .yield j as' := by
  unfold mtdI mtd
  repeat' split
  all_goals (intro h; cases h)
theorem mtdT_y {M : T AObj} {t : Nat} {m : String} {l as' : List CV} {j : Nat} : mtdT b M t m l ≠ .yield j as' := by
  unfold mtdT
  split
  · split
    · exact mtdI_y
    · intro h; cases h
    · unfold mtd
      repeat' split
      all_goals (intro h; cases h)
    · intro h; cases h
  · intro h; cases h
theorem cons_extract (x : Value) (l : List Value) : (x :: l).toArray.extract 1 (x :: l).toArray.size = l.toArray := by
  apply Array.toList_inj.1
  simp
theorem invoke_m (recv : Value) (m : String) (l : List Value) (cs : Array Value) : (invoke (.fn (.method m) cs) (recv :: l).toArray).run P w = (callMethod recv m l.toArray).run P w := by
  simp only [invoke, List.getElem?_toArray, List.getElem?_cons_zero, cons_extract]
theorem tgt_fn (hT : TbOk P b) (hm : MemR P w0 S r M nx w) {c : Call} {ty : TypeId} {g : Nat} {as : List CV} (hρ : OpsR r E ρ c.operands.toList) (h : tgt b E M c = .fn g as) : ∃ us : List Value, DenL r as us ∧ (do let d ← resolve ρ c ty; invoke d.target d.args : Sem Next).run P w = (callFunc g us.toArray).run P w := by
  obtain ⟨callee, args, tys⟩ := c
  cases callee with
  | value f =>
    simp only [tgt] at h
    have hf := fun v => hρ f (by simp [Call.operands]) v
    have hargs : OpsR r E ρ args.toList := fun y hy => hρ y (by simp [Call.operands]; right; simpa using hy)
    have hmap : ∀ fs' : List Value, fs'.toArray ++ args.map ρ = (fs' ++ args.toList.map ρ).toArray := fun fs' => by
      apply Array.toList_inj.1
      simp
    split at h
    · rename_i g' fs cs as' hev hevs
      injection h with e1 e2
      subst e1 e2
      have hd := hf _ hev
      simp only [Den] at hd
      obtain ⟨g2, fs', cs', hg, h1, h2, hu⟩ := hd
      have hg : g2 = .func g' := hg
      subst hg
      have h3 := evs_ok hargs hevs
      refine ⟨fs' ++ args.toList.map ρ ++ cs', (h1.append h3).append h2, ?_⟩
      simp only [resolve, hu, Deferred.ofValue, Sem.run_bind, Sem.run_pure, Result.andThen_ok, invoke]
      congr 2
      apply Array.toList_inj.1
      simp
    · cases h
    · rename_i m fs cs as' hev hevs
      have hd := hf _ hev
      simp only [Den] at hd
      obtain ⟨g2, fs', cs', hg, h1, h2, hu⟩ := hd
      have hg : g2 = .method m := hg
      subst hg
      have h3 := evs_ok hargs hevs
      obtain ⟨us', ru, rest, e1, k1, k2⟩ := mtdI_ok hT hm h (h1.append h3)
      refine ⟨us', k1, ?_⟩
      simp only [resolve, hu, Deferred.ofValue, Sem.run_bind, Sem.run_pure, Result.andThen_ok]
      rw [hmap, e1, invoke_m]
      exact k2
    · rename_i t m fs cs as' hev hevs
      have hd := hf _ hev
      simp only [Den] at hd
      obtain ⟨g2, fs', cs', hg, h1, h2, hu⟩ := hd
      have hg : g2 = .methodOf t m := hg
      subst hg
      have h3 := evs_ok hargs hevs
      have hall := h1.append h3
      generalize hl : fs ++ as' = l at h hall
      generalize hul : fs' ++ args.toList.map ρ = ul at hall
      have hrun : (do let d ← resolve ρ ⟨.value f, args, tys⟩ ty; invoke d.target d.args : Sem Next).run P w = (invoke (.fn (.methodOf t m) cs'.toArray) ul.toArray).run P w := by
        simp only [resolve, hu, Deferred.ofValue, Sem.run_bind, Sem.run_pure, Result.andThen_ok]
        rw [hmap, hul]
      unfold mtdT at h
      split at h
      · rename_i v as2
        simp only [DenL] at hall
        obtain ⟨vu, ur, g1, g2, rfl⟩ := hall
        split at h
        · rename_i hti
          obtain ⟨ms, hui⟩ := (hT.ty _ _ hti).iface rfl
          obtain ⟨us', ru, rest, e1, k1, k2⟩ := mtdI_ok hT hm h (DenL.cons g1 g2)
          injection e1 with e1 e2
          subst e1 e2
          refine ⟨us', k1, ?_⟩
          rw [hrun]
          simp only [invoke, List.getElem?_toArray, List.getElem?_cons_zero, cons_extract, Sem.run_bind, run_underlying hui, Result.andThen_ok]
          exact k2
        · cases h
        · rename_i ti hni hnp hti
          obtain ⟨us', k1, k2⟩ := mtd_ok hT hm h g1 g2
          refine ⟨us', k1, ?_⟩
          rw [hrun]
          obtain ⟨d, hud, hnd⟩ := (hT.ty _ _ hti).notIface (fun e => by obtain ⟨k, n1, n2, z, eq⟩ := ti; cases e; exact hni _ _ _ _ rfl) (fun e => by obtain ⟨k, n1, n2, z, eq⟩ := ti; cases e; exact hnp _ _ _ _ rfl)
          simp only [invoke, List.getElem?_toArray, List.getElem?_cons_zero, cons_extract, Sem.run_bind, run_underlying hud, Result.andThen_ok]
          cases d <;> first | exact k2 | exact absurd rfl (hnd _)
        · cases h
      · cases h
    · cases h
  | invoke rc m =>
    simp only [tgt] at h
    have hf := fun v => hρ rc (by simp [Call.operands]) v
    have hargs : OpsR r E ρ args.toList := fun y hy => hρ y (by simp [Call.operands]; right; simpa using hy)
    split at h
    · rename_i v as' hev hevs
      have hd := hf _ hev
      have h3 := evs_ok hargs hevs
      obtain ⟨us', ru, rest, e1, k1, k2⟩ := mtdI_ok hT hm h (DenL.cons hd h3)
      injection e1 with e1 e2
      subst e1 e2
      refine ⟨us', k1, ?_⟩
      have e : (#[ρ rc] ++ args.map ρ : Array Value) = (ρ rc :: args.toList.map ρ).toArray := by
        apply Array.toList_inj.1
        simp
      simp only [resolve, Sem.run_bind, Sem.run_pure, Result.andThen_ok]
      rw [e, invoke_m]
      exact k2
    · cases h
  | _ => simp [tgt] at h
theorem tgt_yield {c : Call} {ty : TypeId} {j : Nat} {as : List CV} (hρ : OpsR r E ρ c.operands.toList) (h : tgt b E M c = .yield j as) : ∃ (us : List Value) (bk : Nat), r.σ j = some bk ∧ DenL r as us ∧ (do let d ← resolve ρ c ty; invoke d.target d.args : Sem Next).run P w = (Instr.yield bk us.toArray).run P w := by
  obtain ⟨callee, args, tys⟩ := c
  cases callee with
  | value f =>
    simp only [tgt] at h
    have hf := fun v => hρ f (by simp [Call.operands]) v
    have hargs : OpsR r E ρ args.toList := fun y hy => hρ y (by simp [Call.operands]; right; simpa using hy)
    split at h
    · cases h
    · rename_i j' as' hev hevs
      injection h with e1 e2
      subst e1 e2
      have hd := hf _ hev
      simp only [Den] at hd
      obtain ⟨g2, fs', cs', ⟨bk, hbk, hg⟩, h1, h2, hu⟩ := hd
      simp only [DenL] at h1 h2
      subst hg h1 h2
      have h3 := evs_ok hargs hevs
      refine ⟨args.toList.map ρ, bk, hbk, h3, ?_⟩
      simp only [resolve, hu, Deferred.ofValue, Sem.run_bind, Sem.run_pure, Result.andThen_ok, invoke]
      congr 2
      apply Array.toList_inj.1
      simp
    · exact absurd h mtdI_y
    · exact absurd h mtdT_y
    · cases h
  | invoke rc m =>
    simp only [tgt] at h
    split at h
    · exact absurd h mtdI_y
    · cases h
  | _ => simp [tgt] at h

def OR.good : OR → Bool
  | .v .. => true
  | .pan .. => true
  | _ => false

theorem semAt_nd {l : Option Nat} {o : Oper} (h : ∀ c, o.op ≠ .defer c) : Oper.semAt l ρ o = execOp ρ o := Oper.semAt_eq l ρ o h

/-- An operation that is wanted. -/
theorem opY_ok (hT : TbOk P b) {C : Cl} (hC : ClOk P w0 S C) (hm : MemR P w0 S r M nx w) (hro : ro ≤ nx) {l : Option Nat} {rd : Bool} (hrd : rd = l.isSome) {a : Act} {o : Oper} {D : List (Nat ⊕ CDef)} {ds base : List Deferred} {next : Act → World → Prop} {Q : Exit → Act → World → Prop}
    (hρ : OpsR r E a.eval o.op.operands.toList) (hD : DefR r D ds) (hds : a.defers = ds ++ base) (hg : (opY b C rd ro E M nx D o.op).good = true)
    (hnext : ∀ c M' nx' D' u w' r' ds', opY b C rd ro E M nx D o.op = .v c M' nx' D' → Den r' c u → StepR P w0 S ro r r' M M' nx nx' w' → DefR r' D' ds' → next ({ a with defers := ds' ++ base }.put o.dst u) w')
    (hpan : ∀ ch M' nx' chain w' r', opY b C rd ro E M nx D o.op = .pan ch M' nx' → ChR r' ch chain → StepR P w0 S ro r r' M M' nx nx' w' → Q (.panic chain) a w') :
    o.wpIn (Wf l) 0 P a w next Q := by
  have hself : ({ a with defers := ds ++ base } : Act) = a := by rw [← hds]
  refine ⟨fun _ _ => trivial, ?_⟩
  have hround : (Wf l).round = l := rfl
  rw [hround]
  unfold opY at hg hnext hpan
  rw [kdR_eq] at hg hnext hpan
  cases hk : kd b o.op with
  | q =>
    rw [hk] at hg hnext hpan
    simp only [qopR_eq] at hg hnext hpan
    have hnd : ∀ c, o.op ≠ .defer c := fun c e => by rw [e] at hk; cases hk
    rw [semAt_nd hnd]
    cases hq : qop b E M o.op with
    | none => rw [hq] at hg; cases hg
    | some v =>
      rw [hq] at hnext
      obtain ⟨u, h1, h2⟩ := qop_ok hT hm hρ hq
      rw [h1]
      show next _ _
      have := hnext v M nx D u w r ds rfl h2 (StepR.refl hm) hD
      rwa [hself] at this
  | n =>
    rw [hk] at hg hnext hpan
    simp only [] at hg hnext hpan
    have hnd : ∀ c, o.op ≠ .defer c := fun c e => by rw [e] at hk; cases hk
    rw [semAt_nd hnd]
    cases hq : nop b E o.op nx with
    | none => rw [hq] at hg; cases hg
    | some v =>
      obtain ⟨v, ob⟩ := v
      rw [hq] at hnext
      have hn := hm.dom nx (Nat.le_refl _)
      obtain ⟨u, w', cap, x, h1, h2, h3, h4, h5, h6, h7⟩ := nop_ok (w := w) hT hn.1 hρ hq
      rw [h1]
      show next _ _
      have hst := StepR.new hm h3 h4 h5 h6 h7 hro
      have := hnext v (M.set nx ob) (Nat.succ nx) D u w' _ ds rfl h2 hst (hD.mono hst.le)
      rwa [hself] at this
  | l =>
    rw [hk] at hg hnext hpan
    simp only [lopR_eq] at hg hnext hpan
    have hnd : ∀ c, o.op ≠ .defer c := fun c e => by rw [e] at hk; cases hk
    rw [semAt_nd hnd]
    cases hq : lop b ro E M nx o.op with
    | no => rw [hq] at hg; cases hg
    | ok v M' nx' =>
      rw [hq] at hnext
      obtain ⟨nn, u, w', r', h1, h2, h3, h4⟩ := lop_ok hT hm hro hρ hq
      rw [h1]
      have := hnext v M' nx' D u w' r' ds rfl h3 h4 (hD.mono h4.le)
      rw [hself] at this
      rcases h2 with rfl | ⟨rfl, rfl⟩
      · exact this
      · exact this
    | pan v =>
      rw [hq] at hpan
      obtain ⟨u, h1, h2⟩ := lop_pan (P := P) (w := w) hρ hq
      rw [h1]
      exact hpan [(v, false)] M nx _ w r rfl ⟨u, [], h2, rfl, rfl⟩ (StepR.refl hm)
  | c =>
    rw [hk] at hg hnext hpan
    simp only [] at hg hnext hpan
    have hnd : ∀ c, o.op ≠ .defer c := fun c e => by rw [e] at hk; cases hk
    rw [semAt_nd hnd]
    cases hop : o.op with
    | call c =>
      rw [hop] at hg hnext hpan hρ
      simp only [oC] at hg hnext hpan
      have hexec : execOp a.eval o = (do let d ← resolve a.eval c o.type; invoke d.target d.args) := by
        obtain ⟨dst, op, ty, pos, af, gd⟩ := o
        dsimp only at hop
        subst hop
        rfl
      rw [hexec]
      have hρ' : OpsR r E a.eval c.operands.toList := hρ
      cases ht : tgt b E M c with
      | no => rw [ht] at hg; cases hg
      | fn g as =>
        rw [ht] at hg hnext hpan
        simp only [oTgt] at hg hnext hpan
        obtain ⟨us, h1, h2⟩ := tgt_fn (P := P) (w := w) (ty := o.type) hT hm hρ' ht
        rw [h2]
        have hno : (C.call ro g as M nx).isNo = false := by
          cases hc : C.call ro g as M nx with
          | no => rw [hc] at hg; cases hg
          | _ => rfl
        rcases hC.call ro g as M nx r w us hm h1 hro hno with ⟨h3, h4⟩ | ⟨u, w', h3, h4⟩
        · rw [h3]
          refine ⟨fun h => (by cases h), CallsIn.mono h4 fun e w'' he => ?_⟩
          cases hc : C.call ro g as M nx with
          | no => rw [hc] at he; exact he.elim
          | ret v M' nx' =>
            rw [hc] at he hnext
            obtain ⟨u, r', rfl, h5, h6⟩ := he
            have := hnext v M' nx' D u w'' r' ds rfl h5 h6 (hD.mono h6.le)
            rwa [hself] at this
          | pan ch M' nx' =>
            rw [hc] at he hpan
            obtain ⟨chain, r', rfl, h5, h6⟩ := he
            exact hpan ch M' nx' chain w'' r' rfl h5 h6
        · rw [h3]
          show next _ _
          cases hc : C.call ro g as M nx with
          | no => rw [hc] at h4; exact h4.elim
          | ret v M' nx' =>
            rw [hc] at h4 hnext
            obtain ⟨u', r', e, h5, h6⟩ := h4
            injection e with e; subst e
            have := hnext v M' nx' D u w' r' ds rfl h5 h6 (hD.mono h6.le)
            rwa [hself] at this
          | pan ch M' nx' =>
            rw [hc] at h4
            obtain ⟨chain, r', e, h5, h6⟩ := h4
            cases e
      | yield j as =>
        rw [ht] at hg hnext hpan
        simp only [oTgt] at hg hnext hpan
        obtain ⟨us, bk, hbk, h1, h2⟩ := tgt_yield (P := P) (w := w) (ty := o.type) hρ' ht
        rw [h2]
        have hno : (C.yield ro j as M nx).isNo = false := by
          cases hc : C.yield ro j as M nx with
          | no => rw [hc] at hg; cases hg
          | _ => rfl
        obtain ⟨f, tmps, assign, body, h3, h4⟩ := hC.yield ro j as M nx r w us bk hm h1 hbk hro hno
        rw [h3]
        refine ⟨fun h => (by cases h), RoundIn.mono h4 fun e w'' he => ?_⟩
        cases hc : C.yield ro j as M nx with
        | no => rw [hc] at he; exact he.elim
        | ret v M' nx' =>
          rw [hc] at he hnext
          obtain ⟨u, r', rfl, h5, h6⟩ := he
          have := hnext v M' nx' D u w'' r' ds rfl h5 h6 (hD.mono h6.le)
          rwa [hself] at this
        | pan ch M' nx' =>
          rw [hc] at he hpan
          obtain ⟨chain, r', rfl, h5, h6⟩ := he
          exact hpan ch M' nx' chain w'' r' rfl h5 h6
    | _ => rw [hop] at hg; simp [oC] at hg; cases hg
  | d =>
    rw [hk] at hg hnext hpan
    simp only [] at hg hnext hpan
    cases hop : o.op with
    | defer c =>
      rw [hop] at hg hnext hpan hρ
      obtain ⟨callee, args, tys⟩ := c
      cases callee with
      | value f =>
        cases rd with
        | true => simp [oD, OR.good] at hg
        | false =>
          have hl : l = none := by cases l with | none => rfl | some _ => cases hrd
          subst hl
          simp only [oD] at hg hnext hpan
          split at hg
          · rename_i g fs cs hev
            rw [hev] at hnext hpan
            simp only [] at hnext hpan
            simp only [tgt, hev] at hg hnext
            cases hevs : evs E args.toList with
            | none => rw [hevs] at hg; simp [oDf, OR.good] at hg
            | some as =>
              rw [hevs] at hnext
              simp only [oDf] at hnext
              have hd := hρ f (by simp [Op.operands, Call.operands]) _ hev
              simp only [Den] at hd
              obtain ⟨g2, fs', cs', hg2, h1, h2, hu⟩ := hd
              have hg2 : g2 = .func g := hg2
              subst hg2
              have h3 := evs_ok (ρ := a.eval) (fun y hy => hρ y (by simp [Op.operands, Call.operands]; right; simpa using hy)) hevs
              have hexec : (execOp a.eval o).run P w = .ok (.defer { target := .fn (.func g) cs'.toArray, args := (fs' ++ args.toList.map a.eval).toArray }) w := by
                obtain ⟨dst, op, ty, pos, af, gd⟩ := o
                dsimp only at hop
                subst hop
                simp only [execOp, resolve, hu, Deferred.ofValue, Sem.run_bind, Sem.run_pure, Result.andThen_ok]
                congr 3
                apply Array.toList_inj.1
                simp
              rw [Oper.semAt_none, hexec]
              have := hnext undefC M nx (.inr ⟨g, fs ++ as ++ cs⟩ :: D) undef w r ({ target := .fn (.func g) cs'.toArray, args := (fs' ++ args.toList.map a.eval).toArray } :: ds) rfl den_undef (StepR.refl hm) ⟨fs' ++ args.toList.map a.eval, cs', ds, (h1.append h3).append h2, hD, rfl⟩
              show next _ _
              rw [hds]
              exact this
          · cases hg
      | _ => simp [oD, OR.good] at hg
    | _ => rw [hop] at hg; simp [oD, OR.good] at hg
end c
end Go.Proofs.YtaodejbcmaeaaaaGreat.CE
