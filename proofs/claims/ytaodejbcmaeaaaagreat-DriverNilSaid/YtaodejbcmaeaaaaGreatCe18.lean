/- The concrete evaluator: code. No statement of the seat is proved here. -/
import Derived.Test.YtaodejbcmaeaaaaGreatCe17
import Derived.ControlIn
import Derived.Scope
set_option linter.unusedVariables false
set_option linter.unusedSimpArgs false
namespace Go.Proofs.YtaodejbcmaeaaaaGreat.CE
open Go Go.RowKit
open Go.Proofs.YtaodejbcmaeaaaaGreat.Eng (Fr Pl pl TyI TyK Tab TabOk kix)

section c
variable {P : Program} {b : Tb} {w0 w : World} {S : Nat → Prop} {ro : Nat}
variable {r0 : Rl} {M0 : T AObj} {nx0 N : Nat} {base : List Deferred} {r : Rl} {a : Act}

theorem StepR.drew {r' : Rl} {M M' : T AObj} {nx nx' : Nat} (h : StepR P w0 S ro r r' M M' nx nx' w) : StepR P w0 S ro r r' M M' nx nx' w.drew := ⟨h.le, h.mem.drew, h.nxle, h.un, h.roq, h.lc⟩

theorem range_ops (ops : Array Oper) : (List.range ops.size).map (ops[·]?) = ops.toList.map some := by
  apply List.ext_getElem?
  intro i
  simp only [List.getElem?_map]
  by_cases h : i < ops.size
  · rw [List.getElem?_range h]; simp [h]
  · have h' : ops.size ≤ i := by omega
    have e : (List.range ops.size)[i]? = none := List.getElem?_eq_none (by simpa using h')
    rw [e]; simp [h']

theorem xReg_ok (hT : TbOk P b) {C : Cl} (hC : ClOk P w0 S C) {l : Option Nat} {rd : Bool} (hrd : rd = l.isSome) {fn id : Nat} {ops : Array Oper} {draw : Bool} {x : CX} {s s' : St} (hro0 : ro ≤ nx0) (hck : ckReg b fn N id ops.toList draw = true) (h : xReg b C rd ro fn id ops.toList draw s = .ok x s') (hs : Std P w0 S ro r0 M0 nx0 base N noX s r a w) :
    (Code.region id ops draw).wpIn (Wf l) 0 P (PostR P w0 S ro r0 M0 nx0 base N x s') a w := by
  unfold ckReg at hck
  simp only [Bool.and_eq_true, List.all_eq_true] at hck
  have hN : ∀ o ∈ ops.toList, ∀ t, o.dst = some t → t < N := fun o ho => ckDst_ok (hck.1 o ho)
  cases draw with
  | false =>
    exact wpIn_region (regL_ok hT hC hrd hN hro0 ops.toList (List.range ops.size) s.E s.M s.nx s.D r a w (range_ops ops) h hs)
  | true =>
    simp only [xReg, xPlan] at h
    cases hp : b.pl fn id with
    | none => rw [hp] at h; cases h
    | some p =>
      rw [hp] at h hck
      simp only at h hck
      cases hm : mkPl ops.toList p with
      | none => rw [hm] at h; cases h
      | some pl =>
        rw [hm] at h
        simp only at h
        obtain ⟨h1, h2, h3⟩ := ckPlan_ok hck.2
        refine wpIn_region_any hT.mix ?_
        have hlen : ([] : List (Nat × PK)).length + p.length = ops.size := by simp [h3]
        rw [← hlen]
        refine regP_ok hT hC hrd hN hro0 p pl [] s.E s.M s.nx s.D hm h1 h [] _ r a _ ⟨⟨hs.st.drew, fun t v hv _ => hs.env t v hv (fun h => h), hs.df, hs.sz⟩, by simp [hlen, h3], ?_, by simpa using h1.topo, ?_, by simp, by simp, by simp, by simp, by simp, ?_, by simp, by simp⟩
        · intro i hi; exact .inr (h2 i (by simpa using hi))
        · intro i hi
          have : i < ([] : List (Nat × PK)).length + p.length := by rw [hlen]; exact hi
          have h2 : i < p.length := by simpa using this
          simp [Array.getD_eq_getD_getElem?, Array.getElem?_replicate, h2]
        · intro i o hi
          exfalso
          rw [Array.getD_eq_getD_getElem?, Array.getElem?_replicate] at hi
          split at hi <;> cases hi

theorem stepR_scope {bf : Frame} {k : List Item} {cs : List Frame} {c : Code} : step P (lone (bf.atR a (.code (.scope c) :: k)) cs w) = .next (lone (bf.atR a (.code c :: .inScope c :: k)) cs w) :=
  step_lone_go (by simp [stepG, stepG.exec, Frame.atR])
theorem stepR_inScope {bf : Frame} {k : List Item} {cs : List Frame} {c : Code} : step P (lone (bf.atR a (.inScope c :: k)) cs w) = .next (lone (bf.atR a k) cs w) :=
  step_lone_go (by simp [stepG, stepG.exec, Frame.atR])
theorem wpIn_scope0 {F : Fence} {n : Nat} {Q : Exit → Act → World → Prop} {c : Code} (h : c.wpIn F n P Q a w) (hg : ∀ l a w, ¬ Q (.goto l) a w) : (Code.scope c).wpIn F n P Q a w := by
  intro bf k cs hro hb hr
  have h0 : (lone (bf.atR a (.code (.scope c) :: k)) cs w).fenced P F := fenced_calm hb hr rfl
  obtain ⟨e, a₁, w₁, hq, harr⟩ := h bf (.inScope c :: k) cs hro hb hr
  cases e with
  | normal => exact ⟨.normal, a₁, w₁, hq, .head h0 stepR_scope (StepsIn.trans harr (.one (fenced_calm hb hr rfl) stepR_inScope))⟩
  | exit id =>
    have hx : exitTo id (.inScope c :: k) = exitTo id k := by simp [exitTo]
    exact ⟨.exit id, a₁, w₁, hq, fun k' hk => .head h0 stepR_scope (harr.1 k' (by rw [hx]; exact hk)),
      fun hr' hk => let ⟨k₁, h1, h2⟩ := harr.2 hr' (by rw [hx]; exact hk); ⟨k₁, h1, .head h0 stepR_scope h2⟩⟩
  | goto l => exact (hg l _ _ hq).elim
  | ret => exact ⟨_, a₁, w₁, hq, .of_steps (.one h0 stepR_scope) harr⟩
  | panic ch => exact ⟨_, a₁, w₁, hq, .of_steps (.one h0 stepR_scope) harr⟩
  | outgrown => exact ⟨_, a₁, w₁, hq, .of_steps (.one h0 stepR_scope) harr⟩
end c
end Go.Proofs.YtaodejbcmaeaaaaGreat.CE
