/- The concrete evaluator: loops. No statement of the seat is proved here. -/
import Derived.Test.YtaodejbcmaeaaaaGreatCe18
set_option linter.unusedVariables false
set_option linter.unusedSimpArgs false
namespace Go.Proofs.YtaodejbcmaeaaaaGreat.CE
open Go Go.RowKit
open Go.Proofs.YtaodejbcmaeaaaaGreat.Eng (Fr Pl pl TyI TyK Tab TabOk kix)

/-! ## a loop, one round further -/
theorem exitTo_len {id : Nat} : ∀ {k k' : List Item}, exitTo id k = some k' → k'.length ≤ k.length
  | [], k', h => by simp [exitTo] at h
  | x :: k, k', h => by
    cases x <;> simp only [exitTo] at h <;> first
      | (have := exitTo_len h; simp only [List.length_cons]; omega)
      | (split at h
         · injection h with h; subst h; simp
         · have := exitTo_len h; simp only [List.length_cons]; omega)
      | cases h

section u
variable {F : Fence} {n : Nat} {P : Program} {Q : Exit → Act → World → Prop} {a : Act} {w : World}
theorem stepsIn_inv {I : Machine → Prop} {m m1 m2 : Machine} (h : StepsIn I P m m2) (hs : step P m = .next m1) (hne : m ≠ m2) : StepsIn I P m1 m2 := by
  cases h with
  | refl => exact absurd rfl hne
  | head hI hs2 h' => rw [hs] at hs2; injection hs2 with e; subst e; exact h'

theorem todo_ne {b : Frame} {a a' : Act} {k k' : List Item} {cs : List Frame} {w w' : World} (h : k ≠ k') : lone (b.atR a k) cs w ≠ lone (b.atR a' k') cs w' := by
  intro e
  have := congrArg (fun m : Machine => m.gs.toList.map (fun g => g.frame.todo)) e
  simp [lone, Frame.atR] at this
  exact h this

theorem wpIn_unroll {c : Code} (h : c.wpIn F n P (Exit.then ((Code.loop c).wpIn F n P Q) Q) a w) (hg : ∀ l a w, ¬ Q (.goto l) a w) (ho : ∀ a w, ¬ Q .outgrown a w) : (Code.loop c).wpIn F n P Q a w := by
  intro b k cs hro hb hr
  have h0 : (lone (b.atR a (.code (.loop c) :: k)) cs w).fenced P F := fenced_calm hb hr rfl
  obtain ⟨e, a₁, w₁, hq, harr⟩ := h b (.inLoop c :: k) cs hro hb hr
  cases e with
  | normal =>
    obtain ⟨e₂, a₂, w₂, hq₂, harr₂⟩ := hq b k cs hro hb hr
    refine ⟨e₂, a₂, w₂, hq₂, .of_steps (.head h0 stepR_loop (StepsIn.trans harr (.one (fenced_calm hb hr rfl) stepR_inLoop))) ?_⟩
    have hs : step P (lone (b.atR a₁ (.code (.loop c) :: k)) cs w₁) = .next (lone (b.atR a₁ (.code c :: .inLoop c :: k)) cs w₁) := stepR_loop
    cases e₂ with
    | normal => exact stepsIn_inv harr₂ hs (todo_ne (by intro e; have := congrArg List.length e; simp at this))
    | exit id =>
      refine ⟨fun k' hk => stepsIn_inv (harr₂.1 k' hk) hs (todo_ne (by intro e; have := congrArg List.length e; have := exitTo_len hk; simp at *; omega)), fun hr' hk => ?_⟩
      obtain ⟨k₁, h1, h2⟩ := harr₂.2 hr' hk
      exact ⟨k₁, h1, stepsIn_inv h2 hs (todo_ne (by intro e; injection e with e _; injection e with e; cases e))⟩
    | goto l => exact (hg l _ _ hq₂).elim
    | ret =>
      refine ⟨fun hn => ?_, fun hr' => ?_⟩
      · obtain ⟨todo, h1⟩ := harr₂.1 hn
        refine ⟨todo, stepsIn_inv h1 hs ?_⟩
        intro e
        simp [lone, Frame.atR] at e
      · obtain ⟨k₁, h1⟩ := harr₂.2 hr'
        exact ⟨k₁, stepsIn_inv h1 hs (todo_ne (by intro e; injection e with e _; injection e with e; cases e))⟩
    | panic ch =>
      obtain ⟨todo, h1⟩ := harr₂
      refine ⟨todo, stepsIn_inv h1 hs ?_⟩
      intro e
      simp [lone, Frame.atR] at e
    | outgrown => exact (ho _ _ hq₂).elim
  | exit id => exact ⟨_, a₁, w₁, hq, .of_steps (.one h0 stepR_loop) (.pass (x := .inLoop c) rfl (fun _ _ => .inl (by simp)) harr)⟩
  | goto l => exact ⟨_, a₁, w₁, hq, .of_steps (.one h0 stepR_loop) (.pass (x := .inLoop c) rfl (fun _ _ => .inl (by simp)) harr)⟩
  | ret => exact ⟨_, a₁, w₁, hq, .of_steps (.one h0 stepR_loop) (.pass (x := .inLoop c) rfl (fun _ _ => .inl (by simp)) harr)⟩
  | panic ch => exact ⟨_, a₁, w₁, hq, .of_steps (.one h0 stepR_loop) (.pass (x := .inLoop c) rfl (fun _ _ => .inl (by simp)) harr)⟩
  | outgrown => exact ⟨_, a₁, w₁, hq, .of_steps (.one h0 stepR_loop) (.pass (x := .inLoop c) rfl (fun _ _ => .inl (by simp)) harr)⟩
end u

/-! ## back to what was known -/
theorem CapOk.back {r r' : Rl} (h : r.le r') {i : Nat} {c : Cap} {n m : Nat} (h0 : CapOk r i c n) (hc : CapOk r' i c m) : CapOk r i c m := by
  cases c with
  | k d => exact hc
  | r d => obtain ⟨⟨b, hb⟩, he⟩ := h0; obtain ⟨_, he'⟩ := hc; exact ⟨⟨b, hb⟩, by rw [(h i b hb).2.1] at he'; exact he'⟩
mutual
theorem Den.back {r r' : Rl} (h : r.le r') : ∀ {v : CV} {u u' : Value}, Den r v u → Den r' v u' → Den r v u'
  | .bool _, _, _, _, hd => hd
  | .int _ _, _, _, _, hd => hd
  | .str _, _, _, _, hd => hd
  | .ptr i o, _, _, h0, hd => by
    obtain ⟨b, hb, _⟩ := h0; obtain ⟨b', hb', e⟩ := hd
    rw [(h i b hb).1] at hb'; cases hb'; exact ⟨b, hb, e⟩
  | .nilP, _, _, _, hd => hd
  | .slice i o n c, _, _, h0, hd => by
    obtain ⟨b, cap, hb, hc, _, _⟩ := h0; obtain ⟨b', cap', hb', hc', hn, e⟩ := hd
    rw [(h i b hb).1] at hb'; cases hb'; exact ⟨b, cap', hb, hc.back h hc', hn, e⟩
  | .eslice i c, _, _, h0, hd => by
    obtain ⟨b, o, cap, hc, _⟩ := h0; obtain ⟨b', o', cap', hc', e⟩ := hd
    exact ⟨b', o', cap', hc.back h hc', e⟩
  | .nilS, _, _, _, hd => hd
  | .iface t v, _, _, h0, hd => by obtain ⟨w0, h1, _⟩ := h0; obtain ⟨w, hw, e⟩ := hd; exact ⟨w, Den.back h h1 hw, e⟩
  | .nilI, _, _, _, hd => hd
  | .func fn f c, _, _, h0, hd => by
    obtain ⟨g0, fs0, cs0, k1, k2, k3, _⟩ := h0
    obtain ⟨g, fs, cs, h1, h2, h3, e⟩ := hd
    refine ⟨g, fs, cs, ?_, DenL.back h k2 h2, DenL.back h k3 h3, e⟩
    cases fn <;> first | exact h1 | skip
    obtain ⟨b, hb, _⟩ := k1; obtain ⟨b', hb', e'⟩ := h1
    rw [(h _ b hb).1] at hb'; cases hb'; exact ⟨b, hb, e'⟩
  | .nilF, _, _, _, hd => hd
  | .map i, _, _, h0, hd => by
    obtain ⟨b, hb, _⟩ := h0; obtain ⟨b', hb', e⟩ := hd
    rw [(h i b hb).1] at hb'; cases hb'; exact ⟨b, hb, e⟩
  | .nilM, _, _, _, hd => hd
  | .tup l, _, _, h0, hd => by obtain ⟨us0, k1, _⟩ := h0; obtain ⟨us, h1, e⟩ := hd; exact ⟨us, DenL.back h k1 h1, e⟩
  | .agg l, _, _, h0, hd => by obtain ⟨us0, k1, _⟩ := h0; obtain ⟨us, h1, e⟩ := hd; exact ⟨us, DenL.back h k1 h1, e⟩
  | .any, _, _, _, hd => hd
  | .any1, _, _, _, hd => hd
  | .anyB, _, _, _, hd => hd
  | .anyI _, _, _, _, hd => hd
  | .cmpI _ _ _, _, _, _, hd => hd
  | .anyS, _, _, _, hd => hd
  | .cmpS _ _, _, _, _, hd => hd
  | .anyStr, _, _, _, hd => hd
  | .cmpStr _ _, _, _, _, hd => hd
  | .raw _, _, _, _, hd => hd
theorem DenL.back {r r' : Rl} (h : r.le r') : ∀ {l : List CV} {us us' : List Value}, DenL r l us → DenL r' l us' → DenL r l us'
  | [], _, _, _, hd => hd
  | _ :: _, _, _, h0, hd => by
    obtain ⟨u0, ur0, k1, k2, _⟩ := h0
    obtain ⟨u, ur, h1, h2, e⟩ := hd
    exact ⟨u, ur, Den.back h k1 h1, DenL.back h k2 h2, e⟩
end
theorem EnvT.back {r r' : Rl} (h : r.le r') {E : T CV} {a a' : Array Value} (h0 : EnvT r E a) (hd : EnvT r' E a') : EnvT r E a' := fun t v hv => (h0 t v hv).back h (hd t v hv)
theorem RowR.back {r r' : Rl} (h : r.le r') {row : Row} {cs cs' : Array Value} (h0 : RowR r row cs) (hd : RowR r' row cs') : RowR r row cs' := fun j v hv => by
  obtain ⟨u0, _, k⟩ := h0 j v hv
  obtain ⟨u, h1, h2⟩ := hd j v hv
  exact ⟨u, h1, k.back h h2⟩
theorem EntsR.back {r r' : Rl} (h : r.le r') : ∀ {es : List (CV × CV × Nat)} {fs fs' : List MapEntry}, EntsR r es fs → EntsR r' es fs' → EntsR r es fs'
  | _, _, _, .nil, .nil => .nil
  | _, _, _, .cons hk hv _ hr, .cons hk' hv' hb' hr' => .cons (hk.back h hk') (hv.back h hv') hb' (EntsR.back h hr hr')
theorem ObjOk.back {P : Program} {r r' : Rl} (h : r.le r') {i b : Nat} (hi : r.σ i = some b) : ∀ {o : AObj} {x x' : Obj}, ObjOk P r i o x → ObjOk P r' i o x' → ObjOk P r i o x'
  | .cells _ _, _, _, h0, hd => by
    obtain ⟨cs0, _, _, _, k⟩ := h0
    obtain ⟨cs, h1, h2, h3, h4⟩ := hd
    exact ⟨cs, h1, h2, by rw [(h i b hi).2.1] at h3; exact h3, k.back h h4⟩
  | .row _ _, _, _, h0, hd => by
    obtain ⟨cs0, _, _, _, _, _, k⟩ := h0
    obtain ⟨cs, fz, h1, h2, h3, h4, h5⟩ := hd
    exact ⟨cs, fz, h1, h2, by rw [(h i b hi).2.1] at h3; exact h3, h4, k.back h h5⟩
  | .map _ _, _, _, h0, hd => by
    obtain ⟨fs0, _, k⟩ := h0
    obtain ⟨fs, h1, h2⟩ := hd
    exact ⟨fs, h1, k.back h h2⟩
  | .mapIt m _ _ _, _, _, h0, hd => by
    obtain ⟨m0, _, k⟩ := h0
    obtain ⟨m', h1, h2⟩ := hd
    refine ⟨m', h1, ?_⟩
    cases m with
    | none => exact h2
    | some j =>
      obtain ⟨b0, hb0, _⟩ := k
      obtain ⟨b', hb', e⟩ := h2
      rw [(h j b0 hb0).1] at hb'; cases hb'
      exact ⟨b0, hb0, e⟩
  | .mapCur m _ _ _, _, _, h0, hd => by
    obtain ⟨mb0, seen0, k1, _, _⟩ := h0
    obtain ⟨mb, seen, h1, h2, h3⟩ := hd
    rw [(h m mb0 k1).1] at h1; cases h1
    exact ⟨mb0, seen, k1, h2, h3⟩
  | .strIt _ _, _, _, _, hd => hd
  | .loop _ _ _ _ _ _ _ _ d, _, _, h0, hd => by
    obtain ⟨tmps0, db0, g0, _, k1, _, k2⟩ := h0
    obtain ⟨tmps, db, g, h0, h1, h2, h3⟩ := hd
    rw [(h d db0 k1).1] at h1; cases h1
    exact ⟨tmps, db0, g, h0, k1, h2, k2.back h h3⟩
  | .defs none, _, _, _, hd => hd
  | .defs (some []), _, _, _, hd => hd
  | .defs (some (_ :: _)), _, _, _, hd => hd

section m
variable {P : Program} {b : Tb} {w0 w : World} {S : Nat → Prop} {ro : Nat} {r r' : Rl} {M M' : T AObj} {nx nx' : Nat} {w' : World}
theorem MemR.back (h0 : MemR P w0 S r M nx w) (hd : MemR P w0 S r' M' nx' w') (hle : r.le r') (hM : ∀ j, j < nx → M'.get j = M.get j) : MemR P w0 S r M nx w' := by
  refine ⟨hd.fr, fun i bk o h1 h2 => ?_, h0.inj, h0.own, h0.dom⟩
  have hi : i < nx := by
    rcases Nat.lt_or_ge i nx with h | h
    · exact h
    · have := (h0.dom i h).1; rw [h1] at this; cases this
  obtain ⟨x0, _, k⟩ := h0.ok i bk o h1 h2
  obtain ⟨x, h3, h4⟩ := hd.ok i bk o (hle i bk h1).1 ((hM i hi).trans h2)
  exact ⟨x, h3, k.back hle h1 h4⟩
end m
end Go.Proofs.YtaodejbcmaeaaaaGreat.CE
