/- The concrete evaluator: calls, to any depth: the evaluator is sound. No statement of the seat is proved here. -/
import Derived.Test.YtaodejbcmaeaaaaGreatCe25
set_option linter.unusedVariables false
set_option linter.unusedSimpArgs false
namespace Go.Proofs.YtaodejbcmaeaaaaGreat.CE
open Go Go.RowKit
open Go.Proofs.YtaodejbcmaeaaaaGreat.Eng (Fr Pl pl TyI TyK Tab TabOk kix)

section m
variable {P : Program} {b : Tb} {w0 w : World} {S : Nat → Prop} {ro : Nat} {r0 r : Rl} {M0 M : T AObj} {nx0 nx N : Nat} {base : List Deferred} {a : Act} {E : T CV}

/-! ## runs that are known -/
/-- A value that is known: from any memory, which stays. -/
def PfOne (P : Program) (g : Nat) (as : List CV) (v : CV) : Prop := ∀ (r : Rl) (us : List Value), DenL r as us → ∀ w, FnDoes P g us.toArray w fun e w' => ∃ u, e = .returned u ∧ (∀ r, Den r v u) ∧ Fr (fun _ => False) w w'
def PfOk (P : Program) (b : Tb) : Prop := ∀ g as v, (as, v) ∈ b.pf g → PfOne P g as v
def MmOk (P : Program) (b : Tb) : Prop := ∀ g m, m ∈ b.mm g → ∀ (w0 : World) (S : Nat → Prop) (r : Rl) (w : World) (us : List Value), MemR P w0 S r m.M m.nx w → DenL r m.as us → FnDoes P g us.toArray w (RCP P w0 S 0 r m.M m.nx (.ret m.v m.M' m.nx'))

theorem FnDoes.mono {g : Nat} {us : Array Value} {R R' : Ending → World → Prop} (h : FnDoes P g us w R) (hr : ∀ e w', R e w' → R' e w') : FnDoes P g us w R' := by
  rcases h with ⟨h1, h2⟩ | ⟨u, w', h1, h2⟩
  · exact .inl ⟨h1, h2.mono hr⟩
  · exact .inr ⟨u, w', h1, hr _ _ h2⟩

theorem Fr.trans' {w1 w2 : World} (h : Fr S w0 w1) (k : Fr (fun _ => False) w1 w2) : Fr S w0 w2 :=
  ⟨k.os.trans h.os, k.tape.trans h.tape, k.output.trans h.output, Nat.le_trans h.size k.size, fun i hi hs => (k.block i (Nat.lt_of_lt_of_le hi h.size) (fun h => h)).trans (h.block i hi hs)⟩

/-- Nothing old was turned. -/
theorem MemR.keep {w' : World} (hm : MemR P w0 S r M nx w) (h : Fr (fun _ => False) w w') : MemR P w0 S r M nx w' :=
  ⟨Fr.trans' hm.fr h, fun i bk o h1 h2 => by
    obtain ⟨x, h3, h4⟩ := hm.ok i bk o h1 h2
    have hlt : bk < w.heap.size := (Array.getElem?_eq_some_iff.1 h3).1
    exact ⟨x, (h.block bk hlt (fun h => h)).trans h3, h4⟩, hm.inj, hm.own, hm.dom⟩

theorem unionM_get : ∀ (A B : T AObj) (i : Nat), (unionM A B).get i = match A.get i with
    | some o => some o
    | none => B.get i
  | .lf, B, i => by simp [unionM, T.get_lf]
  | .nd v l r, .lf, i => by
    simp only [unionM, T.get_lf]
    cases (T.nd v l r).get i <;> rfl
  | .nd v l r, .nd v' l' r', i => by
    have key : unionM (.nd v l r) (.nd v' l' r') = .nd (match v with | some o => some o | none => v') (unionM l l') (unionM r r') := by
      simp only [unionM]
      cases v <;> simp only [ndF_eq]
    rw [key]
    cases i with
    | zero => simp only [T.get_nd0]
    | succ i =>
      rw [T.get_ndS, T.get_ndS, T.get_ndS]
      split <;> exact unionM_get _ _ _
theorem diffM_get : ∀ (A B : T AObj) (i : Nat), (diffM A B).get i = match B.get i with
    | some _ => none
    | none => A.get i
  | .lf, B, i => by
    simp only [diffM, T.get_lf]
    cases B.get i <;> rfl
  | .nd v l r, .lf, i => by simp [diffM, T.get_lf]
  | .nd v l r, .nd v' l' r', i => by
    have key : diffM (.nd v l r) (.nd v' l' r') = .nd (match v' with | some _ => none | none => v) (diffM l l') (diffM r r') := by
      simp only [diffM]
      cases v' <;> simp only [ndF_eq]
    rw [key]
    cases i with
    | zero => simp only [T.get_nd0]
    | succ i =>
      rw [T.get_ndS, T.get_ndS, T.get_ndS]
      split <;> exact diffM_get _ _ _
theorem overM_get : ∀ (A B C : T AObj) (i : Nat), (overM A B C).get i = overV (A.get i) (B.get i) (C.get i)
  | .lf, B, C, i => by
    simp only [overM, unionM_get, T.get_lf, overV]
    cases C.get i <;> rfl
  | .nd a al ar, .lf, C, i => by
    simp only [overM, diffM_get, T.get_lf, overV]
    cases (T.nd a al ar).get i with
    | some _ => rfl
    | none => cases C.get i <;> rfl
  | .nd a al ar, .nd b bl br, .lf, i => by
    simp only [overM, T.get_lf, overV]
    cases (T.nd a al ar).get i <;> rfl
  | .nd a al ar, .nd b bl br, .nd c cl cr, i => by
    have key : overM (.nd a al ar) (.nd b bl br) (.nd c cl cr) = .nd (overV a b c) (overM al bl cl) (overM ar br cr) := by
      simp only [overM]
      cases overV a b c <;> simp only [ndF_eq]
    rw [key]
    cases i with
    | zero => simp only [T.get_nd0]
    | succ i =>
      rw [T.get_ndS, T.get_ndS, T.get_ndS, T.get_ndS]
      split <;> exact overM_get _ _ _ _
theorem noCur_ok : ∀ {A : T AObj} {i : Nat} {o : AObj}, noCur A = true → A.get i = some o → o.cur = false
  | .lf, i, o, _, h => by simp [T.get_lf] at h
  | .nd v l r, i, o, hn, h => by
    simp only [noCur] at hn
    split at hn
    · cases hn
    · rename_i hv
      split at hn
      · rename_i h1
        cases i with
        | zero =>
          rw [T.get_nd0] at h
          subst h
          cases o <;> first | rfl | exact absurd rfl (hv _ _ _ _)
        | succ i =>
          rw [T.get_ndS] at h
          split at h
          · exact noCur_ok h1 h
          · exact noCur_ok hn h
      · cases hn
/-- A run over a part of the memory: the other part stays. -/
theorem over_ok {r' : Rl} {A B : T AObj} {nx' : Nat} {w' : World} (hm : MemR P w0 S r M nx w) (h4 : Sub A M) (hA : noCur A = true) (hB : noCur B = true) (k : StepR P w (fun bk => ∃ i o, r.σ i = some bk ∧ A.get i = some o) 0 r r' A B nx nx' w') : StepR P w0 S 0 r r' M (overM A B M) nx nx' w' := by
  have hS : ∀ bk, (∃ i o, r.σ i = some bk ∧ A.get i = some o) → w0.heap.size ≤ bk ∨ S bk := by
    rintro bk ⟨i, o, g1, g2⟩
    exact hm.own i bk o g1 (h4 i o g2) (noCur_ok hA g2)
  have hlt : ∀ i o, M.get i = some o → i < nx := fun i o h => by
    rcases Nat.lt_or_ge i nx with h1 | h1
    · exact h1
    · rw [(hm.dom i h1).2] at h; cases h
  -- what the run does not see
  have rest : ∀ i o bk, A.get i = none → M.get i = some o → r'.σ i = some bk → r.σ i = some bk ∧ bk < w.heap.size ∧ ¬ (∃ i o, r.σ i = some bk ∧ A.get i = some o) := by
    intro i o bk g1 g2 g3
    cases hs : r.σ i with
    | none => rw [(k.un i (hlt i o g2) hs).1] at g3; cases g3
    | some b0 =>
      have := (k.le i b0 hs).1
      rw [g3] at this; cases this
      obtain ⟨x, f1, _⟩ := hm.ok i bk o hs g2
      refine ⟨rfl, (Array.getElem?_eq_some_iff.1 f1).1, ?_⟩
      rintro ⟨j, o', f2, f3⟩
      have := hm.inj i j bk hs f2 (by simp [g2]) (by simp [h4 j o' f3])
      subst this
      rw [g1] at f3; cases f3
  have hf := k.mem.fr
  have part : ∀ i o, (overM A B M).get i = some o → B.get i = some o ∨ (A.get i = none ∧ M.get i = some o) := by
    intro i o h
    rw [overM_get] at h
    unfold overV at h
    split at h
    · exact .inl h
    · rename_i ha
      split at h
      · rename_i o' ho
        cases h
        exact .inr ⟨ha, ho⟩
      · exact .inl h
  refine ⟨k.le, ⟨⟨hf.os.trans hm.fr.os, hf.tape.trans hm.fr.tape, hf.output.trans hm.fr.output, Nat.le_trans hm.fr.size hf.size, fun i hi hns => ?_⟩, fun i bk o g1 g2 => ?_, fun i j bk g1 g2 g3 g4 => ?_, fun i bk o g1 g2 g3 => ?_, fun i hi => ⟨(k.mem.dom i hi).1, ?_⟩⟩, k.nxle, fun i hi hs => ?_, fun i hi => absurd hi (Nat.not_lt_zero _), fun i hi => ?_⟩
  · rw [hf.block i (Nat.lt_of_lt_of_le hi hm.fr.size) (fun h => (hS i h).elim (fun h => absurd hi (by omega)) hns)]
    exact hm.fr.block i hi hns
  · rcases part i o g2 with h | ⟨h1, h2⟩
    · exact k.mem.ok i bk o g1 h
    · obtain ⟨f1, f2, f3⟩ := rest i o bk h1 h2 g1
      obtain ⟨x, f4, f5⟩ := hm.ok i bk o f1 h2
      exact ⟨x, (hf.block bk f2 f3).trans f4, f5.mono k.le f1⟩
  · obtain ⟨oi, hi⟩ := Option.isSome_iff_exists.1 g3
    obtain ⟨oj, hj⟩ := Option.isSome_iff_exists.1 g4
    have clash : ∀ i j oi oj, r'.σ i = some bk → r'.σ j = some bk → B.get i = some oi → A.get j = none → M.get j = some oj → False := by
      intro i j oi oj e1 e2 e3 e4 e5
      obtain ⟨f1, f2, f3⟩ := rest j oj bk e4 e5 e2
      rcases k.mem.own i bk oi e1 e3 (noCur_ok hB e3) with h | h
      · omega
      · exact f3 h
    rcases part i oi hi with h | ⟨h1, h2⟩
    · rcases part j oj hj with h' | ⟨h1', h2'⟩
      · exact k.mem.inj i j bk g1 g2 (by simp [h]) (by simp [h'])
      · exact (clash i j oi oj g1 g2 h h1' h2').elim
    · rcases part j oj hj with h' | ⟨h1', h2'⟩
      · exact (clash j i oj oi g2 g1 h' h1 h2).elim
      · exact hm.inj i j bk (rest i oi bk h1 h2 g1).1 (rest j oj bk h1' h2' g2).1 (by simp [h2]) (by simp [h2'])
  · rcases part i o g2 with h | ⟨h1, h2⟩
    · rcases k.mem.own i bk o g1 h g3 with h | h
      · exact .inl (Nat.le_trans hm.fr.size h)
      · exact hS bk h
    · exact hm.own i bk o (rest i o bk h1 h2 g1).1 h2 g3
  · have h1 : M.get i = none := (hm.dom i (Nat.le_trans k.nxle hi)).2
    have h2 : A.get i = none := by
      cases ha : A.get i with
      | none => rfl
      | some o => rw [h4 i o ha] at h1; cases h1
    rw [overM_get, h1, h2, (k.mem.dom i hi).2]; rfl
  · obtain ⟨e1, e2⟩ := k.un i hi hs
    refine ⟨e1, ?_⟩
    rw [overM_get]
    unfold overV
    cases ha : A.get i with
    | some o =>
      simp only
      rw [h4 i o ha]
      rw [ha] at e2
      exact e2
    | none =>
      rw [ha] at e2
      cases hmi : M.get i with
      | some o => exact .inl rfl
      | none => exact e2
  · rw [overM_get]
    unfold overV
    have l1 := k.lc i hi
    cases ha : A.get i with
    | some o =>
      simp only
      rw [h4 i o ha]
      rw [ha] at l1
      exact l1
    | none =>
      rw [ha] at l1
      cases hmi : M.get i with
      | some o => exact LcO.refl _
      | none => exact l1
theorem findM_ok {args : List CV} {m : Mm} : ∀ {l : List Mm}, findM args M nx l = some m → m ∈ l ∧ m.nx = nx ∧ m.as = args ∧ Sub m.M M ∧ noCur m.M = true ∧ noCur m.M' = true
  | [], h => by simp [findM] at h
  | x :: l, h => by
    simp only [findM] at h
    split at h
    · obtain ⟨h1, h2⟩ := findM_ok h; exact ⟨List.mem_cons_of_mem _ h1, h2⟩
    · rename_i hn
      split at h
      · obtain ⟨h1, h2⟩ := findM_ok h; exact ⟨List.mem_cons_of_mem _ h1, h2⟩
      · rename_i ha
        split at h
        · rename_i hs
          injection h with h; subst h
          simp only [Bool.and_eq_true] at hs
          exact ⟨List.mem_cons_self .., natbeq_t hn, sameL_eq ha, subM_ok hs.1.1, hs.1.2, hs.2⟩
        · obtain ⟨h1, h2⟩ := findM_ok h; exact ⟨List.mem_cons_of_mem _ h1, h2⟩

/-! ## calls -/
theorem call2_ok (hT : TbOk P b) {rs : Fs} (hd : DfrOk P rs.dfr) (hcl : ∀ w0 S, ClOk P w0 S ⟨rs.call, rs.yield⟩) {g : Nat} {as : List CV} {us : List Value} (hm : MemR P w0 S r M nx w) (h : DenL r as us) (hro : ro ≤ nx) (hno : (call2 b rs ro g as M nx).isNo = false) : FnDoes P g us.toArray w (RCP P w0 S ro r M nx (call2 b rs ro g as M nx)) := by
  unfold call2 at hno ⊢
  cases hfn : b.fn g with
  | none =>
    rw [hfn] at hno
    simp only at hno ⊢
    cases hx : b.ext g with
    | none => rw [hx] at hno; cases hno
    | some name =>
      rw [hx] at hno
      exact nats_ok hT hx hm h hno
  | some fi =>
    rw [hfn] at hno
    simp only at hno ⊢
    cases hle : Nat.ble (lenL as) fi.n with
    | false => rw [hle] at hno; cases hno
    | true =>
      rw [hle] at hno
      exact .inl ⟨(hT.fn g fi hfn).1 _ _, fini_ok hT hd hcl hfn hm hro h hle hno⟩

theorem findP_ok {args : List CV} {v : CV} : ∀ {l : List (List CV × CV)}, findP args l = some v → (args, v) ∈ l
  | (as, u) :: l, h => by
    simp only [findP] at h
    split at h
    · rename_i h1
      injection h with h
      rw [sameL_eq h1, h]
      exact List.mem_cons_self ..
    · exact List.mem_cons_of_mem _ (findP_ok h)
theorem callC_ok (hT : TbOk P b) (hpf : PfOk P b) (hmm : MmOk P b) {rs : Fs} (hd : DfrOk P rs.dfr) (hcl : ∀ w0 S, ClOk P w0 S ⟨rs.call, rs.yield⟩) {g : Nat} {as : List CV} {us : List Value} (hm : MemR P w0 S r M nx w) (h : DenL r as us) (hro : ro ≤ nx) (hno : (callC b rs ro g as M nx).isNo = false) : FnDoes P g us.toArray w (RCP P w0 S ro r M nx (callC b rs ro g as M nx)) := by
  have one : (call1 b rs ro g as M nx (b.mm g)).isNo = false → FnDoes P g us.toArray w (RCP P w0 S ro r M nx (call1 b rs ro g as M nx (b.mm g))) := fun hno => by
    unfold call1 at hno ⊢
    cases hl : b.mm g with
    | nil =>
      rw [hl] at hno
      exact call2_ok hT hd hcl hm h hro hno
    | cons x l =>
      rw [hl] at hno
      simp only at hno ⊢
      cases ro with
      | succ ro => exact call2_ok hT hd hcl hm h hro hno
      | zero =>
        simp only at hno ⊢
        cases hf : findM as M nx (x :: l) with
        | none =>
          rw [hf] at hno
          exact call2_ok hT hd hcl hm h hro hno
        | some m =>
          simp only
          obtain ⟨h1, h2, h3, h4, hc1, hc2⟩ := findM_ok hf
          have hm2 : MemR P w (fun bk => ∃ i o, r.σ i = some bk ∧ m.M.get i = some o) r m.M nx w := by
            refine ⟨⟨rfl, rfl, rfl, Nat.le_refl _, fun _ _ _ => rfl⟩, fun i bk o g1 g2 => hm.ok i bk o g1 (h4 i o g2), fun i j bk g1 g2 g3 g4 => ?_, fun i bk o g1 g2 _ => .inr ⟨i, o, g1, g2⟩, fun i hi => ⟨(hm.dom i hi).1, ?_⟩⟩
            · obtain ⟨oi, hi⟩ := Option.isSome_iff_exists.1 g3
              obtain ⟨oj, hj⟩ := Option.isSome_iff_exists.1 g4
              exact hm.inj i j bk g1 g2 (by simp [h4 i oi hi]) (by simp [h4 j oj hj])
            · cases ha : m.M.get i with
              | none => rfl
              | some o => have := h4 i o ha; rw [(hm.dom i hi).2] at this; cases this
          refine (hmm g m (by rw [hl]; exact h1) w _ r w us (by rw [h2]; exact hm2) (by rw [h3]; exact h)).mono fun e w' he => ?_
          obtain ⟨u, r', rfl, k1, k2⟩ := he
          rw [h2] at k2
          exact ⟨u, r', rfl, k1, over_ok hm h4 hc1 hc2 k2⟩
  unfold callC at hno ⊢
  cases hp : b.pf g with
  | nil =>
    rw [hp] at hno
    exact one hno
  | cons x l =>
    rw [hp] at hno
    simp only at hno ⊢
    unfold callP at hno ⊢
    cases hf : findP as (x :: l) with
    | none =>
      rw [hf] at hno
      exact one hno
    | some v =>
      refine (hpf g as v (by rw [hp]; exact findP_ok hf) r us h w).mono fun e w' he => ?_
      obtain ⟨u, rfl, h1, h2⟩ := he
      exact ⟨u, r, rfl, h1 r, StepR.refl (hm.keep h2)⟩

/-- The evaluator is sound, to any depth. -/
theorem fs_ok (hT : TbOk P b) (hpf : PfOk P b) (hmm : MmOk P b) : ∀ k, (∀ w0 S, ClOk P w0 S ⟨(fs b k).call, (fs b k).yield⟩) ∧ DfrOk P (fs b k).dfr
  | 0 => ⟨fun w0 S => ⟨fun ro g as M nx r w us _ _ _ hno => (by cases hno), fun ro j as M nx r w us bk _ _ _ _ hno => (by cases hno)⟩, fun ro g as u M nx u' M' nx' h => (by cases h)⟩
  | k + 1 => by
    obtain ⟨h1, h2⟩ := fs_ok hT hpf hmm k
    exact ⟨fun w0 S => ⟨fun ro g as M nx r w us hm has hro hno => callC_ok hT hpf hmm h2 h1 hm has hro hno, fun ro j as M nx r w us bk hm has hs hro hno => yld_ok hT h1 hm has hs hro hno⟩, dfr_ok hT h1⟩

/-- Nothing is known of the memory. -/
theorem mem0 (n : Nat) (w : World) : MemR P w (fun _ => False) ⟨fun _ => none, fun _ => 0, fun _ => #[]⟩ .lf n w :=
  ⟨⟨rfl, rfl, rfl, Nat.le_refl _, fun _ _ _ => rfl⟩, fun i b o h => (by cases h), fun i j b h => (by cases h), fun i b o h => (by cases h), fun i _ => ⟨rfl, T.get_lf i⟩⟩

/-- A call from a memory of which nothing is known. -/
theorem top_ok (hT : TbOk P b) (hpf : PfOk P b) (hmm : MmOk P b) {k g n nx : Nat} {as : List CV} {v : CV} {M : T AObj} (h : (fs b k).call 0 g as .lf n = .ret v M nx) {us : List Value} (hd : DenL ⟨fun _ => none, fun _ => 0, fun _ => #[]⟩ as us) (w : World) :
    FnDoes P g us.toArray w fun e w' => ∃ u r, e = .returned u ∧ Den r v u ∧ Fr (fun _ => False) w w' := by
  have hno : ((fs b k).call 0 g as .lf n).isNo = false := by rw [h]; rfl
  have := ((fs_ok hT hpf hmm k).1 w (fun _ => False)).call 0 g as .lf n _ w us (mem0 n w) hd (Nat.zero_le _) hno
  refine this.mono fun e w' he => ?_
  simp only [h] at he
  obtain ⟨u, r', rfl, h1, h2⟩ := he
  exact ⟨u, r', rfl, h1, h2.mem.fr⟩
end m
end Go.Proofs.YtaodejbcmaeaaaaGreat.CE
