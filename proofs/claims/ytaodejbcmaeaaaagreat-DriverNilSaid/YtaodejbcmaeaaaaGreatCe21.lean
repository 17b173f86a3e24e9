/- The concrete evaluator: a loop over a map, whole. No statement of the seat is proved here. -/
import Derived.Test.YtaodejbcmaeaaaaGreatCe20
set_option linter.unusedVariables false
set_option linter.unusedSimpArgs false
namespace Go.Proofs.YtaodejbcmaeaaaaGreat.CE
open Go Go.RowKit
open Go.Proofs.YtaodejbcmaeaaaaGreat.Eng (Fr Pl pl TyI TyK Tab TabOk kix)

/-- What the code's evaluator tells is so. -/
def CodeOk (P : Program) (b : Tb) (l : Option Nat) (fn N : Nat) (self : Self) : Prop :=
  ∀ ro c s x s', self ro c s = .ok x s' → ckCode b fn N c = true → ∀ (w0 : World) (S : Nat → Prop) r0 M0 nx0 base r a w, ro ≤ nx0 → Std P w0 S ro r0 M0 nx0 base N noX s r a w → c.wpIn (Wf l) 0 P (PostR P w0 S ro r0 M0 nx0 base N x s') a w

theorem mapGo_nrm {run : St → R} {E : T CV} {M : T AObj} {nx i m since clock d1 d2 : Nat} {x : CX} {s : St} : ∀ {U : List (CV × CV × Nat)}, mapGo run E M nx i m since clock d1 d2 U = .ok x s → x = .nrm
  | [], h => by simp only [mapGo] at h; injection h with h; exact h.symm
  | (k', v', b') :: U, h => by
    simp only [mapGo] at h
    split at h
    · split at h
      · exact mapGo_nrm h
      · cases h
      · cases h
    · cases h
    · rename_i s1 h1 h2
      cases hr : run ⟨(E.set d1 (.tup [.bool true, k', v'])).set d2 (.bool true), M.set i (.mapCur m since b' clock), nx, []⟩ with
      | no _ _ _ _ => rw [hr] at h; cases h
      | ok x s' => exact absurd hr (h2 x s')

section m
variable {P : Program} {b : Tb} {w0 w : World} {S : Nat → Prop} {ro : Nat} {r0 r : Rl} {M0 M : T AObj} {nx0 nx N : Nat} {base : List Deferred} {a : Act}

/-- The slots of the loop's head. -/
theorem env_two {E : T CV} {d1 d2 : Nat} {c1 c2 : CV} {u1 u2 : Value} (h : EnvT r E a.tmps) (h1 : Den r c1 u1) (h2 : Den r c2 u2) (hd1 : d1 < N) (hd2 : d2 < N) (hsz : N ≤ a.tmps.size) : EnvX r ((E.set d1 c1).set d2 c2) noX ((a.put (some d1) u1).put (some d2) u2).tmps := by
  have g1 : ∀ t, some d1 = some t → t < N := fun t ht => by cases ht; exact hd1
  have g2 : ∀ t, some d2 = some t → t < N := fun t ht => by cases ht; exact hd2
  have e1 : EnvX r (put E (some d1) c1) noX (a.put (some d1) u1).tmps := EnvX.put (EnvX.all h noX) h1 g1 hsz
  exact EnvX.put (a := a.put (some d1) u1) e1 h2 g2 (by rw [put_size]; exact hsz)

theorem run_head {l : Option Nat} {d1 d2 it ty1 ty2 : Nat} {p1 p2 : String} {a1 a2 : Array Edge} {Q : Exit → Act → World → Prop} {bi : Nat} {v0 : Bool} {vs : List Value} {w' : World} (hd1 : d1 < N) (hsz : N ≤ a.tmps.size) (hit : a.tmps.getD it undef = .pointer (some ⟨bi, 0, none⟩))
    (hrun : (Instr.next (.pointer (some ⟨bi, 0, none⟩)) false ty1).run P w = .ok (.tuple (.bool v0 :: vs).toArray) w') (hQ : Q .normal ((a.put (some d1) (.tuple (.bool v0 :: vs).toArray)).put (some d2) (.bool v0)) w') :
    wpOpsIn (Wf l) 0 P #[⟨some d1, .next (.tmp it) false, ty1, p1, a1, none⟩, ⟨some d2, .extract (.tmp d1) 0, ty2, p2, a2, none⟩] Q [0, 1] a w := by
  rw [wpOpsIn_cons]
  show (⟨some d1, .next (.tmp it) false, ty1, p1, a1, none⟩ : Oper).wpIn (Wf l) 0 P a w _ Q
  refine ⟨fun _ _ => trivial, ?_⟩
  rw [semAt_nd (by simp)]
  have e1 : (execOp a.eval ⟨some d1, .next (.tmp it) false, ty1, p1, a1, none⟩).run P w = .ok (.value (.tuple (.bool v0 :: vs).toArray)) w' := by
    simp only [execOp, Act.eval, hit, Sem.run_bind, hrun, Result.andThen_ok]
    rfl
  rw [e1, Oper.uponIn_value, wpOpsIn_cons]
  show (⟨some d2, .extract (.tmp d1) 0, ty2, p2, a2, none⟩ : Oper).wpIn (Wf l) 0 P _ w' _ Q
  refine ⟨fun _ _ => trivial, ?_⟩
  rw [semAt_nd (by simp)]
  have hd : (a.put (some d1) (.tuple (.bool v0 :: vs).toArray)).tmps.getD d1 undef = .tuple (.bool v0 :: vs).toArray := by
    simp only [Act.put, getD_set]; rw [if_pos ⟨trivial, by omega⟩]
  have e2 : (execOp (a.put (some d1) (.tuple (.bool v0 :: vs).toArray)).eval ⟨some d2, .extract (.tmp d1) 0, ty2, p2, a2, none⟩).run P w' = .ok (.value (.bool v0)) w' := by
    simp [execOp, Act.eval, hd, Instr.extract]
  rw [e2, Oper.uponIn_value]
  exact hQ

theorem post_then {x : CX} {s : St} {K : Act → World → Prop} {Q : Exit → Act → World → Prop} (hn : x = .nrm → ∀ a w, PostR P w0 S ro r0 M0 nx0 base N .nrm s .normal a w → K a w) (hx : x ≠ .nrm → ∀ e a w, e ≠ .normal → PostR P w0 S ro r0 M0 nx0 base N x s e a w → Q e a w) :
    ∀ e a w, PostR P w0 S ro r0 M0 nx0 base N x s e a w → Exit.then K Q e a w := by
  rintro e a w ⟨r, h1, h2⟩
  cases x with
  | nrm =>
    have h1 : e = .normal := h1
    subst h1
    exact hn rfl a w ⟨r, rfl, h2⟩
  | exit i =>
    have h1 : e = .exit i := h1
    subst h1
    exact hx (by simp) (.exit i) a w (by simp) ⟨r, rfl, h2⟩
  | ret =>
    have h1 : e = .ret := h1
    subst h1
    exact hx (by simp) .ret a w (by simp) ⟨r, rfl, h2⟩
  | pan ch =>
    obtain ⟨chain, rfl, h3⟩ := h1
    exact hx (by simp) (.panic chain) a w (by simp) ⟨r, ⟨chain, rfl, h3⟩, h2⟩

def leftIn (bi bm : Nat) (w : World) : Nat := match w.heap[bi]?, w.heap[bm]? with
  | some (.mapIter _ _ seen _), some (.map fs _) => (leftOf fs seen).size
  | _, _ => 0


/-! ## a round that may turn something -/
theorem leO_ok {r : Rl} {i : Nat} {o o' : AObj} {x : Obj} (h : leO o o' = true) (hl : LcO (some o) (some o')) (hx : ObjOk P r i o' x) : ObjOk P r i o x := by
  unfold leO at h
  split at h
  · rename_i st pe fn n E ps as bd d
    split at h
    · rename_i st' pe' fn' n' E' ps' as' bd' d'
      simp only [Bool.and_eq_true] at h
      obtain ⟨⟨⟨h1, h2⟩, h3⟩, h4⟩ := h
      obtain ⟨st0, pe0, E0, e0⟩ := hl st' pe' fn' n' E' ps' as' bd' d' rfl
      injection e0 with e0
      injection e0 with e1 e2 e3 e4 e5 e6 e7 e8 e9
      subst e3 e4 e6 e7 e8 e9
      rw [lsEq_ok h1, isNone_ok h2]
      rw [isNone_ok h3] at hx
      obtain ⟨tmps, db, g, k0, k1, k2, k3⟩ := hx
      exact ⟨tmps, db, g, k0, k1, k2, fun t v hv => k3 t v (keepE_ok h4 t v hv)⟩
    · cases h
  · split at h
    · simp only [Bool.and_eq_true] at h
      obtain ⟨⟨⟨h1, h2⟩, h3⟩, h4⟩ := h
      rw [optN_ok h1, natbeq_t h2, natsSame_eq h3, natbeq_t h4]
      exact hx
    · cases h
  · split at h
    · simp only [Bool.and_eq_true] at h
      obtain ⟨⟨⟨h1, h2⟩, h3⟩, h4⟩ := h
      rw [natbeq_t h1, natbeq_t h2, natbeq_t h3, natbeq_t h4]
      exact hx
    · cases h
  · split at h
    · simp only [Bool.and_eq_true] at h
      rw [natsSame_eq h.1, natbeq_t h.2]
      exact hx
    · cases h
  · rw [sameO_eq h]
    exact hx
theorem LeO.obj {r : Rl} {i : Nat} {o o' : AObj} {x : Obj} (h : LeO o o') (hx : ObjOk P r i o' x) : ObjOk P r i o x := by
  rcases h with rfl | ⟨st, pe, fn, n, E, E', ps, as, bd, d, rfl, rfl, h⟩
  · exact hx
  · obtain ⟨tmps, db, g, k0, k1, k2, k3⟩ := hx
    exact ⟨tmps, db, g, k0, k1, k2, fun t v hv => k3 t v (h t v hv)⟩
theorem LeO.cur {o o' : AObj} (h : LeO o o') : o.cur = o'.cur := by
  rcases h with rfl | ⟨st, pe, fn, n, E, E', ps, as, bd, d, rfl, rfl, h⟩ <;> rfl
/-- Less is told of a memory. -/
theorem MemR.weak {M' : T AObj} (hm : MemR P w0 S r M nx w) (h : LeW M' M) : MemR P w0 S r M' nx w := by
  have hsome : ∀ i, (M'.get i).isSome = true → (M.get i).isSome = true := fun i hi => by
    obtain ⟨o, ho⟩ := Option.isSome_iff_exists.1 hi
    obtain ⟨o', h1, _⟩ := h i o ho
    simp [h1]
  refine ⟨hm.fr, fun i bk o h1 h2 => ?_, fun i j bk h1 h2 h3 h4 => hm.inj i j bk h1 h2 (hsome i h3) (hsome j h4), fun i bk o h1 h2 h3 => ?_, fun i hi => ⟨(hm.dom i hi).1, ?_⟩⟩
  · obtain ⟨o', h3, h4⟩ := h i o h2
    obtain ⟨x, h5, h6⟩ := hm.ok i bk o' h1 h3
    exact ⟨x, h5, h4.obj h6⟩
  · obtain ⟨o', h4, h5⟩ := h i o h2
    exact hm.own i bk o' h1 h4 (by rw [← h5.cur]; exact h3)
  · cases hg : M'.get i with
    | none => rfl
    | some o =>
      obtain ⟨o', h3, _⟩ := h i o hg
      rw [(hm.dom i hi).2] at h3; cases h3
/-- Behind a round that leaves all as it was: back to what was told ahead of it. -/
theorem MemR.backLe {w2 w3 : World} {S' : Nat → Prop} {r' : Rl} {M' : T AObj} {nx' : Nat} (hm : MemR P w2 S' r M nx w2) (hst : StepR P w2 S' ro r r' M M' nx nx' w3) (hle : LeM M M') : MemR P w2 S' r M nx w3 := by
  refine ⟨hst.mem.fr, fun i bk o h1 h2 => ?_, hm.inj, hm.own, hm.dom⟩
  have hi : i < nx := by
    rcases Nat.lt_or_ge i nx with h | h
    · exact h
    · rw [(hm.dom i h).1] at h1; cases h1
  obtain ⟨o', h3, h4⟩ := hle i o h2
  obtain ⟨x0, _, h6⟩ := hm.ok i bk o h1 h2
  obtain ⟨x, h7, h8⟩ := hst.mem.ok i bk o' (hst.le i bk h1).1 h3
  have hl := hst.lc i hi
  rw [h2, h3] at hl
  exact ⟨x, h7, h6.back hst.le h1 (leO_ok h4 hl h8)⟩
/-- The iterator's entry is looked at: the world that the round begins in. -/
theorem cur_start {i m since n clock bi bm last' : Nat} {seenN : List Nat} {w1 w1' w2 : World} (hmem : MemR P w0 S r (M.set i (.mapIt (some m) since seenN last')) nx w1) (hin : i < nx) (hsi : r.σ i = some bi) (hsm : r.σ m = some bm)
    (hxo : w1.heap[bi]? = some (.mapIter (some bm) since seenN.reverse.toArray last')) (hal : w1' = w1 ∨ w1' = w1.drew) (hw2 : ({ w1' with heap := w1'.heap.setIfInBounds bi (.mapIter (some bm) since (seenN.reverse.toArray.push n) clock) } : World) = w2) :
    w2.heap[bi]? = some (.mapIter (some bm) since (seenN.reverse.toArray.push n) clock) ∧ (∀ k, k ≠ bi → w2.heap[k]? = w1.heap[k]?) ∧ (w2.os = w1.os ∧ w2.tape = w1.tape ∧ w2.output = w1.output ∧ w2.heap.size = w1.heap.size) ∧
    MemR P w2 (fun k => k ≠ bi ∧ (w0.heap.size ≤ k ∨ S k)) r (M.set i (.mapCur m since n clock)) nx w2 := by
  have hsome : ∀ (o : AObj) (j : Nat), j ≠ i → (M.set i o).get j = M.get j := fun o j hj => by rw [T.get_set, if_neg (fun e => hj e.symm)]
  have hheap : w1'.heap = w1.heap := by rcases hal with rfl | rfl <;> rfl
  have hbi : bi < w1.heap.size := (Array.getElem?_eq_some_iff.1 hxo).1
  have h2i : w2.heap[bi]? = some (.mapIter (some bm) since (seenN.reverse.toArray.push n) clock) := by subst hw2; simp [hheap, hbi]
  have h2o : ∀ k, k ≠ bi → w2.heap[k]? = w1.heap[k]? := fun k hk => by subst hw2; simp [hheap, Ne.symm hk]
  have h2f : w2.os = w1.os ∧ w2.tape = w1.tape ∧ w2.output = w1.output ∧ w2.heap.size = w1.heap.size := by
    subst hw2; rcases hal with rfl | rfl <;> exact ⟨rfl, rfl, rfl, by simp⟩
  refine ⟨h2i, h2o, h2f, ⟨rfl, rfl, rfl, Nat.le_refl _, fun _ _ _ => rfl⟩, fun j bk o h1 h2 => ?_, fun j k bk h1 h2 h3 h4 => ?_, fun j bk o h1 h2 h3 => ?_, fun j hj => ⟨(hmem.dom j hj).1, ?_⟩⟩
  · by_cases hj : j = i
    · subst hj
      rw [hsi] at h1; cases h1
      rw [T.get_set, if_pos rfl] at h2; cases h2
      exact ⟨_, h2i, bm, _, hsm, rfl, by simp⟩
    · rw [hsome _ _ hj] at h2
      obtain ⟨y, h3, h4⟩ := hmem.ok j bk o h1 (by rw [hsome _ _ hj]; exact h2)
      have hne : bk ≠ bi := fun e => hj (hmem.inj j i bk h1 (by rw [e]; exact hsi) (by rw [hsome _ _ hj]; simp [h2]) (by rw [T.get_set, if_pos rfl]; rfl))
      exact ⟨y, (h2o bk hne).trans h3, h4⟩
  · have hsm' : ∀ j, ((M.set i (.mapCur m since n clock)).get j).isSome = true → ((M.set i (.mapIt (some m) since seenN last')).get j).isSome = true := by
      intro j hj
      rw [T.get_set] at hj ⊢
      split
      · rfl
      · rename_i e; rw [if_neg e] at hj; exact hj
    exact hmem.inj j k bk h1 h2 (hsm' j h3) (hsm' k h4)
  · by_cases hj : j = i
    · subst hj
      rw [T.get_set, if_pos rfl] at h2; cases h2
      cases h3
    · rw [hsome _ _ hj] at h2
      have hne : bk ≠ bi := fun e => hj (hmem.inj j i bk h1 (by rw [e]; exact hsi) (by rw [hsome _ _ hj]; simp [h2]) (by rw [T.get_set, if_pos rfl]; rfl))
      exact .inr ⟨hne, hmem.own j bk o h1 (by rw [hsome _ _ hj]; exact h2) h3⟩
  · rw [T.get_set, if_neg (by omega)]
    have := (hmem.dom j hj).2
    rw [T.get_set, if_neg (by omega)] at this
    exact this
/-- The frame behind a round. -/
theorem fr_end {bi : Nat} {w1 w2 w3 : World} (hf1 : Fr S w0 w1) (hown : w0.heap.size ≤ bi ∨ S bi) (h2o : ∀ k, k ≠ bi → w2.heap[k]? = w1.heap[k]?) (h2f : w2.os = w1.os ∧ w2.tape = w1.tape ∧ w2.output = w1.output ∧ w2.heap.size = w1.heap.size) (hfr : Fr (fun k => k ≠ bi ∧ (w0.heap.size ≤ k ∨ S k)) w2 w3) : Fr S w0 w3 := by
  refine ⟨hfr.os.trans (h2f.1.trans hf1.os), hfr.tape.trans (h2f.2.1.trans hf1.tape), hfr.output.trans (h2f.2.2.1.trans hf1.output), Nat.le_trans hf1.size (by have := hfr.size; rw [h2f.2.2.2] at this; exact this), fun k hk hns => ?_⟩
  have hkb : k ≠ bi := by
    intro e; subst e
    exact hown.elim (fun h => absurd hk (by omega)) hns
  have hk2 : k < w2.heap.size := by rw [h2f.2.2.2]; exact Nat.lt_of_lt_of_le hk hf1.size
  rw [hfr.block k hk2 (fun hh => hh.2.elim (fun h => absurd hk (by omega)) hns), h2o k hkb]
  exact hf1.block k hk hns
/-- Behind the round the iterator is one again. -/
theorem cur_end {i m since n clock bi bm nx' : Nat} {seenN : List Nat} {w2 w3 : World} {Mx : T AObj} {c : AObj} (h3 : MemR P w2 (fun k => k ≠ bi ∧ (w0.heap.size ≤ k ∨ S k)) r Mx nx' w3) (hcur : Mx.get i = some c) (hsi : r.σ i = some bi) (hsm : r.σ m = some bm)
    (h3i : w3.heap[bi]? = some (.mapIter (some bm) since (seenN.reverse.toArray.push n) clock)) (hfr0 : Fr S w0 w3) (hown : w0.heap.size ≤ bi ∨ S bi) (h20 : w0.heap.size ≤ w2.heap.size) (hin : i < nx') : MemR P w0 S r (Mx.set i (.mapIt (some m) since (n :: seenN) clock)) nx' w3 := by
  have hsome : ∀ (o : AObj) (j : Nat), j ≠ i → (Mx.set i o).get j = Mx.get j := fun o j hj => by rw [T.get_set, if_neg (fun e => hj e.symm)]
  refine ⟨hfr0, fun j bk o h1 h2 => ?_, fun j k bk h1 h2 g3 g4 => ?_, fun j bk o h1 h2 g3 => ?_, fun j hj => ⟨(h3.dom j hj).1, ?_⟩⟩
  · by_cases hj : j = i
    · subst hj
      rw [hsi] at h1; cases h1
      rw [T.get_set, if_pos rfl] at h2; cases h2
      exact ⟨_, h3i, some bm, by simp, bm, hsm, rfl⟩
    · rw [hsome _ _ hj] at h2
      exact h3.ok j bk o h1 h2
  · have hsm' : ∀ j, ((Mx.set i (.mapIt (some m) since (n :: seenN) clock)).get j).isSome = true → (Mx.get j).isSome = true := by
      intro j hj
      rw [T.get_set] at hj
      split at hj
      · rename_i e; subst e; rw [hcur]; rfl
      · exact hj
    exact h3.inj j k bk h1 h2 (hsm' j g3) (hsm' k g4)
  · by_cases hj : j = i
    · subst hj
      rw [hsi] at h1; cases h1
      exact hown
    · rw [hsome _ _ hj] at h2
      rcases h3.own j bk o h1 h2 g3 with h | h
      · exact .inl (Nat.le_trans h20 h)
      · exact h.2
  · rw [T.get_set, if_neg (by omega)]
    exact (h3.dom j hj).2

theorem sameOO_eq {a b : Option AObj} (h : sameOO a b = true) : a = b := by
  unfold sameOO at h
  split at h
  · rw [sameO_eq h]
  · cases h
theorem LeW.lc {A B : T AObj} (h : LeW A B) (i : Nat) : LcO (B.get i) (A.get i) := fun st pe fn n E ps as bd d e => by
  obtain ⟨o', h1, h2⟩ := h i _ e
  rcases h2 with h2 | ⟨st2, pe2, fn2, n2, E2, E2', ps2, as2, bd2, d2, e1, e2, _⟩
  · subst h2; exact ⟨st, pe, E, h1⟩
  · injection e1 with g1 g2 g3 g4 g5 g6 g7 g8 g9
    subst g1 g2 g3 g4 g5 g6 g7 g8 g9 e2
    exact ⟨st, pe, E2, h1⟩
theorem LeW.set {A B : T AObj} (h : LeW A B) (i : Nat) (x : AObj) : LeW (A.set i x) (B.set i x) := fun j o e => by
  rw [T.get_set] at e ⊢
  split at e
  · rename_i he; rw [if_pos he]; exact ⟨o, e, .inl rfl⟩
  · rename_i he; rw [if_neg he]; exact h j o e
theorem picks_ok {e : CV × CV × Nat} {G : List (CV × CV × Nat)} : ∀ {U pre : List (CV × CV × Nat)}, (e, G) ∈ picks pre U → e ∈ U ∧ ∀ x, x ∈ pre ++ U → x = e ∨ x ∈ G
  | [], pre, h => by cases h
  | u :: r, pre, h => by
    simp only [picks] at h
    rcases List.mem_cons.1 h with h | h
    · injection h with h1 h2
      subst h1 h2
      refine ⟨List.mem_cons_self .., fun x hx => ?_⟩
      rcases List.mem_append.1 hx with hx | hx
      · exact .inr (List.mem_append_left _ hx)
      · rcases List.mem_cons.1 hx with hx | hx
        · exact .inl hx
        · exact .inr (List.mem_append_right _ hx)
    · obtain ⟨h1, h2⟩ := picks_ok h
      exact ⟨List.mem_cons_of_mem _ h1, fun x hx => h2 x (by simpa using hx)⟩
theorem noB_ok {b n : Nat} {k v : CV} : ∀ {G : List (CV × CV × Nat)}, noB b G = true → (k, v, n) ∈ G → n ≠ b
  | [], _, h => by cases h
  | (k', v', c) :: r, hb, h => by
    simp only [noB] at hb
    split at hb
    · cases hb
    · rename_i hc
      rcases List.mem_cons.1 h with h | h
      · injection h with _ h; injection h with _ h
        subst h; exact natbeq_f hc
      · exact noB_ok hb h
theorem allW_ok {run : St → R} {E : T CV} {M : T AObj} {nx i m since clock d1 d2 : Nat} : ∀ {U : List (CV × CV × Nat)}, allW run E M nx i m since clock d1 d2 U = true → ∀ k v n, (k, v, n) ∈ U →
    ∃ s1, run (rndS E M nx i m since clock d1 d2 k v n) = .ok .nrm s1 ∧ keepE E s1.E = true ∧ LeM (M.set i (.mapCur m since n clock)) s1.M ∧ s1.D = []
  | [], _, _, _, _, h => by cases h
  | (k', v', b') :: U, h, k, v, n, hm => by
    simp only [allW] at h
    split at h
    · rename_i hg
      rcases List.mem_cons.1 hm with e | hm
      · injection e with e1 e2; injection e2 with e2 e3
        subst e1 e2 e3
        unfold goodW at hg
        split at hg
        · rename_i s1 hr
          simp only [Bool.and_eq_true] at hg
          refine ⟨s1, hr, hg.1.1, leM_ok hg.1.2, ?_⟩
          have := hg.2
          split at this
          · assumption
          · cases this
        · cases hg
      · exact allW_ok h k v n hm
    · cases h
theorem odd_ok {run : St → R} {er : T CV → T CV} {q : ML} {s : St} {Mm : Option AObj} {o : OddR} : ∀ {L : List ((CV × CV × Nat) × List (CV × CV × Nat))}, odd run er q s Mm L = some o → ∃ e G, (e, G) ∈ L ∧ odd1 run er q G Mm s.nx e (weakW run s.nx q.i q.m q.since q.clock q.d1 q.d2 G (er s.E) s.M) = some o
  | [], h => by cases h
  | (e, G) :: r, h => by
    simp only [odd] at h
    split at h
    · rename_i o' ho
      injection h with h
      subst h
      exact ⟨e, G, List.mem_cons_self .., ho⟩
    · obtain ⟨e', G', h1, h2⟩ := odd_ok h
      exact ⟨e', G', List.mem_cons_of_mem _ h1, h2⟩
theorem isNil_t {α : Type} {l : List α} (h : isNil l = true) : l = [] := by cases l with | nil => rfl | cons _ _ => cases h
theorem odd1_ok {run : St → R} {er : T CV → T CV} {q : ML} {G : List (CV × CV × Nat)} {Mm : Option AObj} {nx : Nat} {e : CV × CV × Nat} {p : T CV × T AObj} {o : OddR} (h : odd1 run er q G Mm nx e p = some o) :
    ∃ E1 M1 k v b s1 E2 M2, p = (E1, M1) ∧ e = (k, v, b) ∧ isItV q.i (E1.get q.it) = true ∧ Mm = M1.get q.m ∧ noB b G = true ∧ allW run E1 M1 nx q.i q.m q.since q.clock q.d1 q.d2 G = true ∧
      run (rndS E1 M1 nx q.i q.m q.since q.clock q.d1 q.d2 k v b) = .ok .nrm s1 ∧ weakW run s1.nx q.i q.m q.since q.clock q.d1 q.d2 G (er s1.E) s1.M = (E2, M2) ∧ s1.D = [] ∧ isCur (s1.M.get q.i) = true ∧ Mm = M2.get q.m ∧
      isItV q.i (E2.get q.it) = true ∧ allW run E2 M2 s1.nx q.i q.m q.since q.clock q.d1 q.d2 G = true ∧ o = ⟨E2, M2, s1.nx⟩ := by
  obtain ⟨E1, M1⟩ := p
  obtain ⟨k, v, b⟩ := e
  simp only [odd1] at h
  split at h
  · rename_i hc
    simp only [Bool.and_eq_true] at hc
    obtain ⟨⟨⟨h1, h2⟩, h3⟩, h4⟩ := hc
    unfold odd2 at h
    split at h
    · rename_i s1 hr
      generalize hw : weakW run s1.nx q.i q.m q.since q.clock q.d1 q.d2 G (er s1.E) s1.M = p2 at h
      obtain ⟨E2, M2⟩ := p2
      simp only [odd3] at h
      split at h
      · rename_i hc2
        simp only [Bool.and_eq_true] at hc2
        obtain ⟨⟨⟨⟨g1, g2⟩, g3⟩, g4⟩, g5⟩ := hc2
        injection h with h
        exact ⟨E1, M1, k, v, b, s1, E2, M2, rfl, rfl, h1, sameOO_eq h2, h3, h4, hr, hw, isNil_t g1, g2, sameOO_eq g3, g4, g5, h.symm⟩
      · cases h
    · cases h
  · cases h
theorem leftC_seen {seen : List Nat} {k v : CV} {n : Nat} : ∀ {es : List (CV × CV × Nat)}, (k, v, n) ∈ leftC seen es → anyN n seen = false
  | [], h => by cases h
  | (k', v', b) :: es, h => by
    simp only [leftC] at h
    cases h2 : anyN b seen with
    | true => rw [h2] at h; exact leftC_seen h
    | false =>
      rw [h2] at h
      rcases List.mem_cons.1 h with h | h
      · injection h with _ h; injection h with _ h
        subst h; exact h2
      · exact leftC_seen h
theorem leftC_keep {seen : List Nat} {k v : CV} {n n' : Nat} (hne : n' ≠ n) : ∀ {es : List (CV × CV × Nat)}, (k, v, n) ∈ leftC seen es → (k, v, n) ∈ leftC (n' :: seen) es
  | [], h => by cases h
  | (k', v', b) :: es, h => by
    simp only [leftC, anyN] at h ⊢
    cases h2 : anyN b seen with
    | true =>
      rw [h2] at h
      have ih := leftC_keep hne h
      cases h1 : Nat.beq n' b <;> simp only <;> exact ih
    | false =>
      rw [h2] at h
      rcases List.mem_cons.1 h with hq | h
      · injection hq with e1 hq; injection hq with e2 e3
        subst e1 e2 e3
        have : Nat.beq n' n = false := by
          cases hb : Nat.beq n' n with
          | false => rfl
          | true => exact absurd (natbeq_t hb) hne
        rw [this]
        exact List.mem_cons_self ..
      · have ih := leftC_keep hne h
        cases h1 : Nat.beq n' b <;> simp only
        · exact List.mem_cons_of_mem _ ih
        · exact ih
theorem isItV_ok {i : Nat} {v : Option CV} (h : isItV i v = true) : v = some (.ptr i 0) := by
  unfold isItV at h
  split at h
  · rw [natbeq_t h]
  · cases h
theorem isCur_ok {o : Option AObj} (h : isCur o = true) : ∃ m a s c, o = some (.mapCur m a s c) := by
  unfold isCur at h
  split at h
  · exact ⟨_, _, _, _, rfl⟩
  · cases h

/-- One round of a loop over a map, whatever it does. -/
theorem round_ok {l : Option Nat} {fn : Nat} {self : Self} (hself : CodeOk P b l fn N self) {q : ML} (hcky : ckCode b fn N q.y = true) {E : T CV} {a1 : Act} {w1 w1' w2 : World} {bi bm n last' : Nat} {seenN : List Nat} {k v : CV} {e : MapEntry} {s2 : St} {Q : Exit → Act → World → Prop}
    (hron : ro ≤ nx) (hin : q.i < nx) (hsi : r.σ q.i = some bi) (hsm : r.σ q.m = some bm) (hd1 : q.d1 < N) (hd2 : q.d2 < N) (hmem : MemR P w0 S r (M.set q.i (.mapIt (some q.m) q.since seenN last')) nx w1) (henv : EnvT r E a1.tmps) (hsz : N ≤ a1.tmps.size)
    (hxo : w1.heap[bi]? = some (.mapIter (some bm) q.since seenN.reverse.toArray last')) (hal : w1' = w1 ∨ w1' = w1.drew) (hw2 : ({ w1' with heap := w1'.heap.setIfInBounds bi (.mapIter (some bm) q.since (seenN.reverse.toArray.push n) q.clock) } : World) = w2)
    (hkd : Den r k e.key) (hvd : Den r v e.val) (hrun : self ro q.y (rndS E M nx q.i q.m q.since q.clock q.d1 q.d2 k v n) = .ok .nrm s2) (hD : s2.D = [])
    (hK : ∀ a3 w3 r3, MemR P w2 (fun k => k ≠ bi ∧ (w0.heap.size ≤ k ∨ S k)) r (M.set q.i (.mapCur q.m q.since n q.clock)) nx w2 → StepR P w2 (fun k => k ≠ bi ∧ (w0.heap.size ≤ k ∨ S k)) ro r r3 (M.set q.i (.mapCur q.m q.since n q.clock)) s2.M nx s2.nx w3 → EnvT r3 s2.E a3.tmps → a3.defers = a1.defers → N ≤ a3.tmps.size →
      w3.heap[bi]? = some (.mapIter (some bm) q.since (seenN.reverse.toArray.push n) q.clock) → Fr S w0 w3 → w0.heap.size ≤ w2.heap.size → (w0.heap.size ≤ bi ∨ S bi) → Q .normal a3 w3) :
    q.y.wpIn (Wf l) 0 P Q ((a1.put (some q.d1) (.tuple [.bool true, e.key, e.val].toArray)).put (some q.d2) (.bool true)) w2 := by
  obtain ⟨h2i, h2o, h2f, hm2⟩ := cur_start hmem hin hsi hsm hxo hal hw2
  have hown : w0.heap.size ≤ bi ∨ S bi := hmem.own q.i bi _ hsi (by rw [T.get_set, if_pos rfl]) rfl
  have hstd : Std P w2 (fun k => k ≠ bi ∧ (w0.heap.size ≤ k ∨ S k)) ro r (M.set q.i (.mapCur q.m q.since n q.clock)) nx a1.defers N noX (rndS E M nx q.i q.m q.since q.clock q.d1 q.d2 k v n) r ((a1.put (some q.d1) (.tuple [.bool true, e.key, e.val].toArray)).put (some q.d2) (.bool true)) w2 :=
    ⟨StepR.refl hm2, env_two henv (by simp only [Den]; exact ⟨_, DenL.cons (by simp only [Den]) (DenL.cons hkd (DenL.cons hvd (by simp [DenL]))), rfl⟩) (by simp only [Den]) hd1 hd2 hsz, ⟨[], rfl, by rw [put_defers, put_defers]; rfl⟩, by rw [put_size, put_size]; exact hsz⟩
  refine wpIn_mono (hself ro q.y _ .nrm s2 hrun hcky w2 _ r _ nx a1.defers r _ w2 hron hstd) fun x a3 w3 hp => ?_
  obtain ⟨r3, hx, hst3, henv3, ⟨ds, hds1, hds2⟩, hsz3⟩ := hp
  have hx : x = .normal := hx
  subst hx
  rw [hD] at hds1
  have hds1 : ds = [] := hds1
  subst hds1
  have hbi : bi < w2.heap.size := (Array.getElem?_eq_some_iff.1 h2i).1
  exact hK a3 w3 r3 hm2 hst3 (fun t v hv => henv3 t v hv (fun h => h)) (by simpa using hds2) hsz3 (by rw [hst3.mem.fr.block bi hbi (by simp)]; exact h2i) (fr_end hmem.fr hown h2o h2f hst3.mem.fr) (by rw [h2f.2.2.2]; exact hmem.fr.size) hown

theorem xOdd_ok {l : Option Nat} {fn : Nat} {self : Self} (hself : CodeOk P b l fn N self) {x : Code} (hck : ckCode b fn N x = true) {s s' : St} {q : ML} (hq : mapL s.E s.M x = some q) {x' : CX} (h : xOdd fn 0 self q s.D (odd (self 0 q.y) (fun E => eraseC E x) q s (s.M.get q.m) (picks [] q.U)) = .ok x' s') (c3 : q.i < s.nx) (hs : Std P w0 S 0 r0 M0 nx0 base N noX s r a w) :
    (Code.loop x).wpIn (Wf l) 0 P (PostR P w0 S 0 r0 M0 nx0 base N x' s') a w := by
  obtain ⟨id, ops, ty1, p1, e1, ty2, p2, e2, seen, last, es, hx, hops, hit, hgi, hgm, hbl, hsl, hsc, hU⟩ := mapL_ok hq
  unfold xOdd at h
  split at h
  · rename_i o ho
    obtain ⟨e, G, hpick, ho1⟩ := odd_ok ho
    obtain ⟨E1, M1, k, v, bb, s1, E2, M2, hw1, rfl, hit1, hmm1, hnb, hall1, hrun1, hw2, hD1, hcur1, hmm2, hit2, hall2, rfl⟩ := odd1_ok ho1
    obtain ⟨hE1, hM1⟩ := weakW_ok hw1
    obtain ⟨hE2, hM2⟩ := weakW_ok hw2
    obtain ⟨heU, hUG⟩ := picks_ok hpick
    rw [hgm] at hmm1 hmm2
    have henv0 : EnvT r s.E a.tmps := fun t v hv => hs.env t v hv (fun h => h)
    simp only [xMapX] at h
    subst hx
    subst hops
    simp only [ckCode, Bool.and_eq_true] at hck
    obtain ⟨hck1, hcky⟩ := hck
    unfold ckReg at hck1
    simp only [Bool.and_eq_true, List.all_eq_true] at hck1
    have hd1 : q.d1 < N := ckDst_ok (hck1.1 _ (List.mem_cons_self ..)) q.d1 rfl
    have hd2 : q.d2 < N := ckDst_ok (hck1.1 _ (List.mem_cons_of_mem _ (List.mem_cons_self ..))) q.d2 rfl
    unfold xMapE at h
    split at h
    · cases h
    · rename_i hnn
      have hx'n : x' ≠ .nrm := fun e => by subst e; exact hnn _ h
      obtain ⟨bi, hsi, hpi⟩ := henv0 q.it _ hit
      have hm := hs.st.mem
      obtain ⟨xi, hxi, m', hxe, bm, hsm, hme⟩ := hm.ok q.i bi _ hsi hgi
      have hnei : q.m ≠ q.i := fun e => by rw [e, hgi] at hgm; cases hgm
      have hsome : ∀ (M : T AObj) (o : AObj) (j : Nat), j ≠ q.i → (M.set q.i o).get j = M.get j := fun M o j hj => by rw [T.get_set, if_neg (fun e => hj e.symm)]
      have hself2 : ∀ (M : T AObj) (x y : AObj) (j : Nat), ((M.set q.i x).set q.i y).get j = (M.set q.i y).get j := fun M x y j => by
        rw [T.get_set, T.get_set, T.get_set]; split <;> rfl
      refine wpIn_loop (fun a1 w1 => ∃ seenN last', q.since ≤ last' ∧ a1.defers = a.defers ∧ N ≤ a1.tmps.size ∧
        ((EnvT r E1 a1.tmps ∧ MemR P w0 S r (M1.set q.i (.mapIt (some q.m) q.since seenN last')) s.nx w1 ∧ (∀ e ∈ leftC seenN es, e ∈ q.U) ∧ (k, v, bb) ∈ leftC seenN es) ∨
         (∃ r2, r.le r2 ∧ q.i < s1.nx ∧ EnvT r2 E2 a1.tmps ∧ MemR P w0 S r2 (M2.set q.i (.mapIt (some q.m) q.since seenN last')) s1.nx w1 ∧ (∀ e ∈ leftC seenN es, e ∈ G) ∧
           ∀ w', MemR P w0 S r2 (M2.del q.i) s1.nx w' → StepR P w0 S 0 r0 r2 M0 (M2.del q.i) nx0 s1.nx w'))) (fun _ w1 => leftIn bi bm w1) ?_ ?_
      · refine ⟨seen, last, hsl, rfl, hs.sz, .inl ⟨fun t v hv => henv0 t v (eraseC_get (hE1 t v hv)), hm.weak fun j o hj => ?_, by rw [hU]; exact fun _ h => h, by rw [← hU]; exact heU⟩⟩
        rw [T.get_set] at hj
        split at hj
        · rename_i e; subst e; exact ⟨_, hgi, by cases hj; exact .inl rfl⟩
        · exact hM1 j o hj
      · rintro a1 w1 ⟨seenN, last', hsl', hdf, hsz, hph⟩
        -- what both phases have
        have both : ∀ (E : T CV) (M : T AObj) (nx : Nat) (r1 : Rl), r.le r1 → isItV q.i (E.get q.it) = true → M.get q.m = some (.map es q.clock) → EnvT r1 E a1.tmps → MemR P w0 S r1 (M.set q.i (.mapIt (some q.m) q.since seenN last')) nx w1 →
            a1.tmps.getD q.it undef = .pointer (some ⟨bi, 0, none⟩) ∧ w1.heap[bi]? = some (.mapIter (some bm) q.since seenN.reverse.toArray last') ∧ ∃ fs, w1.heap[bm]? = some (.map fs q.clock) ∧ EntsR r1 (leftC seenN es) (leftOf fs seenN.reverse.toArray).toList ∧ (∀ x ∈ fs.toList, x.born < q.since) ∧ leftIn bi bm w1 = (leftC seenN es).length := by
          intro E M nx r1 hle hitE hgE henv hmem
          obtain ⟨b', hb', hpt⟩ := henv q.it _ (isItV_ok hitE)
          have hsi1 := (hle q.i bi hsi).1
          have hsm1 := (hle q.m bm hsm).1
          rw [hsi1] at hb'; cases hb'
          obtain ⟨xo, hxo, m2, rfl, bm2, hsm2, rfl⟩ := hmem.ok q.i bi (.mapIt (some q.m) q.since seenN last') hsi1 (by rw [T.get_set, if_pos rfl])
          rw [hsm1] at hsm2; cases hsm2
          obtain ⟨xm, hxm, fs, rfl, hent⟩ := hmem.ok q.m bm _ hsm1 (by rw [hsome _ _ _ hnei]; exact hgE)
          have hold := bornLt_ok hbl hent
          have hleft := leftC_ok (seen := seenN) hent
          rw [← leftOf_list] at hleft
          refine ⟨hpt, hxo, fs, hxm, hleft, hold, ?_⟩
          unfold leftIn; rw [hxo, hxm]; simp only; rw [hleft.len]; simp
        -- the measure behind a round
        have less : ∀ (M : T AObj) (nx : Nat) (r1 : Rl) (n : Nat) (w3 : World) (k' v' : CV), r.le r1 → M.get q.m = some (.map es q.clock) → MemR P w0 S r1 (M.set q.i (.mapIt (some q.m) q.since (n :: seenN) q.clock)) nx w3 → w3.heap[bi]? = some (.mapIter (some bm) q.since (seenN.reverse.toArray.push n) q.clock) → (k', v', n) ∈ leftC seenN es → leftIn bi bm w3 < (leftC seenN es).length := by
          intro M nx r1 n w3 k' v' hle hgE hmem3 h3i hin
          obtain ⟨xm3, hxm3, fs3, rfl, hent3⟩ := hmem3.ok q.m bm _ (hle q.m bm hsm).1 (by rw [hsome _ _ _ hnei]; exact hgE)
          have hleft3 := leftC_ok (seen := n :: seenN) hent3
          rw [← leftOf_list] at hleft3
          have hμ3 : leftIn bi bm w3 = (leftC (n :: seenN) es).length := by
            unfold leftIn; rw [h3i, hxm3]; simp only; rw [hleft3.len]; simp
          rw [hμ3]
          exact leftC_lt hin
        rcases hph with ⟨henv, hmem, hsub, hodd⟩ | ⟨r2, hr2, hin2, henv, hmem, hsub, hclo⟩
        · obtain ⟨hpt, hxo, fs, hxm, hleft, hold, hμ⟩ := both E1 M1 s.nx r (Rl.le_refl r) hit1 hmm1.symm henv hmem
          refine wpIn_seq (wpIn_region ?_)
          show wpOpsIn _ _ _ _ _ [0, 1] a1 w1
          rcases next_gen (P := P) ty1 hxo hxm hold hsl' with ⟨h0, _⟩ | ⟨e, he, w1', hal, hrun⟩
          · exfalso
            have := hleft.len
            rw [show (leftOf fs seenN.reverse.toArray).toList.length = 0 by simpa using h0] at this
            rw [List.length_eq_zero_iff.1 this] at hodd
            cases hodd
          · obtain ⟨k', v', n, hmemE, hkd, hvd, hbn⟩ := hleft.mem he
            subst hbn
            refine run_head (vs := [e.key, e.val]) hd1 hsz hpt hrun ?_
            show Code.wpIn _ _ _ _ _ _ _
            rcases hUG _ (by simpa using hsub _ hmemE) with heq | hG
            · -- the odd one
              injection heq with g1 g2; injection g2 with g2 g3
              subst g1 g2
              rw [← g3] at hrun1 hnb
              refine round_ok (r := r) (M := M1) (nx := s.nx) hself hcky (Nat.zero_le _) c3 hsi hsm hd1 hd2 hmem henv hsz hxo hal rfl hkd hvd hrun1 hD1 fun a3 w3 r3 hm2 hst3 henv3 hdf3 hsz3 h3i hfr0 h20 hown => ?_
              obtain ⟨cm, ca, cs, cc, hcur⟩ := isCur_ok hcur1
              have hin1 : q.i < s1.nx := Nat.lt_of_lt_of_le c3 hst3.nxle
              have hmem3 := cur_end hst3.mem hcur (hst3.le _ _ hsi).1 (hst3.le _ _ hsm).1 h3i hfr0 hown h20 hin1
              have hmem4 := hmem3.weak (hM2.set q.i (.mapIt (some q.m) q.since (e.born :: seenN) q.clock))
              refine ⟨⟨e.born :: seenN, q.clock, hsc, hdf3.trans hdf, hsz3, .inr ⟨r3, hst3.le, hin1, fun t v hv => henv3 t v (eraseC_get (hE2 t v hv)), hmem4, fun y hy => ?_, fun w' hw' => ?_⟩⟩, ?_⟩
              · rcases hUG y (by simpa using hsub y (leftC_sub y hy)) with hy' | hy'
                · exfalso
                  subst hy'
                  have := leftC_seen hy
                  rw [← g3] at this
                  simp [anyN] at this
                · exact hy'
              · refine ⟨Rl.le_trans hs.st.le hst3.le, hw', Nat.le_trans hs.st.nxle hst3.nxle, fun j hj hsj => ?_, fun j hj => absurd hj (Nat.not_lt_zero _), fun j hj => ?_⟩
                · obtain ⟨u1, u2⟩ := hs.st.un j hj hsj
                  have hji : j ≠ q.i := fun e => by subst e; rw [hsi] at u1; cases u1
                  obtain ⟨u3, u4⟩ := hst3.un j (Nat.lt_of_lt_of_le hj hs.st.nxle) u1
                  refine ⟨u3, ?_⟩
                  rw [hsome _ _ _ hji] at u4
                  rw [T.get_del, if_neg (fun e => hji e.symm)]
                  cases hg2 : M2.get j with
                  | none => exact .inr (.inl rfl)
                  | some o2 =>
                    obtain ⟨o1, f1, f2⟩ := hM2 j o2 hg2
                    rcases f2 with f2 | ⟨st, pe, fn, n, E, E', ps, as, bd, d, f2, _, _⟩
                    · subst f2
                      rcases u4 with u4 | u4 | u4
                      · rw [f1] at u4
                        obtain ⟨o0, f3, f4⟩ := hM1 j o2 u4.symm
                        rcases f4 with f4 | ⟨st, pe, fn, n, E, E', ps, as, bd, d, f4, _, _⟩
                        · subst f4
                          rcases u2 with u2 | u2 | u2
                          · exact .inl (by rw [← u2, f3])
                          · rw [f3] at u2; cases u2
                          · rw [f3] at u2; exact .inr (.inr u2)
                        · subst f4; exact .inr (.inr rfl)
                      · rw [f1] at u4; cases u4
                      · rw [f1] at u4; exact .inr (.inr u4)
                    · subst f2; exact .inr (.inr rfl)
                · by_cases hji : j = q.i
                  · subst hji; rw [T.get_del, if_pos rfl]; exact LcO.none _
                  · rw [T.get_del, if_neg (fun e => hji e.symm)]
                    have l1 := hst3.lc j (Nat.lt_of_lt_of_le hj hs.st.nxle)
                    rw [hsome _ _ _ hji] at l1
                    exact (hs.st.lc j hj).trans ((hM1.lc j).trans (l1.trans (hM2.lc j)))
              · show leftIn bi bm w3 < leftIn bi bm w1
                rw [hμ]
                exact less M2 s1.nx r3 e.born w3 _ _ hst3.le hmm2.symm hmem4 h3i hmemE
            · obtain ⟨s2, hr2, hkeep, hleM, hD2⟩ := allW_ok hall1 k' v' _ hG
              refine round_ok (r := r) (M := M1) (nx := s.nx) hself hcky (Nat.zero_le _) c3 hsi hsm hd1 hd2 hmem henv hsz hxo hal rfl hkd hvd hr2 hD2 fun a3 w3 r3 hm2 hst3 henv3 hdf3 hsz3 h3i hfr0 h20 hown => ?_
              have hback := hm2.backLe hst3 hleM
              have hmem3 := (cur_end hback (by rw [T.get_set, if_pos rfl]) hsi hsm h3i hfr0 hown h20 c3).sub (M' := M1.set q.i (.mapIt (some q.m) q.since (e.born :: seenN) q.clock)) (fun j o hj => by rw [hself2]; exact hj)
              refine ⟨⟨e.born :: seenN, q.clock, hsc, hdf3.trans hdf, hsz3, .inl ⟨fun t v hv => (henv t v hv).back hst3.le (henv3 t v (keepE_ok hkeep t v hv)), hmem3, fun y hy => hsub y (leftC_sub y hy), leftC_keep (noB_ok hnb hG) hodd⟩⟩, ?_⟩
              show leftIn bi bm w3 < leftIn bi bm w1
              rw [hμ]
              exact less M1 s.nx r e.born w3 _ _ (Rl.le_refl r) hmm1.symm hmem3 h3i hmemE
        · obtain ⟨hpt, hxo, fs, hxm, hleft, hold, hμ⟩ := both E2 M2 s1.nx r2 hr2 hit2 hmm2.symm henv hmem
          have hsi2 := (hr2 q.i bi hsi).1
          have hsm2 := (hr2 q.m bm hsm).1
          refine wpIn_seq (wpIn_region ?_)
          show wpOpsIn _ _ _ _ _ [0, 1] a1 w1
          rcases next_gen (P := P) ty1 hxo hxm hold hsl' with ⟨h0, hrun⟩ | ⟨e, he, w1', hal, hrun⟩
          · refine run_head (vs := []) hd1 hsz hpt hrun ?_
            show Code.wpIn _ _ _ _ _ _ _
            have hmd : MemR P w0 S r2 (M2.del q.i) s1.nx w1 := hmem.sub fun j o hj => by
              rw [T.get_del] at hj
              split at hj
              · cases hj
              · rename_i hne; rw [T.get_set, if_neg hne]; exact hj
            have hstd : Std P w0 S 0 r0 M0 nx0 base N noX ⟨(E2.set q.d1 (.tup [.bool false])).set q.d2 (.bool false), M2.del q.i, s1.nx, s.D⟩ r2 ((a1.put (some q.d1) (.tuple [.bool false].toArray)).put (some q.d2) (.bool false)) w1 := by
              refine ⟨hclo w1 hmd, env_two henv (by simp only [Den]; exact ⟨_, DenL.cons (by simp only [Den]) (by simp [DenL]), rfl⟩) (by simp only [Den]) hd1 hd2 hsz, ?_, by rw [put_size, put_size]; exact hsz⟩
              rw [put_defers, put_defers, hdf]
              obtain ⟨ds, q1, q2⟩ := hs.df
              exact ⟨ds, q1.mono hr2, q2⟩
            refine wpIn_mono (hself 0 q.y _ x' s' h hcky w0 S r0 M0 nx0 base r2 _ w1 (Nat.zero_le _) hstd) (post_then (fun e => absurd e hx'n) fun _ e a w he hp => hp)
          · obtain ⟨k', v', n, hmemE, hkd, hvd, hbn⟩ := hleft.mem he
            subst hbn
            refine run_head (vs := [e.key, e.val]) hd1 hsz hpt hrun ?_
            show Code.wpIn _ _ _ _ _ _ _
            have hG := hsub _ hmemE
            obtain ⟨s2, hr2', hkeep, hleM, hD2⟩ := allW_ok hall2 k' v' _ hG
            refine round_ok (r := r2) (M := M2) (nx := s1.nx) hself hcky (Nat.zero_le _) hin2 hsi2 hsm2 hd1 hd2 hmem henv hsz hxo hal rfl hkd hvd hr2' hD2 fun a3 w3 r3 hm2 hst3 henv3 hdf3 hsz3 h3i hfr0 h20 hown => ?_
            have hback := hm2.backLe hst3 hleM
            have hmem3 := (cur_end hback (by rw [T.get_set, if_pos rfl]) hsi2 hsm2 h3i hfr0 hown h20 hin2).sub (M' := M2.set q.i (.mapIt (some q.m) q.since (e.born :: seenN) q.clock)) (fun j o hj => by rw [hself2]; exact hj)
            refine ⟨⟨e.born :: seenN, q.clock, hsc, hdf3.trans hdf, hsz3, .inr ⟨r2, hr2, hin2, fun t v hv => (henv t v hv).back hst3.le (henv3 t v (keepE_ok hkeep t v hv)), hmem3, fun y hy => hsub y (leftC_sub y hy), hclo⟩⟩, ?_⟩
            show leftIn bi bm w3 < leftIn bi bm w1
            rw [hμ]
            exact less M2 s1.nx r2 e.born w3 _ _ hr2 hmm2.symm hmem3 h3i hmemE
  · cases h

theorem xMap_ok {l : Option Nat} {fn : Nat} {self : Self} (hself : CodeOk P b l fn N self) {x : Code} (hck : ckCode b fn N x = true) {s s' : St} {q : ML} (hq : mapL s.E s.M x = some q) {x' : CX} (h : xMap fn ro self x s q = .ok x' s') (hro0 : ro ≤ nx0) (hs : Std P w0 S ro r0 M0 nx0 base N noX s r a w) :
    (Code.loop x).wpIn (Wf l) 0 P (PostR P w0 S ro r0 M0 nx0 base N x' s') a w := by
  obtain ⟨id, ops, ty1, p1, e1, ty2, p2, e2, seen, last, es, hx, hops, hit, hgi, hgm, hbl, hsl, hsc, hU⟩ := mapL_ok hq
  subst hx
  subst hops
  unfold xMap at h
  split at h
  · rename_i hcond
    simp only [Bool.and_eq_true] at hcond
    obtain ⟨⟨⟨c1, c2⟩, c3⟩, c4⟩ := hcond
    have c1 := ble_t c1
    have c3 := blt_t c3
    have c4 := blt_t c4
    generalize hE0 : eraseC s.E (.seq (.region id #[⟨some q.d1, .next (.tmp q.it) false, ty1, p1, e1, none⟩, ⟨some q.d2, .extract (.tmp q.d1) 0, ty2, p2, e2, none⟩] false) q.y) = E0 at h c2
    have hE0it : E0.get q.it = some (.ptr q.i 0) := by
      unfold isIt at c2
      split at c2
      · rename_i j hj; rw [hj, natbeq_t c2]
      · cases c2
    have hE0s : ∀ t v, E0.get t = some v → s.E.get t = some v := fun t v hv => by subst hE0; exact eraseC_get hv
    have henv0 : EnvT r s.E a.tmps := fun t v hv => hs.env t v hv (fun h => h)
    -- the check of the code
    simp only [ckCode, Bool.and_eq_true] at hck
    obtain ⟨hck1, hcky⟩ := hck
    unfold ckReg at hck1
    simp only [Bool.and_eq_true, List.all_eq_true] at hck1
    have hd1 : q.d1 < N := ckDst_ok (hck1.1 _ (List.mem_cons_self ..)) q.d1 rfl
    have hd2 : q.d2 < N := ckDst_ok (hck1.1 _ (List.mem_cons_of_mem _ (List.mem_cons_self ..))) q.d2 rfl
    -- the evaluator's runs
    unfold xMap2 at h
    split at h
    · unfold xMapX at h
      rename_i xx ss hgo
      have := mapGo_nrm hgo
      subst this
      have hgo := fun k v n hm => mapGo_ok hgo k v n hm
      unfold xMapE at h
      split at h
      · cases h
      · rename_i hnn
        have hx'n : x' ≠ .nrm := fun e => by subst e; exact hnn _ h
        -- the blocks
        obtain ⟨bi, hsi, hpi⟩ := henv0 q.it _ hit
        have hm := hs.st.mem
        obtain ⟨xi, hxi, m', hxe, bm, hsm, hme⟩ := hm.ok q.i bi _ hsi hgi
        have hnei : q.m ≠ q.i := fun e => by rw [e, hgi] at hgm; cases hgm
        have hnb : bm ≠ bi := fun e => hnei (hm.inj q.m q.i bm hsm (by rw [e]; exact hsi) (by simp [hgm]) (by simp [hgi]))
        have hroi : ro ≤ q.i := c1
        have hsome : ∀ (o : AObj) (j : Nat), j ≠ q.i → (s.M.set q.i o).get j = s.M.get j := fun o j hj => by rw [T.get_set, if_neg (fun e => hj e.symm)]
        refine wpIn_loop (fun a1 w1 => ∃ seenN last', q.since ≤ last' ∧ (∀ e ∈ leftC seenN es, e ∈ q.U) ∧ EnvT r E0 a1.tmps ∧ MemR P w0 S r (s.M.set q.i (.mapIt (some q.m) q.since seenN last')) s.nx w1 ∧ a1.defers = a.defers ∧ N ≤ a1.tmps.size) (fun _ w1 => leftIn bi bm w1) ?_ ?_
        · refine ⟨seen, last, hsl, by rw [hU]; exact fun _ h => h, fun t v hv => henv0 t v (hE0s t v hv), hm.sub fun j o hj => ?_, rfl, hs.sz⟩
          rw [T.get_set] at hj
          split at hj
          · rename_i e; subst e; rw [hgi]; exact hj
          · exact hj
        · rintro a1 w1 ⟨seenN, last', hsl', hsub, henv, hmem, hdf, hsz⟩
          obtain ⟨b', hb', hpt⟩ := henv q.it _ hE0it
          rw [hsi] at hb'; cases hb'
          obtain ⟨xo, hxo, m2, rfl, bm2, hsm2, rfl⟩ := hmem.ok q.i bi (.mapIt (some q.m) q.since seenN last') hsi (by rw [T.get_set, if_pos rfl])
          rw [hsm] at hsm2; cases hsm2
          obtain ⟨xm, hxm, fs, rfl, hent⟩ := hmem.ok q.m bm _ hsm (by rw [hsome _ _ hnei]; exact hgm)
          have hold := bornLt_ok hbl hent
          have hleft := leftC_ok (seen := seenN) hent
          rw [← leftOf_list] at hleft
          have hμ : leftIn bi bm w1 = (leftC seenN es).length := by
            unfold leftIn; rw [hxo, hxm]; simp only; rw [hleft.len]; simp
          refine wpIn_seq (wpIn_region ?_)
          show wpOpsIn _ _ _ _ _ [0, 1] a1 w1
          rcases next_gen (P := P) ty1 hxo hxm hold hsl' with ⟨h0, hrun⟩ | ⟨e, he, w1', hal, hrun⟩
          · -- none is left
            refine run_head (vs := []) hd1 hsz hpt hrun ?_
            show Code.wpIn _ _ _ _ _ _ _
            have hstd : Std P w0 S ro r0 M0 nx0 base N noX ⟨(E0.set q.d1 (.tup [.bool false])).set q.d2 (.bool false), s.M.del q.i, s.nx, s.D⟩ r ((a1.put (some q.d1) (.tuple [.bool false].toArray)).put (some q.d2) (.bool false)) w1 := by
              refine ⟨⟨hs.st.le, hmem.sub fun j o hj => ?_, hs.st.nxle, fun j hj hsj => ?_, fun j hj hjn => ?_, fun j hj => ?_⟩, env_two henv (by simp only [Den]; exact ⟨_, DenL.cons (by simp only [Den]) (by simp [DenL]), rfl⟩) (by simp only [Den]) hd1 hd2 hsz, ?_, by rw [put_size, put_size]; exact hsz⟩
              · rw [T.get_del] at hj
                split at hj
                · cases hj
                · rename_i hne; rw [T.get_set, if_neg hne]; exact hj
              · obtain ⟨g1, g2⟩ := hs.st.un j hj hsj
                refine ⟨g1, ?_⟩
                rw [T.get_del]
                split
                · exact .inr (.inl rfl)
                · exact g2
              · rw [T.get_del, if_neg (by omega)]; exact hs.st.roq j hj hjn
              · rw [T.get_del]
                split
                · exact LcO.none _
                · exact hs.st.lc j hj
              · rw [put_defers, put_defers, hdf]; exact hs.df
            refine wpIn_mono (hself ro q.y _ x' s' h hcky w0 S r0 M0 nx0 base r _ w1 hro0 hstd) (post_then (fun e => absurd e hx'n) fun _ e a w he hp => hp)
          · -- one more
            obtain ⟨k, v, n, hmemE, hkd, hvd, hbn⟩ := hleft.mem he
            obtain ⟨s1, hr1, hkeep, hD1⟩ := hgo k v n (hsub _ hmemE)
            refine run_head (vs := [e.key, e.val]) hd1 hsz hpt hrun ?_
            show Code.wpIn _ _ _ _ _ _ _
            generalize hw2 : ({ w1' with heap := w1'.heap.setIfInBounds bi (.mapIter (some bm) q.since (seenN.reverse.toArray.push e.born) q.clock) } : World) = w2
            have hheap : w1'.heap = w1.heap := by rcases hal with rfl | rfl <;> rfl
            have hbi : bi < w1.heap.size := (Array.getElem?_eq_some_iff.1 hxo).1
            have h2i : w2.heap[bi]? = some (.mapIter (some bm) q.since (seenN.reverse.toArray.push e.born) q.clock) := by subst hw2; simp [hheap, hbi]
            have h2o : ∀ k, k ≠ bi → w2.heap[k]? = w1.heap[k]? := fun k hk => by subst hw2; simp [hheap, Ne.symm hk]
            have h2f : w2.os = w1.os ∧ w2.tape = w1.tape ∧ w2.output = w1.output ∧ w2.heap.size = w1.heap.size := by
              subst hw2; rcases hal with rfl | rfl <;> exact ⟨rfl, rfl, rfl, by simp⟩
            have hm2 : MemR P w2 (fun k => k ≠ bi ∧ (w0.heap.size ≤ k ∨ S k)) r (s.M.set q.i (.mapCur q.m q.since n q.clock)) s.nx w2 := by
              refine ⟨⟨rfl, rfl, rfl, Nat.le_refl _, fun _ _ _ => rfl⟩, fun j bk o h1 h2 => ?_, fun j k bk h1 h2 h3 h4 => ?_, fun j bk o h1 h2 h3 => ?_, fun j hj => ⟨(hmem.dom j hj).1, ?_⟩⟩
              · by_cases hj : j = q.i
                · subst hj
                  rw [hsi] at h1; cases h1
                  rw [T.get_set, if_pos rfl] at h2; cases h2
                  exact ⟨_, h2i, bm, _, hsm, rfl, by simp [hbn]⟩
                · rw [hsome _ _ hj] at h2
                  obtain ⟨y, h3, h4⟩ := hmem.ok j bk o h1 (by rw [hsome _ _ hj]; exact h2)
                  have hne : bk ≠ bi := fun e => hj (hmem.inj j q.i bk h1 (by rw [e]; exact hsi) (by rw [hsome _ _ hj]; simp [h2]) (by rw [T.get_set, if_pos rfl]; rfl))
                  exact ⟨y, (h2o bk hne).trans h3, h4⟩
              · have hsm' : ∀ j, ((s.M.set q.i (.mapCur q.m q.since n q.clock)).get j).isSome = true → ((s.M.set q.i (.mapIt (some q.m) q.since seenN last')).get j).isSome = true := by
                  intro j hj
                  rw [T.get_set] at hj ⊢
                  split
                  · rfl
                  · rename_i e; rw [if_neg e] at hj; exact hj
                exact hmem.inj j k bk h1 h2 (hsm' j h3) (hsm' k h4)
              · by_cases hj : j = q.i
                · subst hj
                  rw [T.get_set, if_pos rfl] at h2; cases h2
                  cases h3
                · rw [hsome _ _ hj] at h2
                  have hne : bk ≠ bi := fun e => hj (hmem.inj j q.i bk h1 (by rw [e]; exact hsi) (by rw [hsome _ _ hj]; simp [h2]) (by rw [T.get_set, if_pos rfl]; rfl))
                  exact .inr ⟨hne, hmem.own j bk o h1 (by rw [hsome _ _ hj]; exact h2) h3⟩
              · rw [T.get_set, if_neg (by omega)]
                have := (hmem.dom j hj).2
                rw [T.get_set, if_neg (by omega)] at this
                exact this
            have hstd : Std P w2 (fun k => k ≠ bi ∧ (w0.heap.size ≤ k ∨ S k)) s.nx r (s.M.set q.i (.mapCur q.m q.since n q.clock)) s.nx a.defers N noX ⟨(E0.set q.d1 (.tup [.bool true, k, v])).set q.d2 (.bool true), s.M.set q.i (.mapCur q.m q.since n q.clock), s.nx, []⟩ r ((a1.put (some q.d1) (.tuple [.bool true, e.key, e.val].toArray)).put (some q.d2) (.bool true)) w2 :=
              ⟨StepR.refl hm2, env_two henv (by simp only [Den]; exact ⟨_, DenL.cons (by simp only [Den]) (DenL.cons hkd (DenL.cons hvd (by simp [DenL]))), rfl⟩) (by simp only [Den]) hd1 hd2 hsz, ⟨[], rfl, by rw [put_defers, put_defers, hdf]; rfl⟩, by rw [put_size, put_size]; exact hsz⟩
            refine wpIn_mono (hself s.nx q.y _ .nrm s1 hr1 hcky w2 _ r _ s.nx a.defers r _ w2 (Nat.le_refl _) hstd) (post_then (fun _ a3 w3 hp => ?_) fun e => absurd rfl e)
            obtain ⟨r', _, hst3, henv3, ⟨ds, hds1, hds2⟩, hsz3⟩ := hp
            rw [hD1] at hds1
            have hds1 : ds = [] := hds1
            subst hds1
            have hfr := hst3.mem.fr
            have h3i : w3.heap[bi]? = some (.mapIter (some bm) q.since (seenN.reverse.toArray.push e.born) q.clock) := by
              have hb2 : bi < w2.heap.size := by rw [h2f.2.2.2]; exact hbi
              rw [hfr.block bi hb2 (by simp)]; exact h2i
            have hback := hm2.back hst3.mem hst3.le (fun j hj => hst3.roq j hj hj)
            have hfr0 : Fr S w0 w3 := by
              have hf1 := hmem.fr
              refine ⟨hfr.os.trans (h2f.1.trans hf1.os), hfr.tape.trans (h2f.2.1.trans hf1.tape), hfr.output.trans (h2f.2.2.1.trans hf1.output), Nat.le_trans hf1.size (by have := hfr.size; rw [h2f.2.2.2] at this; exact this), fun k hk hns => ?_⟩
              have hkb : k ≠ bi := by
                intro e; subst e
                have := hmem.own q.i _ _ hsi (by rw [T.get_set, if_pos rfl]) rfl
                exact this.elim (fun h => absurd hk (by omega)) hns
              have hk2 : k < w2.heap.size := by rw [h2f.2.2.2]; exact Nat.lt_of_lt_of_le hk hf1.size
              rw [hfr.block k hk2 (fun hh => hh.2.elim (fun h => absurd hk (by omega)) hns), h2o k hkb]
              exact hf1.block k hk hns
            have hmem3 : MemR P w0 S r (s.M.set q.i (.mapIt (some q.m) q.since (n :: seenN) q.clock)) s.nx w3 := by
              refine ⟨hfr0, fun j bk o h1 h2 => ?_, fun j k bk h1 h2 h3 h4 => ?_, fun j bk o h1 h2 h3 => ?_, fun j hj => ⟨(hmem.dom j hj).1, ?_⟩⟩
              · by_cases hj : j = q.i
                · subst hj
                  rw [hsi] at h1; cases h1
                  rw [T.get_set, if_pos rfl] at h2; cases h2
                  exact ⟨_, h3i, some bm, by simp [hbn], bm, hsm, rfl⟩
                · rw [hsome _ _ hj] at h2
                  exact hback.ok j bk o h1 (by rw [hsome _ _ hj]; exact h2)
              · have hsm' : ∀ j, ((s.M.set q.i (.mapIt (some q.m) q.since (n :: seenN) q.clock)).get j).isSome = true → ((s.M.set q.i (.mapIt (some q.m) q.since seenN last')).get j).isSome = true := by
                  intro j hj
                  rw [T.get_set] at hj ⊢
                  split
                  · rfl
                  · rename_i e; rw [if_neg e] at hj; exact hj
                exact hmem.inj j k bk h1 h2 (hsm' j h3) (hsm' k h4)
              · by_cases hj : j = q.i
                · subst hj
                  exact hmem.own q.i bk (.mapIt (some q.m) q.since seenN last') h1 (by rw [T.get_set, if_pos rfl]) rfl
                · rw [hsome _ _ hj] at h2
                  exact hmem.own j bk o h1 (by rw [hsome _ _ hj]; exact h2) h3
              · rw [T.get_set, if_neg (by omega)]
                have := (hmem.dom j hj).2
                rw [T.get_set, if_neg (by omega)] at this
                exact this
            refine ⟨⟨n :: seenN, q.clock, hsc, fun e he => hsub e (leftC_sub e he), fun t v hv => ?_, hmem3, hds2, hsz3⟩, ?_⟩
            · have h1 := keepE_ok hkeep t v hv
              exact (henv t v hv).back hst3.le (henv3 t v h1 (fun h => h))
            · show leftIn bi bm w3 < leftIn bi bm w1
              obtain ⟨xm3, hxm3, fs3, rfl, hent3⟩ := hmem3.ok q.m bm _ hsm (by rw [hsome _ _ hnei]; exact hgm)
              have hleft3 := leftC_ok (seen := n :: seenN) hent3
              rw [← leftOf_list] at hleft3
              have hμ3 : leftIn bi bm w3 = (leftC (n :: seenN) es).length := by
                unfold leftIn; rw [h3i, hxm3]; simp only; rw [hleft3.len]; simp [hbn]
              rw [hμ, hμ3]
              exact leftC_lt hmemE
    · split at h
      · exact xOdd_ok hself (by simp only [ckCode, Bool.and_eq_true]; exact ⟨by unfold ckReg; simp only [Bool.and_eq_true, List.all_eq_true]; exact hck1, hcky⟩) hq h c3 hs
      · cases h
  · cases h
end m
end Go.Proofs.YtaodejbcmaeaaaaGreat.CE
