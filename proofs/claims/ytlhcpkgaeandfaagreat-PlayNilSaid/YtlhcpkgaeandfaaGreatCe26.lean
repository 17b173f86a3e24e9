/- The concrete evaluator: calls, to any depth: the evaluator is sound. No statement of the seat is proved here. -/
import Derived.Test.YtlhcpkgaeandfaaGreatCe25
set_option linter.unusedVariables false
set_option linter.unusedSimpArgs false
namespace Go.Proofs.YtlhcpkgaeandfaaGreat.CE
open Go Go.RowKit
open Go.Proofs.YtlhcpkgaeandfaaGreat.Eng (Fr Pl pl TyI TyK Tab TabOk kix)

section m
variable {P : Program} {b : Tb} {w0 w : World} {S : Nat → Prop} {ro : Nat} {r0 r : Rl} {M0 M : T AObj} {nx0 nx N : Nat} {base : List Deferred} {a : Act} {E : T CV}

/-! ## runs that are known -/
/-- A function without arguments that leaves the memory as it is. -/
def PfOk (P : Program) (b : Tb) : Prop := ∀ g v, b.pf g = some v → ∀ w, FnDoes P g #[] w fun e w' => ∃ u, e = .returned u ∧ (∀ r, Den r v u) ∧ Fr (fun _ => False) w w'
def MmOk (P : Program) (b : Tb) : Prop := ∀ g m, m ∈ b.mm g → ∀ (w0 : World) (S : Nat → Prop) (r : Rl) (w : World) (us : List Value), MemR P w0 S r m.M m.nx w → DenL r m.as us → FnDoes P g us.toArray w (RCP P w0 S 0 r m.M m.nx (.ret m.v m.M' m.nx'))

theorem FnDoes.mono {g : Nat} {us : Array Value} {R R' : Ending → World → Prop} (h : FnDoes P g us w R) (hr : ∀ e w', R e w' → R' e w') : FnDoes P g us w R' := by
  rcases h with ⟨h1, h2⟩ | ⟨u, w', h1, h2⟩
  · exact .inl ⟨h1, h2.mono hr⟩
  · exact .inr ⟨u, w', h1, hr _ _ h2⟩

theorem Fr.trans' {w1 w2 : World} (h : Fr S w0 w1) (k : Fr (fun _ => False) w1 w2) : Fr S w0 w2 :=
  ⟨k.os.trans h.os, k.tape.trans h.tape, k.output.trans h.output, Nat.le_trans h.size k.size, fun i hi hs => (k.block i (Nat.lt_of_lt_of_le hi h.size) (fun h => h)).trans (h.block i hi hs)⟩

/-- Nothing old was turned. -/
theorem MemR.keep {w' : World} (hm : MemR P w0 S r M nx w) (h : Fr (fun _ => False) w w') : MemR P w0 S r M nx w' :=
  ⟨Fr.trans' hm.fr h, fun i bk o h1 h2 => by
    obtain ⟨x, h3, h4⟩ := hm.ok i bk o h1 h2
    have hlt : bk < w.heap.size := (Array.getElem?_eq_some_iff.1 h3).1
    exact ⟨x, (h.block bk hlt (fun h => h)).trans h3, h4⟩, hm.inj, hm.own, hm.dom⟩

/-! ## a memory in another one -/
theorem sameT_eq : ∀ {a b : T CV}, sameT a b = true → a = b
  | .lf, .lf, _ => rfl
  | .lf, .nd _ _ _, h => by simp [sameT] at h
  | .nd _ _ _, .lf, h => by simp [sameT] at h
  | .nd v l r, .nd v' l' r', h => by
    simp only [sameT] at h
    split at h
    · rename_i h1
      split at h
      · rename_i h2
        rw [sameT_eq h2, sameT_eq h]
        cases v <;> cases v' <;> simp only [sameT.sameV, Bool.false_eq_true] at h1
        · rfl
        · rw [same_eq h1]
      · cases h
    · cases h
theorem sameRow_eq {a b : Row} (h : sameRow a b = true) : a = b := by
  unfold sameRow at h
  split at h
  · rename_i h1 h2
    split at h
    · rename_i h3
      obtain ⟨n, sz, z, t⟩ := a
      obtain ⟨n', sz', z', t'⟩ := b
      simp only at h1 h2 h3 h
      rw [natbeq_t h1, natbeq_t h2, sameT_eq h3, sameT_eq h]
    · cases h
  · cases h
theorem sameEs_eq : ∀ {a b : List (CV × CV × Nat)}, sameEs a b = true → a = b
  | [], [], _ => rfl
  | [], _ :: _, h => by simp [sameEs] at h
  | _ :: _, [], h => by simp [sameEs] at h
  | (k, v, n) :: r, (k', v', n') :: r', h => by
    simp only [sameEs] at h
    split at h
    · rename_i h1 h2 h3
      rw [same_eq h1, same_eq h2, natbeq_t h3, sameEs_eq h]
    · cases h
theorem sameO_eq {a b : AObj} (h : sameO a b = true) : a = b := by
  unfold sameO at h
  split at h
  · split at h
    · rename_i h1; rw [natbeq_t h1, sameRow_eq h]
    · cases h
  · split at h
    · rename_i h1; rw [natbeq_t h1, sameRow_eq h]
    · cases h
  · split at h
    · rename_i h1; rw [natbeq_t h1, sameEs_eq h]
    · cases h
  · rfl
  · cases h
theorem subM_ok : ∀ {A B : T AObj}, subM A B = true → Sub A B
  | .lf, _, _ => fun i o h => by simp [T.get_lf] at h
  | .nd _ _ _, .lf, h => by simp [subM] at h
  | .nd v l r, .nd v' l' r', h => by
    simp only [subM] at h
    split at h
    · rename_i h1
      split at h
      · rename_i h2
        intro i o hi
        cases i with
        | zero =>
          rw [T.get_nd0] at hi ⊢
          subst hi
          cases v' with
          | none => simp [subM.subV] at h1
          | some o' => simp only [subM.subV] at h1; rw [sameO_eq h1]
        | succ i =>
          rw [T.get_ndS] at hi ⊢
          split at hi
          · exact subM_ok h2 _ o hi
          · exact subM_ok h _ o hi
      · cases h
    · cases h
theorem findM_ok {args : List CV} {m : Mm} : ∀ {l : List Mm}, findM args M nx l = some m → m ∈ l ∧ m.nx = nx ∧ m.as = args ∧ Sub m.M M
  | [], h => by simp [findM] at h
  | x :: l, h => by
    simp only [findM] at h
    split at h
    · obtain ⟨h1, h2⟩ := findM_ok h; exact ⟨List.mem_cons_of_mem _ h1, h2⟩
    · rename_i hn
      split at h
      · obtain ⟨h1, h2⟩ := findM_ok h; exact ⟨List.mem_cons_of_mem _ h1, h2⟩
      · rename_i ha
        split at h
        · rename_i hs
          injection h with h; subst h
          exact ⟨List.mem_cons_self .., natbeq_t hn, sameL_eq ha, subM_ok hs⟩
        · obtain ⟨h1, h2⟩ := findM_ok h; exact ⟨List.mem_cons_of_mem _ h1, h2⟩

/-! ## calls -/
theorem call2_ok (hT : TbOk P b) {rs : Fs} (hd : DfrOk P rs.dfr) (hcl : ∀ w0 S, ClOk P w0 S ⟨rs.call, rs.yield⟩) {g : Nat} {as : List CV} {us : List Value} (hm : MemR P w0 S r M nx w) (h : DenL r as us) (hro : ro ≤ nx) (hno : (call2 b rs ro g as M nx).isNo = false) : FnDoes P g us.toArray w (RCP P w0 S ro r M nx (call2 b rs ro g as M nx)) := by
  unfold call2 at hno ⊢
  cases hfn : b.fn g with
  | none =>
    rw [hfn] at hno
    simp only at hno ⊢
    cases hx : b.ext g with
    | none => rw [hx] at hno; cases hno
    | some name =>
      rw [hx] at hno
      exact nats_ok hT hx hm h hno
  | some fi =>
    rw [hfn] at hno
    simp only at hno ⊢
    cases hle : Nat.ble (lenL as) fi.n with
    | false => rw [hle] at hno; cases hno
    | true =>
      rw [hle] at hno
      exact .inl ⟨(hT.fn g fi hfn).1 _ _, fini_ok hT hd hcl hfn hm hro h hle hno⟩

theorem callC_ok (hT : TbOk P b) (hpf : PfOk P b) (hmm : MmOk P b) {rs : Fs} (hd : DfrOk P rs.dfr) (hcl : ∀ w0 S, ClOk P w0 S ⟨rs.call, rs.yield⟩) {g : Nat} {as : List CV} {us : List Value} (hm : MemR P w0 S r M nx w) (h : DenL r as us) (hro : ro ≤ nx) (hno : (callC b rs ro g as M nx).isNo = false) : FnDoes P g us.toArray w (RCP P w0 S ro r M nx (callC b rs ro g as M nx)) := by
  unfold callC at hno ⊢
  cases hp : b.pf g with
  | some v =>
    rw [hp] at hno
    simp only at hno ⊢
    cases as with
    | cons _ _ => cases hno
    | nil =>
      simp only [DenL] at h; subst h
      refine (hpf g v hp w).mono fun e w' he => ?_
      obtain ⟨u, rfl, h1, h2⟩ := he
      exact ⟨u, r, rfl, h1 r, StepR.refl (hm.keep h2)⟩
  | none =>
    rw [hp] at hno
    simp only at hno ⊢
    unfold call1 at hno ⊢
    cases hl : b.mm g with
    | nil =>
      rw [hl] at hno
      exact call2_ok hT hd hcl hm h hro hno
    | cons x l =>
      rw [hl] at hno
      simp only at hno ⊢
      cases ro with
      | succ ro => exact call2_ok hT hd hcl hm h hro hno
      | zero =>
        simp only at hno ⊢
        cases hf : findM as M nx (x :: l) with
        | none =>
          rw [hf] at hno
          exact call2_ok hT hd hcl hm h hro hno
        | some m =>
          simp only
          obtain ⟨h1, h2, h3, h4⟩ := findM_ok hf
          have hm2 : MemR P w0 S r m.M m.nx w := by rw [h2]; exact hm.sub h4
          refine (hmm g m (by rw [hl]; exact h1) w0 S r w us hm2 (by rw [h3]; exact h)).mono fun e w' he => ?_
          obtain ⟨u, r', rfl, k1, k2⟩ := he
          rw [h2] at k2
          refine ⟨u, r', rfl, k1, k2.le, k2.mem, k2.nxle, fun i hi hs => ?_, fun i hi => absurd hi (Nat.not_lt_zero _)⟩
          obtain ⟨e1, e2⟩ := k2.un i hi hs
          refine ⟨e1, ?_⟩
          rcases e2 with e2 | e2
          · cases hmi : m.M.get i with
            | none => rw [hmi] at e2; exact .inr e2
            | some o => rw [hmi] at e2; exact .inl (e2.trans (h4 i o hmi).symm)
          · exact .inr e2

/-- The evaluator is sound, to any depth. -/
theorem fs_ok (hT : TbOk P b) (hpf : PfOk P b) (hmm : MmOk P b) : ∀ k, (∀ w0 S, ClOk P w0 S ⟨(fs b k).call, (fs b k).yield⟩) ∧ DfrOk P (fs b k).dfr
  | 0 => ⟨fun w0 S => ⟨fun ro g as M nx r w us _ _ _ hno => (by cases hno), fun ro j as M nx r w us bk _ _ _ _ hno => (by cases hno)⟩, fun ro g as u M nx u' M' nx' h => (by cases h)⟩
  | k + 1 => by
    obtain ⟨h1, h2⟩ := fs_ok hT hpf hmm k
    exact ⟨fun w0 S => ⟨fun ro g as M nx r w us hm has hro hno => callC_ok hT hpf hmm h2 h1 hm has hro hno, fun ro j as M nx r w us bk hm has hs hro hno => yld_ok hT h1 hm has hs hro hno⟩, dfr_ok hT h1⟩

/-- Nothing is known of the memory. -/
theorem mem0 (n : Nat) (w : World) : MemR P w (fun _ => False) ⟨fun _ => none, fun _ => 0, fun _ => #[]⟩ .lf n w :=
  ⟨⟨rfl, rfl, rfl, Nat.le_refl _, fun _ _ _ => rfl⟩, fun i b o h => (by cases h), fun i j b h => (by cases h), fun i b o h => (by cases h), fun i _ => ⟨rfl, T.get_lf i⟩⟩

/-- A call from a memory of which nothing is known. -/
theorem top_ok (hT : TbOk P b) (hpf : PfOk P b) (hmm : MmOk P b) {k g n nx : Nat} {as : List CV} {v : CV} {M : T AObj} (h : (fs b k).call 0 g as .lf n = .ret v M nx) {us : List Value} (hd : DenL ⟨fun _ => none, fun _ => 0, fun _ => #[]⟩ as us) (w : World) :
    FnDoes P g us.toArray w fun e w' => ∃ u r, e = .returned u ∧ Den r v u ∧ Fr (fun _ => False) w w' := by
  have hno : ((fs b k).call 0 g as .lf n).isNo = false := by rw [h]; rfl
  have := ((fs_ok hT hpf hmm k).1 w (fun _ => False)).call 0 g as .lf n _ w us (mem0 n w) hd (Nat.zero_le _) hno
  refine this.mono fun e w' he => ?_
  simp only [h] at he
  obtain ⟨u, r', rfl, h1, h2⟩ := he
  exact ⟨u, r', rfl, h1, h2.mem.fr⟩
end m
end Go.Proofs.YtlhcpkgaeandfaaGreat.CE
