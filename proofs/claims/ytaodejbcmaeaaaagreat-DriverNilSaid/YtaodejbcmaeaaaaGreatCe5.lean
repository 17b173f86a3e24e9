/- The concrete evaluator: operations that yield a value and leave the memory. No statement of the seat is proved here. -/
import Derived.Test.YtaodejbcmaeaaaaGreatCe4
set_option linter.unusedVariables false
set_option linter.unusedSimpArgs false
namespace Go.Proofs.YtaodejbcmaeaaaaGreat.CE
open Go Go.RowKit
open Go.Proofs.YtaodejbcmaeaaaaGreat.Eng (Fr Pl pl TyI TyK Tab TabOk kix)

section bin
variable {P : Program} {b : Tb} {w0 w : World} {S : Nat → Prop} {r : Rl} {M : T AObj} {nx : Nat}

def eqlSem (op : BinOp) (t : TypeId) (u v : Value) : Sem Value := match op with | .eql => (do pure (.bool (← Op.equal t u v)) : Sem Value) | _ => (do pure (.bool (!(← Op.equal t u v))))
theorem eqR_run {op : BinOp} {t : TypeId} {ox oy : Operand} {u v : Value} {c : Bool} {z : CV} (h : eqR op c = some z) (hg : (eqGuard op t ox oy u v).run P w = .ok () w) (he : (Op.equal t u v).run P w = .ok c w)
    (hop : op = .eql ∨ op = .neq → binOp op t u v = eqlSem op t u v) :
    ∃ y, (do eqGuard op t ox oy u v; binOp op t u v : Sem Value).run P w = .ok y w ∧ Den r z y := by
  cases op <;> simp only [eqR, Option.some.injEq, reduceCtorEq] at h
  · subst h
    refine ⟨.bool c, ?_, by simp [Den]⟩
    rw [hop (.inl rfl)]
    simp [hg, he, eqlSem]
  · subst h
    refine ⟨.bool (!c), ?_, by simp [Den, nB_eq]⟩
    rw [hop (.inr rfl)]
    simp [hg, he, eqlSem]

theorem guard_run {op : BinOp} {t : TypeId} {ox oy : Operand} {u v : Value} (h1 : ¬ (u = .nilIface ∧ v = .nilIface)) (h2 : (∃ xs, u = .agg xs) → P.eqGuardType P.depth t = false) : (eqGuard op t ox oy u v).run P w = .ok () w := by
  unfold eqGuard
  cases hop : (!(op matches .eql | .neq)) with
  | true => simp
  | false =>
    simp only [Bool.false_eq_true, if_false]
    split
    · exact absurd ⟨rfl, rfl⟩ h1
    · simp [h2 ⟨_, rfl⟩]
    · rfl

theorem binOp_other {op : BinOp} {t : TypeId} {u v : Value} (hi : ∀ k a, u ≠ .int k a) (hf : ∀ k a, u ≠ .float k a) (hc : ∀ k a c, u ≠ .complex k a c) (hs : ∀ s, u ≠ .string s) : op = .eql ∨ op = .neq → binOp op t u v = eqlSem op t u v := by
  rintro (rfl | rfl)
  · unfold binOp eqlSem
    split <;> first | rfl | (rename_i h; simp at h) | (exfalso; first | exact hi _ _ rfl | exact hf _ _ rfl | exact hc _ _ _ rfl | exact hs _ rfl) | skip
    all_goals first | rfl | (exfalso; simp_all)
  · unfold binOp eqlSem
    split <;> first | rfl | (rename_i h; simp at h) | (exfalso; first | exact hi _ _ rfl | exact hf _ _ rfl | exact hc _ _ _ rfl | exact hs _ rfl) | skip
    all_goals first | rfl | (exfalso; simp_all)


theorem hintCmp_ok {op : BinOp} {t : TypeId} {ox oy : Operand} {k k' : IntKind} {c : Int} {d : Bool} {m n : Int} {v : CV} (h : hintCmp op k k' c d n = some v) (hd : d = decide (m > c)) :
    ∃ u, (do eqGuard op t ox oy (.int k m) (.int k' n); binOp op t (.int k m) (.int k' n) : Sem Value).run P w = .ok u w ∧ Den r v u := by
  unfold hintCmp at h
  split at h
  · cases h
  · rename_i hk
    have := kEq_ok hk; subst this
    cases op <;> simp only [reduceCtorEq] at h
    · simp only [Option.some.injEq] at h; subst h
      exact ⟨_, by simp [eqGuard_at_int, binOp_eql]; rfl, by simp [Den]⟩
    · simp only [Option.some.injEq] at h; subst h
      exact ⟨_, by simp [eqGuard_at_int, binOp_neq]; rfl, by simp [Den]⟩
    · refine ⟨_, by simp [eqGuard_lss, binOp_lss]; rfl, ?_⟩
      split at h <;> simp only [Option.some.injEq] at h <;> subst h
      · rename_i he
        rw [iEq_eq] at he
        have he : n - 1 = c := by simpa using he
        simp only [Den, nB_eq, hd, Value.bool.injEq]
        rw [Bool.eq_iff_iff]; simp; omega
      · simp [Den]
    · refine ⟨_, by simp [eqGuard_leq, binOp_leq]; rfl, ?_⟩
      split at h <;> simp only [Option.some.injEq] at h <;> subst h
      · rename_i he
        rw [iEq_eq] at he
        have he : n = c := by simpa using he
        simp only [Den, nB_eq, hd, Value.bool.injEq]
        rw [Bool.eq_iff_iff]; simp; omega
      · simp [Den]
    · refine ⟨_, by simp [eqGuard_gtr, binOp_gtr]; rfl, ?_⟩
      split at h <;> simp only [Option.some.injEq] at h <;> subst h
      · rename_i he
        rw [iEq_eq] at he
        have he : n = c := by simpa using he
        simp only [Den, hd, Value.bool.injEq]
        rw [Bool.eq_iff_iff]; simp; omega
      · simp [Den]
    · refine ⟨_, by simp [eqGuard_geq, binOp_geq]; rfl, ?_⟩
      split at h <;> simp only [Option.some.injEq] at h <;> subst h
      · rename_i he
        rw [iEq_eq] at he
        have he : n - 1 = c := by simpa using he
        simp only [Den, hd, Value.bool.injEq]
        rw [Bool.eq_iff_iff]; simp; omega
      · simp [Den]

theorem anyCmp_ok {op : BinOp} {t : TypeId} {ox oy : Operand} {k k' : IntKind} {m n : Int} {v : CV} (h : anyCmp op k k' = some v) :
    ∃ u, (do eqGuard op t ox oy (.int k m) (.int k' n); binOp op t (.int k m) (.int k' n) : Sem Value).run P w = .ok u w ∧ Den r v u := by
  unfold anyCmp at h
  split at h
  · rename_i hc hk
    have := kEq_ok hk; subst this
    simp only [Option.some.injEq] at h; subst h
    cases op <;> simp only [isCmp, Bool.false_eq_true] at hc
    · exact ⟨_, by simp [eqGuard_at_int, binOp_eql]; rfl, by simp [Den]⟩
    · exact ⟨_, by simp [eqGuard_at_int, binOp_neq]; rfl, by simp [Den]⟩
    · exact ⟨_, by simp [eqGuard_lss, binOp_lss]; rfl, by simp [Den]⟩
    · exact ⟨_, by simp [eqGuard_leq, binOp_leq]; rfl, by simp [Den]⟩
    · exact ⟨_, by simp [eqGuard_gtr, binOp_gtr]; rfl, by simp [Den]⟩
    · exact ⟨_, by simp [eqGuard_geq, binOp_geq]; rfl, by simp [Den]⟩
  · cases h

theorem binC_ok (hT : TbOk P b) (hm : MemR P w0 S r M nx w) {op : BinOp} {t : TypeId} {ox oy : Operand} {x y v : CV} {u z : Value} (h : binC b M op t x y = some v) (hx : Den r x u) (hy : Den r y z) :
    ∃ q, (do eqGuard op t ox oy u z; binOp op t u z : Sem Value).run P w = .ok q w ∧ Den r v q := by
  unfold binC at h
  split at h
  · obtain ⟨m, rfl⟩ := hx; simp only [Den] at hy; subst hy; exact anyCmp_ok h
  · obtain ⟨m, hd, rfl⟩ := hx; simp only [Den] at hy; subst hy; exact hintCmp_ok h hd
  · obtain ⟨m, rfl⟩ := hy; simp only [Den] at hx; subst hx; exact anyCmp_ok h
  · obtain ⟨m, rfl⟩ := hx; obtain ⟨m, rfl⟩ := hy; exact anyCmp_ok h
  · simp only [Den] at hx hy; subst hx hy
    split at h
    · rename_i hs; exact shiftC_ok r hs h
    · split at h
      · rename_i hk; have := kEq_ok hk; subst this; exact binI_ok r h
      · cases h
  · rename_i a c
    simp only [Den] at hx hy; subst hx hy
    cases op <;> simp only [reduceCtorEq] at h
    · split at h
      · rename_i hl
        simp only [Option.some.injEq] at h; subst h
        have hl := ble_t hl
        have hn : ¬ (((bytesV a).size + (bytesV c).size : Nat) : Int) > IntKind.i64.max := by
          rw [IntKind.max_i64, bytesV_size, bytesV_size]
          have h2 : a.length + c.length ≤ 9223372036854775807 := by simpa [lenL_eq] using hl
          omega
        refine ⟨.string (bytesV a ++ bytesV c), ?_, by simp only [Den, bytesV_append]⟩
        rw [eqGuard_at_string, binOp_string_add]
        simp only [Op.stringOp]
        rw [if_neg hn]
        simp
      · cases h
    · simp only [Option.some.injEq] at h; subst h
      refine ⟨_, by simp only [eqGuard_at_string, binOp_string_eql, Eng.str_eq]; simp; rfl, ?_⟩
      simp only [Den, sEq_eq]
    · simp only [Option.some.injEq] at h; subst h
      refine ⟨_, by simp only [eqGuard_at_string, binOp_string_neq, Eng.str_eq]; simp; rfl, ?_⟩
      simp only [Den, sEq_eq, nB_eq]
    · simp only [Option.some.injEq] at h; subst h
      refine ⟨_, by simp only [eqGuard_at_string, binOp_string_lss, ByteArray.toList_eq]; simp; rfl, ?_⟩
      simp only [Den, sLt_eq, bytesV_list]
  · rename_i h1 h2 h3 h4 h5 h6
    split at h
    · rename_i c hc
      have hrun := eqT_ok hT hm 10 10000 t x y c u z hc (by omega) hx hy
      have hti : ∃ ti, b.ty t = some ti := by
        cases hb : b.ty t with
        | none => simp [eqT, hb] at hc
        | some ti => exact ⟨ti, rfl⟩
      obtain ⟨ti, hti⟩ := hti
      -- what u may be
      have hshape : (∀ k a, u ≠ .int k a) ∧ (∀ k a, u ≠ .float k a) ∧ (∀ k a c, u ≠ .complex k a c) ∧ (∀ s, u ≠ .string s) ∧ ¬ (u = .nilIface ∧ z = .nilIface) ∧ ((∃ xs, u = .agg xs) → P.eqGuardType P.depth t = false) := by
        simp only [eqT, hti] at hc
        split at hc
        all_goals first
          | (exfalso; rename_i hk _; exact h5 _ _ _ _ rfl rfl)
          | (exfalso; exact h5 _ _ _ _ rfl rfl)
          | (exfalso; exact h6 _ _ rfl rfl)
          | (simp only [Den] at hx hy; subst hx; simp; done)
          | (simp only [Den] at hx hy; subst hx; obtain ⟨_, _, rfl⟩ := hy; simp; done)
          | (simp only [Den] at hx hy; obtain ⟨_, _, rfl⟩ := hx; simp; done)
          | (simp only [Den] at hx hy; obtain ⟨_, _, _, _, _, rfl⟩ := hx; simp; done)
          | (simp only [Den] at hx hy; obtain ⟨_, _, _, _, rfl⟩ := hx; simp; done)
          | (simp only [Den] at hx hy; obtain ⟨_, _, _, _, _, _, rfl⟩ := hx; simp; done)
          | (cases hc; done)
          | (split at hc
             · rename_i heq
               simp only [Den] at hx hy; obtain ⟨_, _, rfl⟩ := hx
               simp
               exact ((hT.ty t ti hti).eq heq).2.1
             · cases hc)
      obtain ⟨g1, g2, g3, g4, g5, g6⟩ := hshape
      exact eqR_run h (guard_run g5 g6) hrun (binOp_other g1 g2 g3 g4)
    · cases h
end bin
end Go.Proofs.YtaodejbcmaeaaaaGreat.CE
