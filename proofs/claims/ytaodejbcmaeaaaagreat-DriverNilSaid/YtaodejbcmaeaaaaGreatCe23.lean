/- The concrete evaluator: results, deferred calls, the end of a function. No statement of the seat is proved here. -/
import Derived.Test.YtaodejbcmaeaaaaGreatCe22
import Derived.RecoverIn
import Derived.Lib.BytesEntry
set_option linter.unusedVariables false
set_option linter.unusedSimpArgs false
namespace Go.Proofs.YtaodejbcmaeaaaaGreat.CE
open Go Go.RowKit
open Go.Proofs.YtaodejbcmaeaaaaGreat.Eng (Fr Pl pl TyI TyK Tab TabOk kix)

section m
variable {P : Program} {b : Tb} {w0 w : World} {S : Nat → Prop} {ro : Nat} {r0 r : Rl} {M0 M : T AObj} {nx0 nx N : Nat} {base : List Deferred} {a : Act} {E : T CV}

/-! ## results -/
def resStep (tmps : Array Value) : ResultVar → Sem Value
  | .tmp t => pure (tmps.getD t undef)
  | .cell b t => do loadVar t (← asAddr (tmps.getD b undef))
theorem results_eq (fn : Func) (tmps : Array Value) : results fn tmps = (do let vs ← fn.results.mapM (resStep tmps); pure (if h : vs.size = 1 then vs[0] else .tuple vs)) := by
  unfold results
  congr 1
theorem resC_ok (hT : TbOk P b) (hm : MemR P w0 S r M nx w) {tmps : Array Value} (he : EnvT r E tmps) : ∀ {l : List ResultVar} {vs : List CV}, resC b E M l = some vs → ∃ us, (l.mapM (resStep tmps)).run P w = .ok us w ∧ DenL r vs us
  | [], vs, h => by simp [resC] at h; subst h; exact ⟨[], by simp, by simp [DenL]⟩
  | .tmp t :: l, vs, h => by
    simp only [resC] at h
    split at h
    · rename_i v hv
      split at h
      · rename_i l' hl
        injection h with h; subst h
        obtain ⟨us, h1, h2⟩ := resC_ok hT hm he hl
        have hs : (resStep tmps (.tmp t)).run P w = .ok (tmps.getD t undef) w := rfl
        exact ⟨tmps.getD t undef :: us, by simp only [List.mapM_cons, Sem.run_bind, hs, Sem.run_pure, Result.andThen_ok, h1], DenL.cons (he t v hv) h2⟩
      · cases h
    · cases h
  | .cell p t :: l, vs, h => by
    simp only [resC] at h
    split at h
    · rename_i pv hp
      split at h
      · rename_i v hv
        split at h
        · rename_i l' hl
          injection h with h; subst h
          obtain ⟨us, h1, h2⟩ := resC_ok hT hm he hl
          obtain ⟨z, h3, h4⟩ := loadC_ok hT hm hv (he p pv hp)
          have hs : (resStep tmps (.cell p t)).run P w = .ok z w := by
            rw [resStep]
            generalize tmps.getD p undef = u at h3
            cases u with
            | pointer ad =>
              cases ad with
              | none => simp [Instr.loadAt, Instr.sureAddr, stuck, Sem.run] at h3
              | some ad => simpa [Instr.loadAt, Instr.sureAddr, asAddr] using h3
            | _ => simp [Instr.loadAt, Instr.sureAddr, stuck, Sem.run] at h3
          exact ⟨z :: us, by simp only [List.mapM_cons, Sem.run_bind, hs, Sem.run_pure, Result.andThen_ok, h1], DenL.cons h4 h2⟩
        · cases h
      · cases h
    · cases h
theorem results_ok (hT : TbOk P b) (hm : MemR P w0 S r M nx w) {tmps : Array Value} (he : EnvT r E tmps) {fn : Func} {vs : List CV} (h : resC b E M fn.results.toList = some vs) : ∃ u, (results fn tmps).run P w = .ok u w ∧ Den r (packC vs) u := by
  obtain ⟨us, h1, h2⟩ := resC_ok hT hm he h
  have h3 : (fn.results.mapM (resStep tmps)).run P w = .ok us.toArray w := by
    rw [Array.mapM_eq_mapM_toList]
    simp only [Sem.run_map, h1]
    rfl
  refine ⟨if h : us.toArray.size = 1 then us.toArray[0] else .tuple us.toArray, ?_, ?_⟩
  · rw [results_eq]
    simp only [Sem.run_bind]
    rw [h3]
    simp only [Result.andThen_ok, Sem.run_pure]
  · cases vs with
    | nil => simp only [DenL] at h2; subst h2; simp only [packC, Den]; exact ⟨[], by simp [DenL], rfl⟩
    | cons v vs =>
      cases vs with
      | nil =>
        simp only [DenL] at h2
        obtain ⟨u, ur, h4, rfl, rfl⟩ := h2
        exact h4
      | cons v2 vs =>
        have hlen := h2.len
        have : ¬ (us.toArray.size = 1) := by simp [hlen]
        rw [dif_neg this]
        simp only [packC, Den]
        exact ⟨us, h2, rfl⟩

/-! ## the mode that a frame leaves in -/
def UR (r : Rl) (u : Option (List (CV × Bool))) (U : FrameMode) : Prop := match u with
  | none => U = .returning
  | some ch => ∃ chain, U = .panicking chain ∧ ChR r ch chain
theorem UR.mono {r r' : Rl} (h : r.le r') {u : Option (List (CV × Bool))} {U : FrameMode} (hu : UR r u U) : UR r' u U := by
  cases u with
  | none => exact hu
  | some ch => obtain ⟨chain, e, hc⟩ := hu; exact ⟨chain, e, hc.mono h⟩
theorem UR.run {u : Option (List (CV × Bool))} {U : FrameMode} (hu : UR r u U) : U ≠ .run := by
  cases u with
  | none => rw [hu]; simp
  | some ch => obtain ⟨chain, rfl, _⟩ := hu; simp

/-- What a deferred call does. -/
def DfrOk (P : Program) (dfr : Nat → Nat → List CV → Option (List (CV × Bool)) → T AObj → Nat → Option (Option (List (CV × Bool)) × T AObj × Nat)) : Prop :=
  ∀ ro g as u M nx u' M' nx', dfr ro g as u M nx = some (u', M', nx') → ∀ (w0 : World) (S : Nat → Prop) (r : Rl) (w : World) (us : List Value) (U : FrameMode), MemR P w0 S r M nx w → DenL r as us → ro ≤ nx → UR r u U →
    Eng.Enters P g ∧ CallsDIn (Wf none) 0 P g us.toArray U w fun e U' w' => ∃ v r', e = .returned v ∧ StepR P w0 S ro r r' M M' nx nx' w' ∧ UR r' u' (settle U')

theorem runD_ok {dfr : Nat → Nat → List CV → Option (List (CV × Bool)) → T AObj → Nat → Option (Option (List (CV × Bool)) × T AObj × Nat)} (hd : DfrOk P dfr) {fn : Func} {tmps : Array Value} {R : Ending → World → Prop} :
    ∀ (D : List (Nat ⊕ CDef)) (ds : List Deferred) (u : Option (List (CV × Bool))) (M : T AObj) (nx : Nat) (u' : Option (List (CV × Bool))) (M' : T AObj) (nx' : Nat) (r : Rl) (w : World) (U : FrameMode), runD (dfr ro) ro D u M nx = some (u', M', nx') → MemR P w0 S r M nx w → ro ≤ nx → DefR r D ds → UR r u U →
      (∀ r' w' U', StepR P w0 S ro r r' M M' nx nx' w' → UR r' u' U' → LeavesIn (Wf none) 0 P fn tmps R [] U' w') → LeavesInM (Wf none) 0 P fn tmps R ds U w
  | [], ds, u, M, nx, u', M', nx', r, w, U, h, hm, hro, hD, hu, hK => by
    simp only [runD, Option.some.injEq, Prod.mk.injEq] at h
    obtain ⟨rfl, rfl, rfl⟩ := h
    have hD : ds = [] := hD
    subst hD
    exact hK r w U (StepR.refl hm) hu
  | .inl i :: D, ds, u, M, nx, u', M', nx', r, w, U, h, hm, hro, hD, hu, hK => by
    obtain ⟨bk, dr, hs, hD, rfl⟩ := hD
    simp only [runD] at h
    split at h
    · rename_i hg
      split at h
      · cases h
      · rename_i hb
        have hb := ble_t hb
        obtain ⟨xo, hxo, hx⟩ := hm.ok i bk _ hs hg
        have hx : xo = .deferred (some []) := hx
        subst hx
        have st1 := StepR.setObj (ro := ro) (o' := .defs none) (x' := .deferred none) hm hb hs hg hxo rfl
        have st2 := StepR.del (ro := ro) (i := i) st1.mem hb
        have st3 : StepR P w0 S ro r r M (M.del i) nx nx { w with heap := w.heap.setIfInBounds bk (.deferred none) } := by
          refine (st1.trans st2).congr fun j => ?_
          rw [T.get_del, T.get_del]
          split
          · rfl
          · rename_i hne; rw [T.get_set, if_neg hne]
        refine ⟨hu.run, .inl ⟨bk, _, rfl, ?_, runD_ok hd D dr u (M.del i) nx u' M' nx' r _ U h st3.mem hro hD hu fun r' w' U' h1 h2 => hK r' w' U' (st3.trans h1) h2⟩⟩
        simp only [Instr.takeDeferred, Sem.run_bind, getObj_run hxo (by simp), Result.andThen_ok, setObj_run hxo (by simp), Sem.run_pure]
    · cases h
  | .inr d :: D, ds, u, M, nx, u', M', nx', r, w, U, h, hm, hro, hD, hu, hK => by
    obtain ⟨us, cs, dr, h1, hD, rfl⟩ := hD
    simp only [runD] at h
    split at h
    · rename_i u2 M2 nx2 hd2
      obtain ⟨hent, hcall⟩ := hd ro d.fn d.args u M nx u2 M2 nx2 hd2 w0 S r w _ U hm h1 hro hu
      refine ⟨hu.run, .inr ⟨fun h => (by cases h), _, _, d.fn, (us ++ cs).toArray, rfl, ?_, fun _ _ => trivial, hcall.mono fun e U' w' hR => ?_⟩⟩
      · simp only [invoke]
        rw [toArr_append]
        exact hent _ _
      · obtain ⟨v, r', rfl, hst, hu'⟩ := hR
        exact runD_ok hd D dr u2 M2 nx2 u' M' nx' r' w' _ h hst.mem (Nat.le_trans hro hst.nxle) (hD.mono hst.le) hu' fun r2 w2 U2 k1 k2 => hK r2 w2 U2 (hst.trans k1) k2
    · cases h

/-! ## arguments -/
theorem argE_get : ∀ {l : List CV} {i : Nat} {E : T CV} {t : Nat} {v : CV}, (argE i E l).get t = some v → (i ≤ t ∧ nth l (t - i) = some v) ∨ E.get t = some v
  | [], i, E, t, v, h => .inr h
  | x :: l, i, E, t, v, h => by
    rcases argE_get (l := l) (i := Nat.succ i) h with ⟨h1, h2⟩ | h1
    · refine .inl ⟨by omega, ?_⟩
      have : t - i = (t - Nat.succ i) + 1 := by omega
      rw [this]; exact h2
    · rw [T.get_set] at h1
      split at h1
      · rename_i e; subst e
        exact .inl ⟨Nat.le_refl _, by simpa [CE.nth] using h1⟩
      · exact .inr h1
theorem args_env {as : List CV} {us : List Value} (h : DenL r as us) (n : Nat) : EnvT r (argE 0 .lf as) (us.toArray ++ Array.replicate n undef) := by
  intro t v hv
  rcases argE_get hv with ⟨_, h1⟩ | h1
  · obtain ⟨u, h2, h3⟩ := h.nth h1
    have hlt : t < us.length := (List.getElem?_eq_some_iff.1 h2).1
    have : (us.toArray ++ Array.replicate n undef).getD t undef = u := by
      rw [Array.getD_eq_getD_getElem?, Array.getElem?_append_left (by simpa using hlt)]
      simp only [Nat.sub_zero] at h2
      simp [h2]
    rw [this]; exact h3
  · simp [T.get_lf] at h1

/-- A function's body from its beginning. -/
theorem begin_ok {as : List CV} {us : List Value} (hm : MemR P w0 S r M nx w) (h : DenL r as us) {n : Nat} (hle : lenL as ≤ n) : Std P w0 S ro r M nx [] n noX ⟨argE 0 .lf as, M, nx, []⟩ r { tmps := us.toArray ++ Array.replicate (n - us.toArray.size) undef, defers := [] } w :=
  ⟨StepR.refl hm, EnvX.all (args_env h _) noX, ⟨[], rfl, rfl⟩, by
    rw [lenL_eq, ← h.len] at hle
    simp; omega⟩

theorem noX_env {X : T CV} {t : Array Value} (h : EnvX r X noX t) : EnvT r X t := fun t v hv => h t v hv (fun h => h)

/-- A function with a body is called. -/
theorem fini_ok (hT : TbOk P b) {rs : Fs} (hd : DfrOk P rs.dfr) (hcl : ∀ w0 S, ClOk P w0 S ⟨rs.call, rs.yield⟩) {g : Nat} {fi : FI} (hfi : b.fn g = some fi) {as : List CV} {us : List Value} (hm : MemR P w0 S r M nx w) (hro : ro ≤ nx) (h : DenL r as us) (hle : Nat.ble (lenL as) fi.n = true) {f : Nat}
    (hno : (finiC b rs ro g fi (evC b ⟨rs.call, rs.yield⟩ false g fi.n f ro fi.body ⟨argE 0 .lf as, M, nx, []⟩)).isNo = false) :
    CallsIn (Wf none) 0 P g us.toArray w (RCP P w0 S ro r M nx (finiC b rs ro g fi (evC b ⟨rs.call, rs.yield⟩ false g fi.n f ro fi.body ⟨argE 0 .lf as, M, nx, []⟩))) := by
  obtain ⟨_, fn, h1, h2, h3, h4⟩ := hT.fn g fi hfi
  cases hev : evC b ⟨rs.call, rs.yield⟩ false g fi.n f ro fi.body ⟨argE 0 .lf as, M, nx, []⟩ with
  | no => rw [hev] at hno; cases hno
  | ok x s =>
    rw [hev] at hno
    have hbody := evC_ok hT hcl (l := none) rfl f ro fi.body _ x s hev (hT.ck g fi hfi) w0 S r M nx [] r _ w hro (begin_ok hm h (ble_t hle))
    refine callsIn_of_wp_marks h1 h2 trivial ?_
    rw [h3]
    refine wpIn_mono hbody fun e a' w' hp => ?_
    obtain ⟨r', he, hs⟩ := hp
    obtain ⟨ds, hD, hds⟩ := hs.df
    have hds : a'.defers = ds := by simpa using hds
    have henv := noX_env hs.env
    have key : ∀ (u : Option (List (CV × Bool))) (U : FrameMode), UR r' u U → (fini2 b g fi.res s.E (runD (rs.dfr ro) ro s.D u s.M s.nx)).isNo = false →
        LeavesInM (Wf none) 0 P fn a'.tmps (RCP P w0 S ro r M nx (fini2 b g fi.res s.E (runD (rs.dfr ro) ro s.D u s.M s.nx))) a'.defers U w' := by
      intro u U hu hn
      rw [hds]
      cases hrd : runD (rs.dfr ro) ro s.D u s.M s.nx with
      | none => rw [hrd] at hn; cases hn
      | some q =>
        obtain ⟨u', M', nx'⟩ := q
        rw [hrd] at hn
        refine runD_ok hd s.D ds u s.M s.nx u' M' nx' r' w' U hrd hs.st.mem (Nat.le_trans hro hs.st.nxle) hD hu fun r2 w2 U2 hst hu2 => ?_
        cases u' with
        | none =>
          have hu2 : U2 = .returning := hu2
          subst hu2
          simp only [fini2] at hn ⊢
          cases hres : resC b s.E M' fi.res with
          | none => rw [hres] at hn; cases hn
          | some l =>
            obtain ⟨v, k1, k2⟩ := results_ok hT hst.mem (henv.mono hst.le) (fn := fn) (vs := l) (by rw [h4]; exact hres)
            exact ⟨v, k1, v, r2, rfl, k2, hs.st.trans hst⟩
        | some ch =>
          obtain ⟨chain, rfl, hch⟩ := hu2
          simp only [fini2]
          exact ⟨chain, r2, rfl, hch, hs.st.trans hst⟩
    cases x with
    | nrm =>
      have he : e = .normal := he
      subst he
      exact key none .returning rfl hno
    | ret =>
      have he : e = .ret := he
      subst he
      exact key none .returning rfl hno
    | exit i => cases hno
    | pan ch =>
      obtain ⟨chain, rfl, hch⟩ := he
      exact key (some ch) (.panicking chain) ⟨chain, rfl, hch⟩ hno
end m
end Go.Proofs.YtaodejbcmaeaaaaGreat.CE
