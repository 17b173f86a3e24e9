/- The concrete evaluator: deferred calls, rounds, calls, to any depth. No statement of the seat is proved here. -/
import Derived.Test.YtaodejbcmaeaaaaGreatCe23
set_option linter.unusedVariables false
set_option linter.unusedSimpArgs false
namespace Go.Proofs.YtaodejbcmaeaaaaGreat.CE
open Go Go.RowKit
open Go.Proofs.YtaodejbcmaeaaaaGreat.Eng (Fr Pl pl TyI TyK Tab TabOk kix)

section m
variable {P : Program} {b : Tb} {w0 w : World} {S : Nat → Prop} {ro : Nat} {r0 r : Rl} {M0 M : T AObj} {nx0 nx N : Nat} {base : List Deferred} {a : Act} {E : T CV}

theorem okU_settle {u : Option (List (CV × Bool))} {U : FrameMode} (h : okU u = true) (hu : UR r u U) : settle U = U := by
  cases u with
  | none => have hu : U = .returning := hu; subst hu; rfl
  | some ch =>
    obtain ⟨chain, rfl, hc⟩ := hu
    cases ch with
    | nil => cases h
    | cons p l =>
      obtain ⟨v, d⟩ := p
      cases d with
      | true => cases h
      | false => obtain ⟨q, ur, _, _, rfl⟩ := hc; rfl

theorem isNil_eq {α : Type} {l : List α} (h : isNil l = true) : l = [] := by cases l with | nil => rfl | cons _ _ => cases h

theorem finD_ok {g : Nat} {fi : FI} {u u' : Option (List (CV × Bool))} {x : R} {M' : T AObj} {nx' : Nat} (h : finD b fi.res u x = some (u', M', nx')) : ∃ cx s, x = .ok cx s ∧ s.D = [] ∧ (∃ l, resC b s.E s.M fi.res = some l) ∧ (cx = .nrm ∨ cx = .ret) ∧ u' = u ∧ M' = s.M ∧ nx' = s.nx := by
  unfold finD at h
  split at h
  · cases h
  · rename_i cx s
    split at h
    · rename_i l hD hl
      refine ⟨cx, s, rfl, isNil_eq hD, ⟨l, hl⟩, ?_⟩
      split at h
      · injection h with h; injection h with e1 e2; injection e2 with e2 e3
        exact ⟨.inl rfl, e1.symm, e2.symm, e3.symm⟩
      · injection h with h; injection h with e1 e2; injection e2 with e2 e3
        exact ⟨.inr rfl, e1.symm, e2.symm, e3.symm⟩
      · cases h
    · cases h

theorem isRec_ok {c c' : Code} {d : Nat} (h : isRec c = some (d, c')) : ∃ id args tys ty pos af, c = .seq (.region id #[⟨some d, .call ⟨.builtin .recover, args, tys⟩, ty, pos, af, none⟩] false) c' := by
  unfold isRec at h
  split at h
  · rename_i id ops c0
    split at h
    · rename_i d0 args tys ty pos af hops
      injection h with h; injection h with e1 e2
      subst e1 e2
      exact ⟨id, args, tys, ty, pos, af, by congr 2; apply Array.toList_inj.1; exact hops⟩
    · cases h
  · cases h

theorem dfr_ok (hT : TbOk P b) {rs : Fs} (hcl : ∀ w0 S, ClOk P w0 S ⟨rs.call, rs.yield⟩) : DfrOk P (dfrC b rs) := by
  intro ro g as u M nx u' M' nx' h w0 S r w us U hm has hro hu
  unfold dfrC at h
  split at h
  · rename_i fi hfi
    obtain ⟨hent, fn, h1, h2, h3, h4⟩ := hT.fn g fi hfi
    refine ⟨hent, ?_⟩
    have hck := hT.ck g fi hfi
    split at h
    · cases h
    · rename_i hcond
      simp only [Bool.and_eq_true] at hcond
      obtain ⟨hle, hok⟩ := hcond
      have hle := ble_t hle
      split at h
      · rename_i d c hrec
        obtain ⟨id, args, tys, ty, pos, af, hbody⟩ := isRec_ok hrec
        rw [hbody] at hck h2
        simp only [ckCode, Bool.and_eq_true] at hck
        obtain ⟨hck1, hck2⟩ := hck
        unfold ckReg at hck1
        simp only [Bool.and_eq_true, List.all_eq_true] at hck1
        have hdn : d < fi.n := ckDst_ok (hck1.1 _ (List.mem_cons_self ..)) d rfl
        have hbeg := begin_ok (ro := ro) hm has hle
        -- behind the call of recover
        have tail : ∀ (c₀ c₁ : Frame) (cs : List Frame) (cv : CV) (uv : Value), Den r cv uv → (∃ m, c₁ = { c₀ with mode := m } ∧ settle m = .returning) → finD b fi.res none (evC b ⟨rs.call, rs.yield⟩ false g fi.n fuelC ro c ⟨(argE 0 .lf as).set d cv, M, nx, []⟩) = some (u', M', nx') →
            c.wpSIn (Wf none) 0 P (bodyPostS P fn c₀ cs fun e U' w' => ∃ v r', e = .returned v ∧ StepR P w0 S ro r r' M M' nx nx' w' ∧ UR r' u' (settle U')) (({ tmps := us.toArray ++ Array.replicate (fi.n - us.toArray.size) undef, defers := [] } : Act).put (some d) uv) (c₁ :: cs) w := by
          intro c₀ c₁ cs cv uv hcv hc1 hf
          obtain ⟨m, rfl, hset⟩ := hc1
          obtain ⟨cx, s, hev, hD, ⟨l, hres⟩, hcx, rfl, rfl, rfl⟩ := finD_ok (g := g) hf
          refine wpSIn_of_wpIn rfl (wpIn_mono (evC_ok hT hcl (l := none) rfl fuelC ro c _ cx s hev hck2 w0 S r M nx [] r _ w hro ⟨hbeg.st, ?_, ?_, by rw [put_size]; exact hbeg.sz⟩) fun e a' w' hp => ?_)
          · have g1 : ∀ t, some d = some t → t < fi.n := fun t ht => by cases ht; exact hdn
            exact EnvX.put hbeg.env hcv g1 hbeg.sz
          · rw [put_defers]; exact hbeg.df
          · obtain ⟨r', he, hs⟩ := hp
            obtain ⟨ds, hDf, hds⟩ := hs.df
            rw [hD] at hDf
            have hDf : ds = [] := hDf
            subst hDf
            obtain ⟨v, k1, k2⟩ := results_ok hT hs.st.mem (noX_env hs.env) (fn := fn) (vs := l) (by rw [h4]; exact hres)
            have hfin : a'.defers = [] ∧ ∃ u'', ({ c₀ with mode := m } : Frame) :: cs = { c₀ with mode := u'' } :: cs ∧ ∃ v, (results fn a'.tmps).run P w' = .ok v w' ∧ ∃ v2 r', Ending.returned v = .returned v2 ∧ StepR P w0 S ro r r' M s.M nx s.nx w' ∧ UR r' none (settle u'') :=
              ⟨by simpa using hds, m, rfl, v, k1, v, r', rfl, hs.st, hset⟩
            rcases hcx with rfl | rfl
            · have he : e = .normal := he
              subst he; exact hfin
            · have he : e = .ret := he
              subst he; exact hfin
        refine callsDIn_of_wpSIn h1 h2 trivial fun c₀ cs hmode => ?_
        rw [h3]
        refine wpSIn_seq (wpSIn_region ?_)
        show wpOpsSIn _ _ _ _ _ [0] _ _ _
        have hexec : ∀ (ρ : Operand → Value) (W : World), (execOp ρ ⟨some d, .call ⟨.builtin .recover, args, tys⟩, ty, pos, af, none⟩).run P W = .ok .recover W := fun ρ W => by
          simp [execOp, resolve, invoke, builtin]
        split at h
        · rename_i v dd
          cases dd with
          | true => cases hok
          | false =>
            obtain ⟨chain, rfl, uv, ur, hcv, hur, rfl⟩ := hu
            have hur : ur = [] := hur
            subst hur
            refine ⟨fun _ _ => trivial, ?_⟩
            have hrecd : recoverD (c₀ :: cs) = some (uv, { c₀ with mode := .panicking [{ v := uv, recovered := true }] } :: cs) := by
              simp only [recoverD]; rw [hmode]
            rw [if_pos (show Region.wanted _ _ = true from rfl)]
            simp only [List.getElem_toArray, List.getElem_cons_zero, hexec, hrecd]
            exact tail c₀ _ cs v uv hcv ⟨_, rfl, rfl⟩ h
        · cases h
        · have hu : U = .returning := hu
          subst hu
          refine ⟨fun _ _ => trivial, ?_⟩
          have hrecd : recoverD (c₀ :: cs) = none := by
            simp only [recoverD]; rw [hmode]
          rw [if_pos (show Region.wanted _ _ = true from rfl)]
          simp only [List.getElem_toArray, List.getElem_cons_zero, hexec, hrecd]
          exact tail c₀ _ cs .nilI .nilIface (by simp only [Den]) ⟨c₀.mode, by cases c₀; rfl, by rw [hmode]; rfl⟩ h
      · obtain ⟨cx, s, hev, hD, ⟨l, hres⟩, hcx, rfl, rfl, rfl⟩ := finD_ok (g := g) h
        refine CallsDIn.mono (callsDIn_of_wp (R := fun e w' => ∃ v r', e = .returned v ∧ StepR P w0 S ro r r' M s.M nx s.nx w') h1 h2 trivial ?_) ?_
        · rw [h3]
          refine wpIn_mono (evC_ok hT hcl (l := none) rfl fuelC ro fi.body _ cx s hev hck w0 S r M nx [] r _ w hro (begin_ok hm has hle)) fun e a' w' hp => ?_
          obtain ⟨r', he, hs⟩ := hp
          obtain ⟨ds, hDf, hds⟩ := hs.df
          rw [hD] at hDf
          have hDf : ds = [] := hDf
          subst hDf
          obtain ⟨v, k1, k2⟩ := results_ok hT hs.st.mem (noX_env hs.env) (fn := fn) (vs := l) (by rw [h4]; exact hres)
          have hfin : a'.defers = [] ∧ ∃ v, (results fn a'.tmps).run P w' = .ok v w' ∧ ∃ v2 r', Ending.returned v = .returned v2 ∧ StepR P w0 S ro r r' M s.M nx s.nx w' := ⟨by simpa using hds, v, k1, v, r', rfl, hs.st⟩
          rcases hcx with rfl | rfl
          · have he : e = .normal := he
            subst he; exact hfin
          · have he : e = .ret := he
            subst he; exact hfin
        · rintro e U' w' ⟨rfl, v, r', rfl, hst⟩
          exact ⟨v, r', rfl, hst, by rw [okU_settle hok hu]; exact hu.mono hst.le⟩
  · cases h
end m
end Go.Proofs.YtaodejbcmaeaaaaGreat.CE
