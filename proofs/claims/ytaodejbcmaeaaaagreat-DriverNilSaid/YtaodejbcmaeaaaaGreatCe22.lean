/- The concrete evaluator: code, whole. No statement of the seat is proved here. -/
import Derived.Test.YtaodejbcmaeaaaaGreatCe21
import Derived.RangeFuncIn
set_option linter.unusedVariables false
set_option linter.unusedSimpArgs false
namespace Go.Proofs.YtaodejbcmaeaaaaGreat.CE
open Go Go.RowKit
open Go.Proofs.YtaodejbcmaeaaaaGreat.Eng (Fr Pl pl TyI TyK Tab TabOk kix)

section m
variable {P : Program} {b : Tb} {w0 w : World} {S : Nat → Prop} {ro : Nat} {r0 r : Rl} {M0 M : T AObj} {nx0 nx N : Nat} {base : List Deferred} {a : Act}

theorem post_goto {x : CX} {s : St} (l : Nat) (a : Act) (w : World) : ¬ PostR P w0 S ro r0 M0 nx0 base N x s (.goto l) a w := by
  rintro ⟨r, h, _⟩
  cases x <;> simp [ExR] at h
theorem post_out {x : CX} {s : St} (a : Act) (w : World) : ¬ PostR P w0 S ro r0 M0 nx0 base N x s .outgrown a w := by
  rintro ⟨r, h, _⟩
  cases x <;> simp [ExR] at h

theorem StepR.congr {r' : Rl} {M' M2 : T AObj} {nx' : Nat} (h : StepR P w0 S ro r r' M M' nx nx' w) (he : ∀ i, M2.get i = M'.get i) : StepR P w0 S ro r r' M M2 nx nx' w :=
  ⟨h.le, h.mem.sub fun i o ho => by rw [← he i]; exact ho, h.nxle, fun i hi hs => by rw [he i]; exact h.un i hi hs, fun i hi hn => by rw [he i]; exact h.roq i hi hn, fun i hi => by rw [he i]; exact h.lc i hi⟩

theorem xRange_ok (hT : TbOk P b) {C : Cl} (hC : ∀ w0 S, ClOk P w0 S C) {l : Option Nat} {rd : Bool} (hrd : rd = l.isSome) {fn : Nat} {g : Operand} {ps : Array Tmp} {as bd : Code} {s s' : St} {x : CX} (h : xRange b C rd ro fn N g ps as bd s = .ok x s') (hro0 : ro ≤ nx0) (hs : Std P w0 S ro r0 M0 nx0 base N noX s r a w) :
    (Code.rangeFunc g ps as bd).wpIn (Wf l) 0 P (PostR P w0 S ro r0 M0 nx0 base N x s') a w := by
  unfold xRange at h
  split at h
  · rename_i hf fs cs hev
    have hl : l = none := by cases l with | none => rfl | some _ => cases hrd
    subst hl
    split at h
    · cases h
    · rename_i fi hfi
      have hent := (hT.fn hf fi hfi).1
      have hm := hs.st.mem
      have hro : ro ≤ s.nx := Nat.le_trans hro0 hs.st.nxle
      have hgd := opsR_of (l := [g]) hs.env (fun _ _ h => h) g (by simp) _ hev
      simp only [Den] at hgd
      obtain ⟨g2, fs', cs', hg2, hfs, hcs, hgu⟩ := hgd
      have hg2 : g2 = .func hf := hg2
      subst hg2
      obtain ⟨ds, hD, hds⟩ := hs.df
      refine wpIn_rangeFunc fun fn' _ => ?_
      generalize hw1 : w.alloc (.deferred (some [])) = w1
      generalize hlo : ({ state := .ready, pending := none, fn := fn', tmps := a.tmps, params := ps, assign := as, body := bd, defers := w.heap.size } : Loop) = lo
      generalize hw2 : w1.alloc (.loop lo) = w2
      have hsz1 : w1.heap.size = w.heap.size + 1 := by subst hw1; simp
      have st1 := StepR.new (ro := ro) (o := .defs (some [])) (cap := 0) (x := .deferred (some [])) (w' := w1) hm rfl (by subst hw1; rfl) (by subst hw1; rfl) (by subst hw1; rfl) (by subst hw1; rfl) hro
      have hnx1 : s.nx ≠ Nat.succ s.nx := by omega
      have st2 := StepR.new (ro := ro) (o := .loop .ready none fn N s.E ps.toList as bd s.nx) (cap := 0) (x := .loop lo) (w' := w2) st1.mem ⟨a.tmps, w.heap.size, fn', hs.sz, by simp only [Rl.add]; rw [if_neg hnx1]; simp, by rw [← hlo]; simp [lsOf], fun t v hv => (hs.env t v hv (fun h => h)).mono (Rl.le_trans st1.le (Rl.le_add (st1.mem.dom _ (Nat.le_refl _)).1))⟩ (by subst hw2; rfl) (by subst hw2; rfl) (by subst hw2; rfl) (by subst hw2; rfl) (Nat.le_succ_of_le hro)
      have st := st1.trans st2
      have hσj : ((r.add s.nx w.heap.size 0).add (Nat.succ s.nx) w1.heap.size 0).σ (Nat.succ s.nx) = some w1.heap.size := add_self
      have hσ0 : ((r.add s.nx w.heap.size 0).add (Nat.succ s.nx) w1.heap.size 0).σ s.nx = some w.heap.size := by simp only [Rl.add]; rw [if_neg hnx1]; simp
      have hargs : DenL ((r.add s.nx w.heap.size 0).add (Nat.succ s.nx) w1.heap.size 0) (fs ++ [.func (.yield (Nat.succ s.nx)) [] []] ++ cs) (fs' ++ [Value.func (.yield w1.heap.size) #[] #[]] ++ cs') :=
        ((hfs.mono st.le).append (DenL.cons (by simp only [Den]; exact ⟨_, [], [], ⟨_, hσj, rfl⟩, by simp [DenL], by simp [DenL], rfl⟩) (by simp [DenL]))).append (hcs.mono st.le)
      have henter : (Instr.enterLoop fn' a.tmps ps as bd (Wf none).round).run P w = .ok (w1.heap.size, [{ target := .collected w.heap.size, args := #[] }]) w2 := by
        subst hw2 hlo hw1
        simp [Instr.enterLoop]
      have hres : (resolve a.eval (rangeCall g w1.heap.size) 0).run P w2 = .ok { target := .fn (.func hf) cs'.toArray, args := (fs' ++ [Value.func (.yield w1.heap.size) #[] #[]]).toArray } w2 := by
        simp only [resolve, hgu, Deferred.ofValue, Sem.run_pure]
        congr 2
        apply Array.toList_inj.1
        simp [Act.eval]
      have hno : (C.call ro hf (fs ++ [.func (.yield (Nat.succ s.nx)) [] []] ++ cs) ((s.M.set s.nx (.defs (some []))).set (Nat.succ s.nx) (.loop .ready none fn N s.E ps.toList as bd s.nx)) (Nat.succ (Nat.succ s.nx))).isNo = false := by
        unfold xRng1 at h
        split at h
        · rename_i e; rw [e]; rfl
        · rename_i e; rw [e]; rfl
        · cases h
      have hcall := (hC w0 S).call ro hf _ _ _ _ w2 _ st.mem hargs (Nat.le_trans hro (by omega)) hno
      have hinv : (invoke (.fn (.func hf) cs'.toArray) (fs' ++ [Value.func (.yield w1.heap.size) #[] #[]]).toArray).run P w2 = .ok (.enter hf (fs' ++ [Value.func (.yield w1.heap.size) #[] #[]] ++ cs').toArray) w2 := by
        simp only [invoke]
        rw [toArr_append]
        exact hent _ _
      refine ⟨w1.heap.size, [{ target := .collected w.heap.size, args := #[] }], w2, _, w2, hf, _, w2, henter, hres, fun _ _ => trivial, hinv, fun h => (by cases h), ?_⟩
      rcases hcall with ⟨_, hcall⟩ | ⟨u, w', hbad, _⟩
      · refine CallsIn.mono hcall fun e w3 hR => ?_
        generalize hrc : C.call ro hf (fs ++ [.func (.yield (Nat.succ s.nx)) [] []] ++ cs) ((s.M.set s.nx (.defs (some []))).set (Nat.succ s.nx) (.loop .ready none fn N s.E ps.toList as bd s.nx)) (Nat.succ (Nat.succ s.nx)) = rc at h hR
        have hdef : ∀ r3 : Rl, Rl.le ((r.add s.nx w.heap.size 0).add (Nat.succ s.nx) w1.heap.size 0) r3 → ∃ ds', DefR r3 (.inl s.nx :: s.D) ds' ∧ ([{ target := .collected w.heap.size, args := #[] }] ++ a.defers : List Deferred) = ds' ++ base := fun r3 hle =>
          ⟨{ target := .collected w.heap.size, args := #[] } :: ds, ⟨w.heap.size, ds, (hle _ _ hσ0).1, (hD.mono st.le).mono hle, rfl⟩, by rw [hds]; rfl⟩
        cases rc with
        | no => exact hR.elim
        | pan ch M' nx' =>
          simp only [xRng1] at h
          injection h with e1 e2
          subst e1 e2
          obtain ⟨chain, r3, rfl, hch, st3⟩ := hR
          exact ⟨r3, ⟨chain, rfl, hch⟩, hs.st.trans (st.trans st3), fun t v hv hx => (hs.env t v hv hx).mono (Rl.le_trans st.le st3.le), hdef r3 st3.le, hs.sz⟩
        | ret v M' nx' =>
          simp only [xRng1, xRng2] at h
          obtain ⟨u, r3, rfl, _, st3⟩ := hR
          split at h
          · rename_i sls pend fn2 n2 E2 ps2 as2 bd2 d2 hgj
            have hσ3 := (st3.le _ _ hσj).1
            obtain ⟨xo, hxo, tmps3, db3, g3, _, hσd, rfl, henv3⟩ := st3.mem.ok _ _ _ hσ3 hgj
            have hnb : (lsOf sls == LoopState.busy) = false ∧ ∃ s2, xPend fn pend ⟨s.E, M'.del (Nat.succ s.nx), nx', .inl s.nx :: s.D⟩ = .ok x s2 ∧ s2 = s' := by
              cases sls <;> first | (cases h; done) | exact ⟨rfl, _, h, rfl⟩
            obtain ⟨hnb1, s2, hpe, rfl⟩ := hnb
            have hend : (Instr.endLoop w1.heap.size).run P w3 = .ok pend { w3 with heap := w3.heap.setIfInBounds w1.heap.size (.loop { state := .exhausted, pending := pend, fn := g3, tmps := tmps3, params := ps2.toArray, assign := as2, body := bd2, defers := db3 }) } := by
              simp only [Instr.endLoop, Instr.getLoop, Sem.run_bind, getObj_run hxo (by simp), Result.andThen_ok, Sem.run_pure, hnb1, Bool.false_eq_true, if_false, setObj_run hxo (by simp)]
            have st4 := StepR.setObj (ro := ro) (o' := .loop .exhausted pend fn2 n2 E2 ps2 as2 bd2 d2) (x' := .loop { state := .exhausted, pending := pend, fn := g3, tmps := tmps3, params := ps2.toArray, assign := as2, body := bd2, defers := db3 }) st3.mem (Nat.le_succ_of_le hro) hσ3 hgj hxo ⟨tmps3, db3, g3, by assumption, hσd, rfl, henv3⟩
            have st5 := StepR.del (ro := ro) (i := Nat.succ s.nx) st4.mem (Nat.le_succ_of_le hro)
            have st6 : StepR P w0 S ro r0 r3 M0 (M'.del (Nat.succ s.nx)) nx0 nx' { w3 with heap := w3.heap.setIfInBounds w1.heap.size (.loop { state := .exhausted, pending := pend, fn := g3, tmps := tmps3, params := ps2.toArray, assign := as2, body := bd2, defers := db3 }) } := by
              refine (hs.st.trans (st.trans (st3.trans (st4.trans st5)))).congr fun i => ?_
              rw [T.get_del, T.get_del]
              split
              · rfl
              · rename_i hne; rw [T.get_set, if_neg hne]
            have hstd : Std P w0 S ro r0 M0 nx0 base N noX ⟨s.E, M'.del (Nat.succ s.nx), nx', .inl s.nx :: s.D⟩ r3 { a with defers := [{ target := .collected w.heap.size, args := #[] }] ++ a.defers } { w3 with heap := w3.heap.setIfInBounds w1.heap.size (.loop { state := .exhausted, pending := pend, fn := g3, tmps := tmps3, params := ps2.toArray, assign := as2, body := bd2, defers := db3 }) } :=
              ⟨st6, fun t v hv hx => (hs.env t v hv hx).mono (Rl.le_trans st.le st3.le), hdef r3 st3.le, hs.sz⟩
            refine ⟨pend, _, hend, ?_⟩
            clear hnb1 hend st4 st5 st6 hxo
            cases pend with
            | none =>
              simp only [xPend] at hpe
              injection hpe with e1 e2
              rw [← e1, ← e2]
              exact ⟨r3, rfl, hstd⟩
            | some c =>
              cases c with
              | ret =>
                simp only [xPend] at hpe
                injection hpe with e1 e2
                rw [← e1, ← e2]
                exact wpIn_ret ⟨r3, rfl, hstd⟩
              | exit i =>
                simp only [xPend] at hpe
                injection hpe with e1 e2
                rw [← e1, ← e2]
                exact wpIn_exit ⟨r3, rfl, hstd⟩
              | _ => simp [xPend] at hpe
          · cases h
      · rw [hent] at hbad; cases hbad
  · cases h

theorem evC_ok (hT : TbOk P b) {C : Cl} (hC : ∀ w0 S, ClOk P w0 S C) {l : Option Nat} {rd : Bool} (hrd : rd = l.isSome) {fn : Nat} : ∀ f, CodeOk P b l fn N (evC b C rd fn N f)
  | 0 => fun ro c s x s' h => by cases h
  | f + 1 => by
    have ih := evC_ok hT hC hrd (fn := fn) f
    intro ro c s x s' h hck w0 S r0 M0 nx0 base r a w hro0 hs
    have h : evC1 b C rd fn N ro (evC b C rd fn N f) c s = .ok x s' := h
    cases c with
    | skip =>
      simp only [evC1] at h; injection h with e1 e2; subst e1 e2
      exact wpIn_skip ⟨r, rfl, hs⟩
    | label _ =>
      simp only [evC1] at h; injection h with e1 e2; subst e1 e2
      exact wpIn_label ⟨r, rfl, hs⟩
    | ret =>
      simp only [evC1] at h; injection h with e1 e2; subst e1 e2
      exact wpIn_ret ⟨r, rfl, hs⟩
    | exit i =>
      simp only [evC1] at h; injection h with e1 e2; subst e1 e2
      exact wpIn_exit ⟨r, rfl, hs⟩
    | goto _ => simp only [evC1] at h; cases h
    | refuse _ => simp only [evC1] at h; cases h
    | seq c1 c2 =>
      simp only [evC1, xThen] at h
      simp only [ckCode, Bool.and_eq_true] at hck
      split at h
      · rename_i s1 h1
        refine wpIn_seq (wpIn_mono (ih ro c1 s _ _ h1 hck.1 w0 S r0 M0 nx0 base r a w hro0 hs) (post_then (fun _ a1 w1 hp => ?_) (fun e => absurd rfl e)))
        obtain ⟨r1, _, hs1⟩ := hp
        exact ih ro c2 s1 _ _ h hck.2 w0 S r0 M0 nx0 base r1 a1 w1 hro0 hs1
      · rename_i hn
        exact wpIn_seq (wpIn_mono (ih ro c1 s _ _ h hck.1 w0 S r0 M0 nx0 base r a w hro0 hs) (post_then (fun e => absurd h (by rw [e]; exact hn _)) fun _ e a w _ hp => hp))
    | cond c c1 c2 =>
      simp only [evC1, xCond] at h
      simp only [ckCode, Bool.and_eq_true] at hck
      have hev := fun v => opsR_of (l := [c]) hs.env (fun _ _ h => h) c (by simp) v
      split at h
      · rename_i hc
        have := hev _ hc
        simp only [Den] at this
        exact wpIn_cond_true this (ih ro c1 s _ _ h hck.1 w0 S r0 M0 nx0 base r a w hro0 hs)
      · rename_i hc
        have := hev _ hc
        simp only [Den] at this
        exact wpIn_cond_false this (ih ro c2 s _ _ h hck.2 w0 S r0 M0 nx0 base r a w hro0 hs)
      · cases h
    | block id c =>
      simp only [evC1, xBlock] at h
      simp only [ckCode] at hck
      split at h
      · rename_i i s1 h1
        refine wpIn_block (wpIn_mono (ih ro c s _ _ h1 hck w0 S r0 M0 nx0 base r a w hro0 hs) fun e a1 w1 hp => ?_)
        obtain ⟨r1, he, hs1⟩ := hp
        have he : e = .exit i := he
        subst he
        split at h
        · rename_i hb
          injection h with e1 e2; subst e1 e2
          simp only [Exit.inBlock, natbeq_t hb, if_true]
          exact ⟨r1, rfl, hs1⟩
        · rename_i hb
          injection h with e1 e2; subst e1 e2
          simp only [Exit.inBlock, natbeq_f hb, if_false]
          exact ⟨r1, rfl, hs1⟩
      · rename_i hn
        refine wpIn_block (wpIn_mono (ih ro c s _ _ h hck w0 S r0 M0 nx0 base r a w hro0 hs) fun e a1 w1 hp => ?_)
        obtain ⟨r1, he, hs1⟩ := hp
        cases x with
        | exit i => exact absurd h (hn i s')
        | nrm => have he : e = .normal := he; subst he; exact ⟨r1, rfl, hs1⟩
        | ret => have he : e = .ret := he; subst he; exact ⟨r1, rfl, hs1⟩
        | pan ch => obtain ⟨chain, rfl, hc⟩ := he; exact ⟨r1, ⟨chain, rfl, hc⟩, hs1⟩
    | loop c =>
      simp only [evC1, xLoop] at h
      have hck' : ckCode b fn N c = true := hck
      split at h
      · rename_i q hq
        exact xMap_ok ih hck' hq h hro0 hs
      · simp only [xThen] at h
        refine wpIn_unroll ?_ post_goto post_out
        split at h
        · rename_i s1 h1
          refine wpIn_mono (ih ro c s _ _ h1 hck' w0 S r0 M0 nx0 base r a w hro0 hs) (post_then (fun _ a1 w1 hp => ?_) (fun e => absurd rfl e))
          obtain ⟨r1, _, hs1⟩ := hp
          exact ih ro (.loop c) s1 _ _ h hck w0 S r0 M0 nx0 base r1 a1 w1 hro0 hs1
        · rename_i hn
          exact wpIn_mono (ih ro c s _ _ h hck' w0 S r0 M0 nx0 base r a w hro0 hs) (post_then (fun e => absurd h (by rw [e]; exact hn _)) fun _ e a w _ hp => hp)
    | scope c =>
      simp only [evC1] at h
      exact wpIn_scope0 (ih ro c s _ _ h hck w0 S r0 M0 nx0 base r a w hro0 hs) post_goto
    | region id ops draw =>
      simp only [evC1] at h
      exact xReg_ok hT (hC w0 S) hrd hro0 hck h hs
    | rangeFunc g ps as bd =>
      simp only [evC1] at h
      exact xRange_ok hT hC hrd h hro0 hs
end m
end Go.Proofs.YtaodejbcmaeaaaaGreat.CE
