/- The concrete evaluator: a loop over a map, whole. No statement of the seat is proved here. -/
import Derived.Test.YtlhcpkgaeandfaaGreatCe20
set_option linter.unusedVariables false
set_option linter.unusedSimpArgs false
namespace Go.Proofs.YtlhcpkgaeandfaaGreat.CE
open Go Go.RowKit
open Go.Proofs.YtlhcpkgaeandfaaGreat.Eng (Fr Pl pl TyI TyK Tab TabOk kix)

/-- What the code's evaluator tells is so. -/
def CodeOk (P : Program) (b : Tb) (l : Option Nat) (fn N : Nat) (self : Self) : Prop :=
  ∀ ro c s x s', self ro c s = .ok x s' → ckCode b fn N c = true → ∀ (w0 : World) (S : Nat → Prop) r0 M0 nx0 base r a w, ro ≤ nx0 → Std P w0 S ro r0 M0 nx0 base N noX s r a w → c.wpIn (Wf l) 0 P (PostR P w0 S ro r0 M0 nx0 base N x s') a w

theorem mapGo_nrm {run : St → R} {E : T CV} {M : T AObj} {nx i m since clock d1 d2 : Nat} {x : CX} {s : St} : ∀ {U : List (CV × CV × Nat)}, mapGo run E M nx i m since clock d1 d2 U = .ok x s → x = .nrm
  | [], h => by simp only [mapGo] at h; injection h with h; exact h.symm
  | (k', v', b') :: U, h => by
    simp only [mapGo] at h
    split at h
    · split at h
      · exact mapGo_nrm h
      · cases h
      · cases h
    · cases h
    · rename_i s1 h1 h2
      cases hr : run ⟨(E.set d1 (.tup [.bool true, k', v'])).set d2 (.bool true), M.set i (.mapCur m since b' clock), nx, []⟩ with
      | no _ _ _ _ => rw [hr] at h; cases h
      | ok x s' => exact absurd hr (h2 x s')

section m
variable {P : Program} {b : Tb} {w0 w : World} {S : Nat → Prop} {ro : Nat} {r0 r : Rl} {M0 M : T AObj} {nx0 nx N : Nat} {base : List Deferred} {a : Act}

/-- The slots of the loop's head. -/
theorem env_two {E : T CV} {d1 d2 : Nat} {c1 c2 : CV} {u1 u2 : Value} (h : EnvT r E a.tmps) (h1 : Den r c1 u1) (h2 : Den r c2 u2) (hd1 : d1 < N) (hd2 : d2 < N) (hsz : N ≤ a.tmps.size) : EnvX r ((E.set d1 c1).set d2 c2) noX ((a.put (some d1) u1).put (some d2) u2).tmps := by
  have g1 : ∀ t, some d1 = some t → t < N := fun t ht => by cases ht; exact hd1
  have g2 : ∀ t, some d2 = some t → t < N := fun t ht => by cases ht; exact hd2
  have e1 : EnvX r (put E (some d1) c1) noX (a.put (some d1) u1).tmps := EnvX.put (EnvX.all h noX) h1 g1 hsz
  exact EnvX.put (a := a.put (some d1) u1) e1 h2 g2 (by rw [put_size]; exact hsz)

theorem run_head {l : Option Nat} {d1 d2 it ty1 ty2 : Nat} {p1 p2 : String} {a1 a2 : Array Edge} {Q : Exit → Act → World → Prop} {bi : Nat} {v0 : Bool} {vs : List Value} {w' : World} (hd1 : d1 < N) (hsz : N ≤ a.tmps.size) (hit : a.tmps.getD it undef = .pointer (some ⟨bi, 0, none⟩))
    (hrun : (Instr.next (.pointer (some ⟨bi, 0, none⟩)) false ty1).run P w = .ok (.tuple (.bool v0 :: vs).toArray) w') (hQ : Q .normal ((a.put (some d1) (.tuple (.bool v0 :: vs).toArray)).put (some d2) (.bool v0)) w') :
    wpOpsIn (Wf l) 0 P #[⟨some d1, .next (.tmp it) false, ty1, p1, a1, none⟩, ⟨some d2, .extract (.tmp d1) 0, ty2, p2, a2, none⟩] Q [0, 1] a w := by
  rw [wpOpsIn_cons]
  show (⟨some d1, .next (.tmp it) false, ty1, p1, a1, none⟩ : Oper).wpIn (Wf l) 0 P a w _ Q
  refine ⟨fun _ _ => trivial, ?_⟩
  rw [semAt_nd (by simp)]
  have e1 : (execOp a.eval ⟨some d1, .next (.tmp it) false, ty1, p1, a1, none⟩).run P w = .ok (.value (.tuple (.bool v0 :: vs).toArray)) w' := by
    simp only [execOp, Act.eval, hit, Sem.run_bind, hrun, Result.andThen_ok]
    rfl
  rw [e1, Oper.uponIn_value, wpOpsIn_cons]
  show (⟨some d2, .extract (.tmp d1) 0, ty2, p2, a2, none⟩ : Oper).wpIn (Wf l) 0 P _ w' _ Q
  refine ⟨fun _ _ => trivial, ?_⟩
  rw [semAt_nd (by simp)]
  have hd : (a.put (some d1) (.tuple (.bool v0 :: vs).toArray)).tmps.getD d1 undef = .tuple (.bool v0 :: vs).toArray := by
    simp only [Act.put, getD_set]; rw [if_pos ⟨trivial, by omega⟩]
  have e2 : (execOp (a.put (some d1) (.tuple (.bool v0 :: vs).toArray)).eval ⟨some d2, .extract (.tmp d1) 0, ty2, p2, a2, none⟩).run P w' = .ok (.value (.bool v0)) w' := by
    simp [execOp, Act.eval, hd, Instr.extract]
  rw [e2, Oper.uponIn_value]
  exact hQ

theorem post_then {x : CX} {s : St} {K : Act → World → Prop} {Q : Exit → Act → World → Prop} (hn : x = .nrm → ∀ a w, PostR P w0 S ro r0 M0 nx0 base N .nrm s .normal a w → K a w) (hx : x ≠ .nrm → ∀ e a w, e ≠ .normal → PostR P w0 S ro r0 M0 nx0 base N x s e a w → Q e a w) :
    ∀ e a w, PostR P w0 S ro r0 M0 nx0 base N x s e a w → Exit.then K Q e a w := by
  rintro e a w ⟨r, h1, h2⟩
  cases x with
  | nrm =>
    have h1 : e = .normal := h1
    subst h1
    exact hn rfl a w ⟨r, rfl, h2⟩
  | exit i =>
    have h1 : e = .exit i := h1
    subst h1
    exact hx (by simp) (.exit i) a w (by simp) ⟨r, rfl, h2⟩
  | ret =>
    have h1 : e = .ret := h1
    subst h1
    exact hx (by simp) .ret a w (by simp) ⟨r, rfl, h2⟩
  | pan ch =>
    obtain ⟨chain, rfl, h3⟩ := h1
    exact hx (by simp) (.panic chain) a w (by simp) ⟨r, ⟨chain, rfl, h3⟩, h2⟩

def leftIn (bi bm : Nat) (w : World) : Nat := match w.heap[bi]?, w.heap[bm]? with
  | some (.mapIter _ _ seen _), some (.map fs _) => (leftOf fs seen).size
  | _, _ => 0

theorem xMap_ok {l : Option Nat} {fn : Nat} {self : Self} (hself : CodeOk P b l fn N self) {x : Code} (hck : ckCode b fn N x = true) {s s' : St} {q : ML} (hq : mapL s.E s.M x = some q) {x' : CX} (h : xMap fn ro self x s q = .ok x' s') (hro0 : ro ≤ nx0) (hs : Std P w0 S ro r0 M0 nx0 base N noX s r a w) :
    (Code.loop x).wpIn (Wf l) 0 P (PostR P w0 S ro r0 M0 nx0 base N x' s') a w := by
  obtain ⟨id, ops, ty1, p1, e1, ty2, p2, e2, seen, last, es, hx, hops, hit, hgi, hgm, hbl, hsl, hsc, hU⟩ := mapL_ok hq
  subst hx
  subst hops
  unfold xMap at h
  split at h
  · rename_i hcond
    simp only [Bool.and_eq_true] at hcond
    obtain ⟨⟨⟨c1, c2⟩, c3⟩, c4⟩ := hcond
    have c1 := ble_t c1
    have c3 := blt_t c3
    have c4 := blt_t c4
    generalize hE0 : eraseC s.E (.seq (.region id #[⟨some q.d1, .next (.tmp q.it) false, ty1, p1, e1, none⟩, ⟨some q.d2, .extract (.tmp q.d1) 0, ty2, p2, e2, none⟩] false) q.y) = E0 at h c2
    have hE0it : E0.get q.it = some (.ptr q.i 0) := by
      unfold isIt at c2
      split at c2
      · rename_i j hj; rw [hj, natbeq_t c2]
      · cases c2
    have hE0s : ∀ t v, E0.get t = some v → s.E.get t = some v := fun t v hv => by subst hE0; exact eraseC_get hv
    have henv0 : EnvT r s.E a.tmps := fun t v hv => hs.env t v hv (fun h => h)
    -- the check of the code
    simp only [ckCode, Bool.and_eq_true] at hck
    obtain ⟨hck1, hcky⟩ := hck
    unfold ckReg at hck1
    simp only [Bool.and_eq_true, List.all_eq_true] at hck1
    have hd1 : q.d1 < N := ckDst_ok (hck1.1 _ (List.mem_cons_self ..)) q.d1 rfl
    have hd2 : q.d2 < N := ckDst_ok (hck1.1 _ (List.mem_cons_of_mem _ (List.mem_cons_self ..))) q.d2 rfl
    -- the evaluator's runs
    unfold xMap2 at h
    split at h
    · rename_i xx ss hgo
      have := mapGo_nrm hgo
      subst this
      have hgo := fun k v n hm => mapGo_ok hgo k v n hm
      unfold xMapE at h
      split at h
      · cases h
      · rename_i hnn
        have hx'n : x' ≠ .nrm := fun e => by subst e; exact hnn _ h
        -- the blocks
        obtain ⟨bi, hsi, hpi⟩ := henv0 q.it _ hit
        have hm := hs.st.mem
        obtain ⟨xi, hxi, m', hxe, bm, hsm, hme⟩ := hm.ok q.i bi _ hsi hgi
        have hnei : q.m ≠ q.i := fun e => by rw [e, hgi] at hgm; cases hgm
        have hnb : bm ≠ bi := fun e => hnei (hm.inj q.m q.i bm hsm (by rw [e]; exact hsi) (by simp [hgm]) (by simp [hgi]))
        have hroi : ro ≤ q.i := c1
        have hsome : ∀ (o : AObj) (j : Nat), j ≠ q.i → (s.M.set q.i o).get j = s.M.get j := fun o j hj => by rw [T.get_set, if_neg (fun e => hj e.symm)]
        refine wpIn_loop (fun a1 w1 => ∃ seenN last', q.since ≤ last' ∧ (∀ e ∈ leftC seenN es, e ∈ q.U) ∧ EnvT r E0 a1.tmps ∧ MemR P w0 S r (s.M.set q.i (.mapIt (some q.m) q.since seenN last')) s.nx w1 ∧ a1.defers = a.defers ∧ N ≤ a1.tmps.size) (fun _ w1 => leftIn bi bm w1) ?_ ?_
        · refine ⟨seen, last, hsl, by rw [hU]; exact fun _ h => h, fun t v hv => henv0 t v (hE0s t v hv), hm.sub fun j o hj => ?_, rfl, hs.sz⟩
          rw [T.get_set] at hj
          split at hj
          · rename_i e; subst e; rw [hgi]; exact hj
          · exact hj
        · rintro a1 w1 ⟨seenN, last', hsl', hsub, henv, hmem, hdf, hsz⟩
          obtain ⟨b', hb', hpt⟩ := henv q.it _ hE0it
          rw [hsi] at hb'; cases hb'
          obtain ⟨xo, hxo, m2, rfl, bm2, hsm2, rfl⟩ := hmem.ok q.i bi (.mapIt (some q.m) q.since seenN last') hsi (by rw [T.get_set, if_pos rfl])
          rw [hsm] at hsm2; cases hsm2
          obtain ⟨xm, hxm, fs, rfl, hent⟩ := hmem.ok q.m bm _ hsm (by rw [hsome _ _ hnei]; exact hgm)
          have hold := bornLt_ok hbl hent
          have hleft := leftC_ok (seen := seenN) hent
          rw [← leftOf_list] at hleft
          have hμ : leftIn bi bm w1 = (leftC seenN es).length := by
            unfold leftIn; rw [hxo, hxm]; simp only; rw [hleft.len]; simp
          refine wpIn_seq (wpIn_region ?_)
          show wpOpsIn _ _ _ _ _ [0, 1] a1 w1
          rcases next_gen (P := P) ty1 hxo hxm hold hsl' with ⟨h0, hrun⟩ | ⟨e, he, w1', hal, hrun⟩
          · -- none is left
            refine run_head (vs := []) hd1 hsz hpt hrun ?_
            show Code.wpIn _ _ _ _ _ _ _
            have hstd : Std P w0 S ro r0 M0 nx0 base N noX ⟨(E0.set q.d1 (.tup [.bool false])).set q.d2 (.bool false), s.M.del q.i, s.nx, s.D⟩ r ((a1.put (some q.d1) (.tuple [.bool false].toArray)).put (some q.d2) (.bool false)) w1 := by
              refine ⟨⟨hs.st.le, hmem.sub fun j o hj => ?_, hs.st.nxle, fun j hj hsj => ?_, fun j hj hjn => ?_⟩, env_two henv (by simp only [Den]; exact ⟨_, DenL.cons (by simp only [Den]) (by simp [DenL]), rfl⟩) (by simp only [Den]) hd1 hd2 hsz, ?_, by rw [put_size, put_size]; exact hsz⟩
              · rw [T.get_del] at hj
                split at hj
                · cases hj
                · rename_i hne; rw [T.get_set, if_neg hne]; exact hj
              · obtain ⟨g1, g2⟩ := hs.st.un j hj hsj
                refine ⟨g1, ?_⟩
                rw [T.get_del]
                split
                · exact .inr rfl
                · exact g2
              · rw [T.get_del, if_neg (by omega)]; exact hs.st.roq j hj hjn
              · rw [put_defers, put_defers, hdf]; exact hs.df
            refine wpIn_mono (hself ro q.y _ x' s' h hcky w0 S r0 M0 nx0 base r _ w1 hro0 hstd) (post_then (fun e => absurd e hx'n) fun _ e a w he hp => hp)
          · -- one more
            obtain ⟨k, v, n, hmemE, hkd, hvd, hbn⟩ := hleft.mem he
            obtain ⟨s1, hr1, hkeep, hD1⟩ := hgo k v n (hsub _ hmemE)
            refine run_head (vs := [e.key, e.val]) hd1 hsz hpt hrun ?_
            show Code.wpIn _ _ _ _ _ _ _
            generalize hw2 : ({ w1' with heap := w1'.heap.setIfInBounds bi (.mapIter (some bm) q.since (seenN.reverse.toArray.push e.born) q.clock) } : World) = w2
            have hheap : w1'.heap = w1.heap := by rcases hal with rfl | rfl <;> rfl
            have hbi : bi < w1.heap.size := (Array.getElem?_eq_some_iff.1 hxo).1
            have h2i : w2.heap[bi]? = some (.mapIter (some bm) q.since (seenN.reverse.toArray.push e.born) q.clock) := by subst hw2; simp [hheap, hbi]
            have h2o : ∀ k, k ≠ bi → w2.heap[k]? = w1.heap[k]? := fun k hk => by subst hw2; simp [hheap, Ne.symm hk]
            have h2f : w2.os = w1.os ∧ w2.tape = w1.tape ∧ w2.output = w1.output ∧ w2.heap.size = w1.heap.size := by
              subst hw2; rcases hal with rfl | rfl <;> exact ⟨rfl, rfl, rfl, by simp⟩
            have hm2 : MemR P w2 (fun k => k ≠ bi ∧ (w0.heap.size ≤ k ∨ S k)) r (s.M.set q.i (.mapCur q.m q.since n q.clock)) s.nx w2 := by
              refine ⟨⟨rfl, rfl, rfl, Nat.le_refl _, fun _ _ _ => rfl⟩, fun j bk o h1 h2 => ?_, fun j k bk h1 h2 h3 h4 => ?_, fun j bk o h1 h2 h3 => ?_, fun j hj => ⟨(hmem.dom j hj).1, ?_⟩⟩
              · by_cases hj : j = q.i
                · subst hj
                  rw [hsi] at h1; cases h1
                  rw [T.get_set, if_pos rfl] at h2; cases h2
                  exact ⟨_, h2i, bm, _, hsm, rfl, by simp [hbn]⟩
                · rw [hsome _ _ hj] at h2
                  obtain ⟨y, h3, h4⟩ := hmem.ok j bk o h1 (by rw [hsome _ _ hj]; exact h2)
                  have hne : bk ≠ bi := fun e => hj (hmem.inj j q.i bk h1 (by rw [e]; exact hsi) (by rw [hsome _ _ hj]; simp [h2]) (by rw [T.get_set, if_pos rfl]; rfl))
                  exact ⟨y, (h2o bk hne).trans h3, h4⟩
              · have hsm' : ∀ j, ((s.M.set q.i (.mapCur q.m q.since n q.clock)).get j).isSome = true → ((s.M.set q.i (.mapIt (some q.m) q.since seenN last')).get j).isSome = true := by
                  intro j hj
                  rw [T.get_set] at hj ⊢
                  split
                  · rfl
                  · rename_i e; rw [if_neg e] at hj; exact hj
                exact hmem.inj j k bk h1 h2 (hsm' j h3) (hsm' k h4)
              · by_cases hj : j = q.i
                · subst hj
                  rw [T.get_set, if_pos rfl] at h2; cases h2
                  cases h3
                · rw [hsome _ _ hj] at h2
                  have hne : bk ≠ bi := fun e => hj (hmem.inj j q.i bk h1 (by rw [e]; exact hsi) (by rw [hsome _ _ hj]; simp [h2]) (by rw [T.get_set, if_pos rfl]; rfl))
                  exact .inr ⟨hne, hmem.own j bk o h1 (by rw [hsome _ _ hj]; exact h2) h3⟩
              · rw [T.get_set, if_neg (by omega)]
                have := (hmem.dom j hj).2
                rw [T.get_set, if_neg (by omega)] at this
                exact this
            have hstd : Std P w2 (fun k => k ≠ bi ∧ (w0.heap.size ≤ k ∨ S k)) s.nx r (s.M.set q.i (.mapCur q.m q.since n q.clock)) s.nx a.defers N noX ⟨(E0.set q.d1 (.tup [.bool true, k, v])).set q.d2 (.bool true), s.M.set q.i (.mapCur q.m q.since n q.clock), s.nx, []⟩ r ((a1.put (some q.d1) (.tuple [.bool true, e.key, e.val].toArray)).put (some q.d2) (.bool true)) w2 :=
              ⟨StepR.refl hm2, env_two henv (by simp only [Den]; exact ⟨_, DenL.cons (by simp only [Den]) (DenL.cons hkd (DenL.cons hvd (by simp [DenL]))), rfl⟩) (by simp only [Den]) hd1 hd2 hsz, ⟨[], rfl, by rw [put_defers, put_defers, hdf]; rfl⟩, by rw [put_size, put_size]; exact hsz⟩
            refine wpIn_mono (hself s.nx q.y _ .nrm s1 hr1 hcky w2 _ r _ s.nx a.defers r _ w2 (Nat.le_refl _) hstd) (post_then (fun _ a3 w3 hp => ?_) fun e => absurd rfl e)
            obtain ⟨r', _, hst3, henv3, ⟨ds, hds1, hds2⟩, hsz3⟩ := hp
            rw [hD1] at hds1
            have hds1 : ds = [] := hds1
            subst hds1
            have hfr := hst3.mem.fr
            have h3i : w3.heap[bi]? = some (.mapIter (some bm) q.since (seenN.reverse.toArray.push e.born) q.clock) := by
              have hb2 : bi < w2.heap.size := by rw [h2f.2.2.2]; exact hbi
              rw [hfr.block bi hb2 (by simp)]; exact h2i
            have hback := hm2.back hst3.mem hst3.le (fun j hj => hst3.roq j hj hj)
            have hfr0 : Fr S w0 w3 := by
              have hf1 := hmem.fr
              refine ⟨hfr.os.trans (h2f.1.trans hf1.os), hfr.tape.trans (h2f.2.1.trans hf1.tape), hfr.output.trans (h2f.2.2.1.trans hf1.output), Nat.le_trans hf1.size (by have := hfr.size; rw [h2f.2.2.2] at this; exact this), fun k hk hns => ?_⟩
              have hkb : k ≠ bi := by
                intro e; subst e
                have := hmem.own q.i _ _ hsi (by rw [T.get_set, if_pos rfl]) rfl
                exact this.elim (fun h => absurd hk (by omega)) hns
              have hk2 : k < w2.heap.size := by rw [h2f.2.2.2]; exact Nat.lt_of_lt_of_le hk hf1.size
              rw [hfr.block k hk2 (fun hh => hh.2.elim (fun h => absurd hk (by omega)) hns), h2o k hkb]
              exact hf1.block k hk hns
            have hmem3 : MemR P w0 S r (s.M.set q.i (.mapIt (some q.m) q.since (n :: seenN) q.clock)) s.nx w3 := by
              refine ⟨hfr0, fun j bk o h1 h2 => ?_, fun j k bk h1 h2 h3 h4 => ?_, fun j bk o h1 h2 h3 => ?_, fun j hj => ⟨(hmem.dom j hj).1, ?_⟩⟩
              · by_cases hj : j = q.i
                · subst hj
                  rw [hsi] at h1; cases h1
                  rw [T.get_set, if_pos rfl] at h2; cases h2
                  exact ⟨_, h3i, some bm, by simp [hbn], bm, hsm, rfl⟩
                · rw [hsome _ _ hj] at h2
                  exact hback.ok j bk o h1 (by rw [hsome _ _ hj]; exact h2)
              · have hsm' : ∀ j, ((s.M.set q.i (.mapIt (some q.m) q.since (n :: seenN) q.clock)).get j).isSome = true → ((s.M.set q.i (.mapIt (some q.m) q.since seenN last')).get j).isSome = true := by
                  intro j hj
                  rw [T.get_set] at hj ⊢
                  split
                  · rfl
                  · rename_i e; rw [if_neg e] at hj; exact hj
                exact hmem.inj j k bk h1 h2 (hsm' j h3) (hsm' k h4)
              · by_cases hj : j = q.i
                · subst hj
                  exact hmem.own q.i bk (.mapIt (some q.m) q.since seenN last') h1 (by rw [T.get_set, if_pos rfl]) rfl
                · rw [hsome _ _ hj] at h2
                  exact hmem.own j bk o h1 (by rw [hsome _ _ hj]; exact h2) h3
              · rw [T.get_set, if_neg (by omega)]
                have := (hmem.dom j hj).2
                rw [T.get_set, if_neg (by omega)] at this
                exact this
            refine ⟨⟨n :: seenN, q.clock, hsc, fun e he => hsub e (leftC_sub e he), fun t v hv => ?_, hmem3, hds2, hsz3⟩, ?_⟩
            · have h1 := keepE_ok hkeep t v hv
              exact (henv t v hv).back hst3.le (henv3 t v h1 (fun h => h))
            · show leftIn bi bm w3 < leftIn bi bm w1
              obtain ⟨xm3, hxm3, fs3, rfl, hent3⟩ := hmem3.ok q.m bm _ hsm (by rw [hsome _ _ hnei]; exact hgm)
              have hleft3 := leftC_ok (seen := n :: seenN) hent3
              rw [← leftOf_list] at hleft3
              have hμ3 : leftIn bi bm w3 = (leftC (n :: seenN) es).length := by
                unfold leftIn; rw [h3i, hxm3]; simp only; rw [hleft3.len]; simp [hbn]
              rw [hμ, hμ3]
              exact leftC_lt hmemE
    · rename_i hno; exact (hno _ _ h).elim
  · cases h
end m
end Go.Proofs.YtlhcpkgaeandfaaGreat.CE
