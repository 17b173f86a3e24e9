/- The concrete evaluator: rounds, the library's stand-ins, calls, to any depth. No statement of the seat is proved here. -/
import Derived.Test.YtaodejbcmaeaaaaGreatCe24
set_option linter.unusedVariables false
set_option linter.unusedSimpArgs false
namespace Go.Proofs.YtaodejbcmaeaaaaGreat.CE
open Go Go.RowKit
open Go.Proofs.YtaodejbcmaeaaaaGreat.Eng (Fr Pl pl TyI TyK Tab TabOk kix)

section m
variable {P : Program} {b : Tb} {w0 w : World} {S : Nat → Prop} {ro : Nat} {r0 r : Rl} {M0 M : T AObj} {nx0 nx N : Nat} {base : List Deferred} {a : Act} {E : T CV}

/-! ## rounds -/
theorem argP_ok {n : Nat} : ∀ {ps : List Nat} {vs : List CV} {E E0 : T CV} {us : List Value} {tmps : Array Value}, argP E ps vs = some E0 → DenL r vs us → EnvT r E tmps → (∀ p ∈ ps, p < n) → n ≤ tmps.size →
    us.length = ps.length ∧ EnvT r E0 ((ps.zip us).foldl (fun t x => t.setIfInBounds x.1 x.2) tmps) ∧ n ≤ ((ps.zip us).foldl (fun t x => t.setIfInBounds x.1 x.2) tmps).size
  | [], [], E, E0, us, tmps, h, hd, he, _, hn => by
    simp only [argP, Option.some.injEq] at h; subst h
    simp only [DenL] at hd; subst hd
    exact ⟨rfl, he, hn⟩
  | p :: ps, v :: vs, E, E0, us, tmps, h, hd, he, hp, hn => by
    simp only [DenL] at hd
    obtain ⟨u, ur, h1, h2, rfl⟩ := hd
    simp only [argP] at h
    have hpn := hp p (List.mem_cons_self ..)
    have he2 : EnvT r (E.set p v) (tmps.setIfInBounds p u) := by
      intro t c hc
      rw [T.get_set] at hc
      rw [getD_set]
      split at hc
      · rename_i e; subst e
        rw [if_pos ⟨rfl, by omega⟩]; cases hc; exact h1
      · rename_i e
        rw [if_neg (fun h => e h.1)]; exact he t c hc
    obtain ⟨g1, g2, g3⟩ := argP_ok h h2 he2 (fun q hq => hp q (List.mem_cons_of_mem _ hq)) (by simpa using hn)
    exact ⟨by simp [g1], g2, g3⟩
  | [], _ :: _, _, _, _, _, h, _, _, _, _ => by simp [argP] at h
  | _ :: _, [], _, _, _, _, h, _, _, _, _ => by simp [argP] at h

theorem yld_ok (hT : TbOk P b) {rs : Fs} (hcl : ∀ w0 S, ClOk P w0 S ⟨rs.call, rs.yield⟩) {j bk : Nat} {as : List CV} {us : List Value} (hm : MemR P w0 S r M nx w) (has : DenL r as us) (hs : r.σ j = some bk) (hro : ro ≤ nx) (hno : (yldC b rs ro j as M nx).isNo = false) :
    ∃ f tmps assign body, (Instr.yield bk us.toArray).run P w = .ok (.round bk f tmps assign body) w ∧ RoundIn (Wf none) 0 P bk f tmps assign body w (RCP P w0 S ro r M nx (yldC b rs ro j as M nx)) := by
  generalize hrc : yldC b rs ro j as M nx = rc at hno
  unfold yldC at hrc
  split at hrc
  · rename_i pe fn n E ps asg bd d hg
    obtain ⟨xo, hxo, tmps, db, gf, hn, hdb, rfl, henv⟩ := hm.ok j bk _ hs hg
    split at hrc
    · rename_i hb hck
      have hb := ble_t hb
      simp only [Bool.and_eq_true, List.all_eq_true] at hck
      obtain ⟨⟨hck1, hck2⟩, hps⟩ := hck
      split at hrc
      · rename_i E0 hE0
        obtain ⟨hlen, henv0, hsz0⟩ := argP_ok hE0 has henv (fun p hp => blt_t (hps p hp)) hn
        have hyield : (Instr.yield bk us.toArray).run P w = .ok (.round bk gf ((ps.zip us).foldl (fun t x => t.setIfInBounds x.1 x.2) tmps) asg bd) w := by
          simp only [Instr.yield, Instr.getLoop, Sem.run_bind, getObj_run hxo (by simp), Result.andThen_ok, Sem.run_pure, lsOf]
          rw [if_neg (by simp [hlen])]
          simp [Sem.run_pure]
        refine ⟨gf, _, asg, bd, hyield, roundIn_of_wpIn trivial ?_⟩
        show asg.wpIn (Wf (some bk)) 0 P _ _ w
        unfold yld1 at hrc
        split at hrc
        · rename_i s1 hev1
          split at hrc
          · rename_i pe2 fn2 n2 E2 ps2 as2 bd2 d2 hD1 hg1
            have hD1 := isNil_eq hD1
            refine wpIn_mono (evC_ok hT hcl (l := some bk) (rd := true) rfl fuelC ro asg _ .nrm s1 hev1 hck1 w0 S r M nx [] r _ w hro ⟨StepR.refl hm, EnvX.all henv0 noX, ⟨[], rfl, rfl⟩, hsz0⟩) (post_then (fun _ a1 w1 hp => ?_) (fun e => absurd rfl e))
            obtain ⟨r1, _, hs1⟩ := hp
            have hσ1 := (hs1.st.le j bk hs).1
            obtain ⟨xo1, hxo1, tmps1, db1, gf1, hn1, hdb1, rfl, henv1⟩ := hs1.st.mem.ok j bk _ hσ1 hg1
            have st1 := StepR.setObj (ro := ro) (o' := .loop .busy pe2 fn2 n2 E2 ps2 as2 bd2 d2) (x' := .loop { state := .busy, pending := pe2, fn := gf1, tmps := tmps1, params := ps2.toArray, assign := as2, body := bd2, defers := db1 }) hs1.st.mem hb hσ1 hg1 hxo1 ⟨tmps1, db1, gf1, hn1, hdb1, rfl, henv1⟩
            refine ⟨{ w1 with heap := w1.heap.setIfInBounds bk (.loop { state := .busy, pending := pe2, fn := gf1, tmps := tmps1, params := ps2.toArray, assign := as2, body := bd2, defers := db1 }) }, ?_, ?_⟩
            · simp only [Instr.beginRound, Instr.getLoop, Sem.run_bind, getObj_run hxo1 (by simp), Result.andThen_ok, setObj_run hxo1 (by simp), Sem.run_pure, lsOf]
            · unfold yld2 at hrc
              split at hrc
              · rename_i x s2 hev2
                split at hrc
                · subst hrc; cases hno
                · rename_i hD2
                  have hD2 := isNil_eq hD2
                  obtain ⟨ds, hDf, hds⟩ := hs1.df
                  rw [hD1] at hDf
                  have hDf : ds = [] := hDf
                  subst hDf
                  refine wpIn_mono (evC_ok hT hcl (l := some bk) (rd := true) rfl fuelC ro bd _ x s2 hev2 hck2 w0 S r M nx [] r1 a1 _ hro ⟨hs1.st.trans st1, hs1.env, ⟨[], rfl, hds⟩, hs1.sz⟩) fun e a2 w2 hp => ?_
                  obtain ⟨r2, he, hs2⟩ := hp
                  have fin : ∀ (v : Bool) (st : LS) (pend jump : Option Code), (if jump.isNone then LoopState.ready else LoopState.done) = lsOf st → jump = pend → jump.isNone = v → yld3 j s2.M s2.nx v st pend = rc → ∃ v' w', (Instr.endRound bk jump).run P w2 = .ok v' w' ∧ RCP P w0 S ro r M nx rc (.returned v') w' := by
                    rintro v st pend jump hst rfl hv hrc
                    unfold yld3 at hrc
                    split at hrc
                    · rename_i st3 pe3 fn3 n3 E3 ps3 as3 bd3 d3 hg3
                      have hσ2 := (hs2.st.le j bk hs).1
                      obtain ⟨xo3, hxo3, tmps3, db3, gf3, hn3, hdb3, rfl, henv3⟩ := hs2.st.mem.ok j bk _ hσ2 hg3
                      have st3' := StepR.setObj (ro := ro) (o' := .loop st jump fn3 n3 E3 ps3 as3 bd3 d3) (x' := .loop { state := lsOf st, pending := jump, fn := gf3, tmps := tmps3, params := ps3.toArray, assign := as3, body := bd3, defers := db3 }) hs2.st.mem hb hσ2 hg3 hxo3 ⟨tmps3, db3, gf3, hn3, hdb3, rfl, henv3⟩
                      refine ⟨.bool v, { w2 with heap := w2.heap.setIfInBounds bk (.loop { state := lsOf st, pending := jump, fn := gf3, tmps := tmps3, params := ps3.toArray, assign := as3, body := bd3, defers := db3 }) }, ?_, ?_⟩
                      · simp only [Instr.endRound, Instr.getLoop, Sem.run_bind, getObj_run hxo3 (by simp), Result.andThen_ok, setObj_run hxo3 (by simp), Sem.run_pure, hv]
                        have hst' : (if v = true then LoopState.ready else LoopState.done) = lsOf st := by rw [← hv]; exact hst
                        rw [hst']
                      · subst hrc
                        exact ⟨_, r2, rfl, by simp only [Den], hs2.st.trans st3'⟩
                    · subst hrc; cases hno
                  cases x with
                  | nrm =>
                    have he : e = .normal := he
                    subst he
                    exact fin true .ready none none rfl rfl rfl hrc
                  | ret =>
                    have he : e = .ret := he
                    subst he
                    exact fin false .done (some .ret) (some .ret) rfl rfl rfl hrc
                  | exit i =>
                    have he : e = .exit i := he
                    subst he
                    exact fin false .done (some (.exit i)) (some (.exit i)) rfl rfl rfl hrc
                  | pan ch => subst hrc; cases hno
              · subst hrc; cases hno
          · subst hrc; cases hno
        · subst hrc; cases hno
        · subst hrc; cases hno
      · subst hrc; cases hno
    · subst hrc; cases hno
  · subst hrc; cases hno

/-! ## stand-ins -/
theorem idxC_ok {c : Nat} (hc : c < 256) : ∀ (s : List Nat) (i : Nat), ∃ n : Int, idxC i c s = .int .i64 n ∧ n = if Lib.indexByte (s.map UInt8.ofNat) (UInt8.ofNat c) = -1 then -1 else (i : Int) + Lib.indexByte (s.map UInt8.ofNat) (UInt8.ofNat c)
  | [], i => ⟨-1, rfl, by simp [Lib.indexByte]⟩
  | x :: s, i => by
    obtain ⟨n, h1, h2⟩ := idxC_ok hc s (Nat.succ i)
    simp only [idxC, List.map_cons]
    have hx : (UInt8.ofNat x == UInt8.ofNat c) = Nat.beq (Nat.mod x 256) c := by
      have e : (UInt8.ofNat x == UInt8.ofNat c) = decide (x % 256 = c % 256) := by
        rw [Bool.eq_iff_iff]; simp [u8_eq]
      rw [e, Nat.mod_eq_of_lt hc]
      cases h : Nat.beq (Nat.mod x 256) c with
      | true => have h2 : x % 256 = c := natbeq_t h; simpa using h2
      | false => have h2 : ¬ x % 256 = c := natbeq_f h; simpa using h2
    unfold Lib.indexByte
    rw [hx]
    cases h : Nat.beq (Nat.mod x 256) c with
    | true => exact ⟨(i : Int), mkI_eq _ _, by simp⟩
    | false =>
      refine ⟨n, h1, ?_⟩
      have hge := Lib.indexByte_ge (s.map UInt8.ofNat) (UInt8.ofNat c)
      rw [h2]
      by_cases hm : Lib.indexByte (s.map UInt8.ofNat) (UInt8.ofNat c) = -1
      · simp [hm]
      · have hb : (Lib.indexByte (s.map UInt8.ofNat) (UInt8.ofNat c) == -1) = false := by simpa using hm
        rw [if_neg hm, hb]
        simp only [Bool.false_eq_true, if_false]
        rw [if_neg (by omega)]
        push_cast; omega

theorem cntC_ok {c : Nat} (hc : c < 256) : ∀ s : List Nat, cntC c s = Lib.countByte (s.map UInt8.ofNat) (UInt8.ofNat c)
  | [] => rfl
  | x :: s => by
    have ih := cntC_ok hc s
    have hx : (UInt8.ofNat x == UInt8.ofNat c) = Nat.beq (Nat.mod x 256) c := by
      have e : (UInt8.ofNat x == UInt8.ofNat c) = decide (x % 256 = c % 256) := by
        rw [Bool.eq_iff_iff]; simp [u8_eq]
      rw [e, Nat.mod_eq_of_lt hc]
      cases h : Nat.beq (Nat.mod x 256) c with
      | true => have h2 : x % 256 = c := natbeq_t h; simpa using h2
      | false => have h2 : ¬ x % 256 = c := natbeq_f h; simpa using h2
    simp only [cntC, List.map_cons]
    unfold Lib.countByte at ih ⊢
    rw [List.count_cons, hx, ← ih]
    cases Nat.beq (Nat.mod x 256) c <;> simp
theorem nats_ok (hT : TbOk P b) {g : Nat} {name : String} (hx : b.ext g = some name) {as : List CV} {us : List Value} (hm : MemR P w0 S r M nx w) (h : DenL r as us) (hno : (nats g as M nx name).isNo = false) : FnDoes P g us.toArray w (RCP P w0 S ro r M nx (nats g as M nx name)) := by
  have hcall := hT.ext g name hx us.toArray w
  right
  have fin : ∀ (c : Nat) (s : List Nat), (natS g c s M nx name).isNo = false → (strEq name "count" = false → (Extern.BytealgIndexByte.indexByte us.toArray).run P w = .ok (.int .i64 (Lib.indexByte (s.map UInt8.ofNat) (UInt8.ofNat c))) w) → (strEq name "count" = true → (Extern.BytealgCount.count us.toArray).run P w = .ok (.int .i64 (Lib.countByte (s.map UInt8.ofNat) (UInt8.ofNat c) : Nat)) w) → ∃ u w', (callFunc g us.toArray).run P w = .ok (.value u) w' ∧ RCP P w0 S ro r M nx (natS g c s M nx name) (.returned u) w' := by
    intro c s hn hr hr2
    unfold natS at hn ⊢
    split at hn
    · rename_i hc
      have hc2 := blt_t hc
      obtain ⟨n, h1, h2⟩ := idxC_ok hc2 s 0
      have hge := Lib.indexByte_ge (s.map UInt8.ofNat) (UInt8.ofNat c)
      have hn2 : n = Lib.indexByte (s.map UInt8.ofNat) (UInt8.ofNat c) := by
        rw [h2]; split
        · rename_i e; exact e.symm
        · simp
      cases hcn : strEq name "count" with
      | false =>
        have he : extF name = Extern.BytealgIndexByte.indexByte := by unfold extF; rw [hcn]
        refine ⟨_, w, by rw [hcall, he, hr hcn]; rfl, _, r, rfl, ?_, StepR.refl hm⟩
        unfold natV; rw [hcn]; simp only
        rw [h1, hn2]; simp only [Den]
      | true =>
        have he : extF name = Extern.BytealgCount.count := by unfold extF; rw [hcn]
        refine ⟨_, w, by rw [hcall, he, hr2 hcn]; rfl, _, r, rfl, ?_, StepR.refl hm⟩
        unfold natV; rw [hcn]; simp only
        rw [mkI_eq, cntC_ok hc2]; simp only [Den]; rfl
    · cases hn
  unfold nats at hno ⊢
  split at hno
  · rename_i s c
    simp only [DenL, Den] at h
    obtain ⟨u, ur, rfl, ⟨v, vr, rfl, rfl, rfl⟩, rfl⟩ := h
    refine fin c s hno (fun _ => ?_) (fun _ => ?_)
    · have := Lib.run_indexByteString (P := P) (bytesV s) (c : Int) w
      rw [bytesV_list] at this
      have e : ((c : Int).toNat.toUInt8) = UInt8.ofNat c := by simp
      rw [e] at this
      exact this
    · have := Lib.run_countString (P := P) (bytesV s) (c : Int) w
      rw [bytesV_list] at this
      have e : ((c : Int).toNat.toUInt8) = UInt8.ofNat c := by simp
      rw [e] at this
      exact this
  · rename_i i off n cc c
    cases hcn : strEq name "count" with
    | true => rw [hcn] at hno; cases hno
    | false =>
    rw [hcn] at hno
    simp only at hno ⊢
    unfold natB at hno ⊢
    split at hno
    · cases hno
    · rename_i l hl
      split at hno
      · rename_i s hs
        simp only [DenL] at h
        obtain ⟨u, ur, hu, ⟨v, vr, hv, rfl, rfl⟩, rfl⟩ := h
        simp only [Den] at hv; subst hv
        simp only [Den] at hu
        obtain ⟨bk, cap, hsk, _, hle, rfl⟩ := hu
        refine fin c s hno (fun _ => ?_) (fun h => by rw [hcn] at h; cases h)
        have key : ∀ (row : Row) (e : Nat), (M.get i = some (.cells row e) ∨ M.get i = some (.row row e)) → row.range off (n * 1) = some l → (Extern.BytealgIndexByte.indexByte #[.slice (some ⟨bk, off, none⟩) n cap, .int .u8 (c : Int)]).run P w = .ok (.int .i64 (Lib.indexByte (s.map UInt8.ofNat) (UInt8.ofNat c))) w := by
          intro row e hg hr
          obtain ⟨cs, fz, hx, hrr, _⟩ := cells_of hm hsk hg
          obtain ⟨us, h1, h2, h3, h4⟩ := Row.range_ok hrr _ _ _ hr
          have hus := bytesC_ok hs h1
          have hlen : s.length = n := by have := congrArg List.length hus; simp at this; omega
          have := Lib.run_indexByteSlice (P := P) w bk off n cap (s.map fun (x : Nat) => (x : Int)) (by simpa using hlen) (fun k hk => by
            rw [cell_of hx, h4 k (by omega), hus]
            have hks : k < s.length := by omega
            simp [List.getD_eq_getElem?_getD, hks]) (c : Int)
          have e : ((c : Int).toNat.toUInt8) = UInt8.ofNat c := by simp
          rw [e] at this
          refine this.trans ?_
          congr 4
          unfold Lib.bytesOf
          simp
        simp only [cellsOfSlice] at hl
        split at hl
        · rename_i row e hg; exact key row e (.inl hg) hl
        · rename_i row e hg; exact key row e (.inr hg) hl
        · cases hl
      · cases hno
  · cases hno
end m
end Go.Proofs.YtaodejbcmaeaaaaGreat.CE
