/- The concrete evaluator: from a run to a row. Arguments by the shapes of their types; what the row asks behind the call. No statement of the seat is proved here. -/
import Derived.Test.YtaodejbcmaeaaaaGreatCe28
import Derived.ProofKit
import Derived.OpenShut
import Derived.Deep.DeepHandedRow
import Derived.Deep.Slices
import Derived.Carry
set_option linter.unusedVariables false
set_option linter.unusedSimpArgs false
namespace Go.Proofs.YtaodejbcmaeaaaaGreat.CE
open Go Go.RowKit Go.ChangeShapes Go.WideShapes

/-- Nothing is related. -/
abbrev r0 : Rl := ⟨fun _ => none, fun _ => 0, fun _ => #[]⟩

/-! ## shapes -/
def shFs (P : Program) (sh : TypeId → Option (List CV)) : Nat → List Field → Option (List CV)
  | _, [] => some []
  | acc, f :: fs => match Nat.beq f.offset acc, sh f.type with
    | true, some l => match Nat.beq (lenL l) (P.cellsOf f.type), shFs P sh (acc + lenL l) fs with
      | true, some ls => some (l ++ ls)
      | _, _ => none
    | _, _ => none
def shOf (P : Program) : Nat → TypeId → Option (List CV)
  | 0, _ => none
  | k + 1, t => match P.underlying t with
    | some (.int k) => some [.anyI k]
    | some .bool => some [.anyB]
    | some .string => some [.anyStr]
    | some (.slice _) => some [.anyS]
    | some (.struct fs) => match shFs P (shOf P k) 0 fs.toList with
      | some l => match Nat.beq (lenL l) (P.cellsOf t) with
        | true => some l
        | false => none
      | none => none
    | _ => none
def shArg (P : Program) (t : TypeId) : Option CV := match P.underlying t with
  | some (.struct _) => match shOf P 8 t with
    | some l => some (.agg l)
    | none => none
  | some (.array _ _) => none
  | _ => match shOf P 8 t with
    | some [c] => some c
    | _ => none
def shAll (P : Program) : List TypeId → Option (List CV)
  | [] => some []
  | t :: ts => match shArg P t, shAll P ts with
    | some c, some l => some (c :: l)
    | _, _ => none
theorem denL_app {r : Rl} : ∀ {a b : List CV} {us vs : List Value}, DenL r a us → DenL r b vs → DenL r (a ++ b) (us ++ vs)
  | [], b, us, vs, h, h' => by simp only [DenL] at h; subst h; exact h'
  | x :: a, b, us, vs, h, h' => by
    simp only [DenL] at h
    obtain ⟨u, ur, h1, h2, rfl⟩ := h
    exact ⟨u, ur ++ vs, h1, denL_app h2 h', rfl⟩
theorem denL_one {r : Rl} {c : CV} {u : Value} (h : Den r c u) : DenL r [c] [u] := ⟨u, [], h, rfl, rfl⟩
section open_
variable {H : Type} {enc : TypeId × Value → H} {P : Program} {w : World} {base : Nat} {spare : Nat → Bool} {held : Bool}
theorem shFs_ok {sh : TypeId → Option (List CV)} {n : Nat} {cs : List Value}
    (hsh : ∀ {t : TypeId} {l : List CV} {cs : List Value} {x : DataW H × List MemPlace}, sh t = some l → DataW.trod enc P w base spare held n t cs = some x → DenL r0 l cs) :
    ∀ {fs : List Field} {acc : Nat} {l : List CV}, shFs P sh acc fs = some l → (∀ f ∈ fs, ∃ x, DataW.trod enc P w base spare held n f.type ((cs.drop f.offset).take (P.cellsOf f.type)) = some x) → DenL r0 l ((cs.drop acc).take (lenL l))
  | [], acc, l, h, _ => by
    simp only [shFs, Option.some.injEq] at h
    subst h
    simp [lenL, DenL]
  | f :: fs, acc, l, h, hx => by
    simp only [shFs] at h
    split at h
    · rename_i l1 ho h1
      split at h
      · rename_i ls hc h2
        simp only [Option.some.injEq] at h
        subst h
        have ho := natbeq_t ho
        have hc := natbeq_t hc
        obtain ⟨x, hx1⟩ := hx f (List.mem_cons_self ..)
        have d1 := hsh h1 hx1
        have d2 := shFs_ok hsh h2 (fun g hg => hx g (List.mem_cons_of_mem _ hg))
        rw [ho, ← hc] at d1
        have e : (cs.drop acc).take (lenL (l1 ++ ls)) = (cs.drop acc).take (lenL l1) ++ (cs.drop (acc + lenL l1)).take (lenL ls) := by
          rw [← List.drop_drop, lenL_eq, lenL_eq, lenL_eq, List.length_append, List.take_add]
        rw [e]
        exact denL_app d1 d2
      · cases h
    · cases h
theorem shOf_ok : ∀ (k : Nat) {n : Nat} {t : TypeId} {l : List CV} {cs : List Value} {x : DataW H × List MemPlace}, shOf P k t = some l → DataW.trod enc P w base spare held n t cs = some x → DenL r0 l cs
  | 0, _, _, _, _, _, h, _ => by cases h
  | k + 1, n, t, l, cs, x, h, hx => by
    simp only [shOf] at h
    split at h
    · rename_i kk hu
      cases h
      obtain ⟨m, rfl, _⟩ := DataW.trod_int hu hx
      exact denL_one ⟨m, rfl⟩
    · rename_i hu
      cases h
      obtain ⟨m, rfl, _⟩ := DataW.trod_bool hu hx
      exact denL_one ⟨m, rfl⟩
    · rename_i hu
      cases h
      obtain ⟨m, rfl, _⟩ := DataW.trod_string hu hx
      exact denL_one ⟨m, rfl⟩
    · rename_i hu
      cases h
      rcases Deep.open_slice hu hx with ⟨rfl, _⟩ | ⟨a, len, cap, _, _, _, _, rfl, _⟩
      · exact denL_one ⟨_, _, _, rfl⟩
      · exact denL_one ⟨_, _, _, rfl⟩
    · rename_i fs hu
      split at h
      · rename_i l1 h1
        split at h
        · rename_i hc
          cases h
          have hc := natbeq_t hc
          obtain ⟨xs, m, rfl, _, hl, hxl, hf⟩ := DataW.trod_struct hu hx
          have := shFs_ok (cs := cs) (n := m) (fun h1 h2 => shOf_ok k h1 h2) h1 (fun f hf' => by
            obtain ⟨i, hi, rfl⟩ := List.mem_iff_getElem.1 hf'
            have hi' : i < fs.size := by simpa using hi
            refine ⟨xs[i]'(by omega), ?_⟩
            have hq : fs[i]? = some fs[i] := Array.getElem?_eq_getElem hi'
            have := hf i _ hq
            rw [List.getElem?_eq_getElem (by omega : i < xs.length)] at this
            simpa using this)
          rw [hc, ← hl] at this
          simpa using this
        · cases h
      · cases h
    · cases h
theorem shArg_ok {r : Reach} {b' : Nat} {t : TypeId} {v : Value} {c : CV} {d : DataW H} {ps : List MemPlace} (h : shArg P t = some c) (hv : Value.okWide P w r b' t v) (hd : DataW.Trod enc P w base spare held t v d ps) : Den r0 c v := by
  obtain ⟨n, hn⟩ := hd
  unfold shArg at h
  split at h
  · rename_i fs hu
    split at h
    · rename_i l hl
      cases h
      obtain ⟨cs, rfl, _⟩ := okWide_struct hu hv
      refine ⟨cs.toList, shOf_ok 8 hl (by simpa [Value.cells] using hn), by simp⟩
    · cases h
  · cases h
  · rename_i hns hna
    split at h
    · rename_i c' hl
      cases h
      have := shOf_ok 8 hl hn
      have hc : Value.cells v = #[v] ∨ ∃ cs, v = .agg cs := by cases v <;> simp [Value.cells]
      rcases hc with hc | ⟨cs, rfl⟩
      · rw [hc] at this
        obtain ⟨u, ur, h1, h2, h3⟩ := this
        simp only [DenL] at h2
        subst h2
        simp only [List.cons.injEq, and_true] at h3
        subst h3
        exact h1
      · exfalso
        unfold Value.okWide at hv
        split at hv
        · rename_i hu; exact hns _ hu
        · rename_i hu; exact hna _ _ hu
        · simp only [Cell.okWide] at hv
          split at hv <;> simp_all [Cell.ok]
    · cases h
theorem shAll_ok {r : Reach} {b' : Nat} : ∀ {ts : List TypeId} {vs : List Value} {L : List CV} {ds : List (DataW H)} {ps : List MemPlace}, shAll P ts = some L → (∀ (j : Nat) t v, ts[j]? = some t → vs[j]? = some v → Value.okWide P w r b' t v) → DataW.TrodAll enc P w base spare held ts vs ds ps → DenL r0 L vs
  | [], [], L, ds, ps, h, _, _ => by cases h; rfl
  | [], _ :: _, _, ds, _, _, _, hd => by cases ds <;> exact hd.elim
  | _ :: _, [], _, ds, _, _, _, hd => by cases ds <;> exact hd.elim
  | t :: ts, v :: vs, L, [], ps, _, _, hd => hd.elim
  | t :: ts, v :: vs, L, d :: ds, ps, h, hv, hd => by
    obtain ⟨p, q, h1, h2, _⟩ := hd
    simp only [shAll] at h
    split at h
    · rename_i c l hc hl
      cases h
      exact ⟨v, vs, shArg_ok hc (hv 0 t v rfl rfl) h1, shAll_ok hl (fun j t' v' ht hv' => hv (j + 1) t' v' ht hv') h2, rfl⟩
    · cases h
theorem trodAll_len {w : World} : ∀ {ts : List TypeId} {vs : List Value} {ds : List (DataW H)} {ps : List MemPlace}, DataW.TrodAll enc P w base spare held ts vs ds ps → ds.length = ts.length
  | [], [], [], _, _ => rfl
  | [], [], _ :: _, _, h => h.elim
  | [], _ :: _, ds, _, h => by cases ds <;> exact h.elim
  | _ :: _, [], ds, _, h => by cases ds <;> exact h.elim
  | t :: ts, v :: vs, [], _, h => h.elim
  | t :: ts, v :: vs, d :: ds, _, h => by
    obtain ⟨p, q, _, h2, _⟩ := h
    simp [trodAll_len h2]
theorem below_all (hl : laidOutB P = true) {W W' : World} (hb : Below W.heap.size W W') : ∀ {ts : List TypeId} {vs : List Value} {ds : List (DataW H)} {ps : List MemPlace}, (ts.all fun t => P.readableRec t && Nat.blt t P.types.size) = true →
    DataW.TrodAll enc P W 0 (fun _ => true) true ts vs ds ps → (∀ x ∈ ps, x.block < W.heap.size) → DataW.TrodAll enc P W' 0 (fun b => decide (b < W.heap.size)) true ts vs ds ps
  | [], [], [], _, _, h, _ => h
  | [], [], _ :: _, _, _, h, _ => h.elim
  | [], _ :: _, ds, _, _, h, _ => by cases ds <;> exact h.elim
  | _ :: _, [], ds, _, _, h, _ => by cases ds <;> exact h.elim
  | t :: ts, v :: vs, [], _, _, h, _ => h.elim
  | t :: ts, v :: vs, d :: ds, _, ht, h, hlt => by
    obtain ⟨p, q, h1, h2, rfl⟩ := h
    simp only [List.all_cons, Bool.and_eq_true] at ht
    exact ⟨p, q, Below.trod hl ht.1.1 (by simpa [Nat.blt_eq] using ht.1.2) h1 hb (fun x hx => hlt x (List.mem_append_left _ hx)), below_all hl hb ht.2 h2 (fun x hx => hlt x (List.mem_append_right _ hx)), rfl⟩
end open_

/-! ## hints -/
theorem den_cmpI {k : IntKind} {u : Value} (c : Int) (h : Den r0 (.anyI k) u) : Den r0 (.cmpI k c true) u ∨ Den r0 (.cmpI k c false) u := by
  obtain ⟨n, rfl⟩ := h
  by_cases hn : n > c
  · exact .inl ⟨n, by simp [hn], rfl⟩
  · exact .inr ⟨n, by simp [hn], rfl⟩
theorem den_cmpS {u : Value} (c : Int) (h : Den r0 .anyS u) : Den r0 (.cmpS c true) u ∨ Den r0 (.cmpS c false) u := by
  obtain ⟨A, n, cp, rfl⟩ := h
  by_cases hn : (n : Int) > c
  · exact .inl ⟨A, n, cp, by simp [hn], rfl⟩
  · exact .inr ⟨A, n, cp, by simp [hn], rfl⟩
theorem den_cmpStr {u : Value} (c : Int) (h : Den r0 .anyStr u) : Den r0 (.cmpStr c true) u ∨ Den r0 (.cmpStr c false) u := by
  obtain ⟨s, rfl⟩ := h
  by_cases hn : (s.size : Int) > c
  · exact .inl ⟨s, by simp [hn], rfl⟩
  · exact .inr ⟨s, by simp [hn], rfl⟩
/-- One of a list's members is turned. -/
theorem denL_turn {r : Rl} {c : CV} {cs : List CV} : ∀ {pre : List CV} {post : List CV} {us : List Value}, DenL r (pre ++ c :: post) us → (∀ u, Den r c u → ∃ d ∈ cs, Den r d u) → ∃ d ∈ cs, DenL r (pre ++ d :: post) us
  | [], post, us, h, hc => by
    obtain ⟨u, ur, h1, h2, rfl⟩ := h
    obtain ⟨d, hd, h3⟩ := hc u h1
    exact ⟨d, hd, u, ur, h3, h2, rfl⟩
  | p :: pre, post, us, h, hc => by
    obtain ⟨u, ur, h1, h2, rfl⟩ := h
    obtain ⟨d, hd, h3⟩ := denL_turn h2 hc
    exact ⟨d, hd, u, ur, h1, h3, rfl⟩

/-! ## the row -/
theorem FnDoes.calls {P : Program} {g : Nat} {us : Array Value} {w : World} {R : Ending → World → Prop} (he : Eng.Enters P g) (h : FnDoes P g us w R) : Calls P g us w R := by
  rcases h with ⟨_, h⟩ | ⟨u, w', h, _⟩
  · exact CallsIn.calls h (fun k d hd => by cases hd)
  · rw [he us w] at h; cases h
/-- A law that answers true and leaves all as it was: what the row asks. -/
theorem row_post {H : Type} {enc : TypeId × Value → H} {P : Program} {fn : Func} {g : Nat} {s : ChangeSpec} {L : List CV} (hl : laidOutB P = true) (he : Eng.Enters P g)
    (hts : (fn.params.toList.all fun t => P.readableRec t && Nat.blt t P.types.size) = true) (hsh : shAll P fn.params.toList = some L)
    (hv : s.vars = []) (hfn : ∀ ds : List (DataW H), ds.length = fn.params.toList.length → s.fn H ds = { results := [.lit (.bool true)], args := ds })
    {tb : TypeId} (hres : fn.resultTypes.toList = [tb]) (hb : P.underlying tb = some .bool)
    (law : ∀ us w, DenL r0 L us → FnDoes P g us.toArray w fun e w' => e = .returned (.bool true) ∧ Eng.Fr (fun _ => False) w w')
    (W : World) (base : Nat) (args : Array Value) (ds gs : List (DataW H)) (before : List MemPlace)
    (hval : ∀ (j : Nat) t v, fn.params[j]? = some t → args[j]? = some v → Value.okWide P W .any base t v)
    (hW : DataW.Whole enc P fn.params.toList s.vars false W args.toList ds gs before) :
    Calls P g args W fun e W' => ∃ v, e = .returned v ∧ s.post enc P fn false true false false W args v W' := by
  have hW' := hW
  obtain ⟨p, q, hA, hV, rfl, _⟩ := hW
  rw [hv] at hV
  obtain ⟨rfl, rfl⟩ := trodVars_none hV
  have hlen := trodAll_len hA
  have hd : DenL r0 L args.toList := shAll_ok hsh (fun j t v ht hv' => hval j t v (by simpa using ht) (by simpa using hv')) hA
  have hc := (law args.toList W hd).calls he
  simp only [List.append_nil] at hW'
  have hc : Calls P g args W fun e w' => e = .returned (.bool true) ∧ Eng.Fr (fun _ => False) W w' := by simpa using hc
  refine Calls.mono hc fun e W' he => ?_
  obtain ⟨h1, h2⟩ := he
  subst h1
  have hb' : Below W.heap.size W W' := h2.below
  refine ⟨_, rfl, ds, [], p, [], p, [], hW', ?_, ?_, ?_, hb'.frame _, fun h => by cases h⟩
  · rw [List.append_nil, hfn ds hlen, hres]
    have e : fn.resultTypes.size = 1 := by
      have := congrArg List.length hres
      simpa using this
    rw [e]
    exact trodAll_mk1 (shut_bool hb true)
  · rw [List.append_nil, hfn ds hlen]
    exact below_all hl hb' hts hA (fun x hx => by simpa using hW'.lt x hx)
  · rw [List.append_nil, hfn ds hlen, hv]
    rfl
end Go.Proofs.YtaodejbcmaeaaaaGreat.CE
