/- The concrete evaluator: runs that are known, tables of a seat. No statement of the seat is proved here. -/
import Derived.Test.YtaodejbcmaeaaaaGreatCe27
import Derived.Laws.Externs
set_option linter.unusedVariables false
set_option linter.unusedSimpArgs false
namespace Go.Proofs.YtaodejbcmaeaaaaGreat.CE
open Go Go.RowKit

/-! ## runs -/
def chk (m : Mm) : RC → Bool
  | .ret v M nx => match same v m.v with
    | true => match Nat.beq nx m.nx' with
      | true => subM m.M' M
      | false => false
    | false => false
  | _ => false
def OneOk (P : Program) (g : Nat) (m : Mm) : Prop := ∀ (w0 : World) (S : Nat → Prop) (r : Rl) (w : World) (us : List Value), MemR P w0 S r m.M m.nx w → DenL r m.as us → FnDoes P g us.toArray w (RCP P w0 S 0 r m.M m.nx (.ret m.v m.M' m.nx'))
theorem one_ok {P : Program} {b : Tb} (hT : TbOk P b) (hpf : PfOk P b) (hmm : MmOk P b) {k g : Nat} {m : Mm} (h : chk m ((fs b k).call 0 g m.as m.M m.nx) = true) : OneOk P g m := by
  intro w0 S r w us hm hd
  generalize hrc : (fs b k).call 0 g m.as m.M m.nx = rc at h
  cases rc with
  | no _ _ _ _ => cases h
  | pan _ _ _ => cases h
  | ret v M nx =>
    have hno : ((fs b k).call 0 g m.as m.M m.nx).isNo = false := by rw [hrc]; rfl
    refine (((fs_ok hT hpf hmm k).1 w0 S).call 0 g m.as m.M m.nx r w us hm hd (Nat.zero_le _) hno).mono fun e w' he => ?_
    have he : RCP P w0 S 0 r m.M m.nx ((fs b k).call 0 g m.as m.M m.nx) e w' := he
    rw [hrc] at he
    obtain ⟨u, r', rfl, h1, h2⟩ := he
    simp only [chk] at h
    split at h
    · rename_i hs
      split at h
      · rename_i hn
        have hs := same_eq hs
        have hn := natbeq_t hn
        have hsub := subM_ok h
        subst hs; subst hn
        refine ⟨u, r', rfl, h1, h2.le, h2.mem.sub hsub, h2.nxle, fun i hi hs => ?_, fun i hi => absurd hi (Nat.not_lt_zero _), fun i hi st pe fn n E ps as bd d e => h2.lc i hi st pe fn n E ps as bd d (hsub i _ e)⟩
        obtain ⟨e1, e2⟩ := h2.un i hi hs
        refine ⟨e1, ?_⟩
        cases hmi : m.M'.get i with
        | none => exact .inr (.inl rfl)
        | some o =>
          have := hsub i o hmi
          rw [this] at e2
          exact e2.imp (fun e => e) (fun e => e.imp (fun e => by cases e) (fun e => e))
      · cases h
    · cases h
/-- The runs that are known, by function. -/
def mmOf : List (Nat × Mm) → Nat → List Mm
  | [], _ => []
  | (h, m) :: r, g => match Nat.beq h g with
    | true => m :: mmOf r g
    | false => mmOf r g
theorem mmOf_mem {g : Nat} {m : Mm} : ∀ {l : List (Nat × Mm)}, m ∈ mmOf l g → (g, m) ∈ l
  | (h, x) :: r, hm => by
    simp only [mmOf] at hm
    split at hm
    · rename_i e
      have e := natbeq_t e
      subst e
      rcases List.mem_cons.1 hm with rfl | hm
      · exact List.mem_cons_self ..
      · exact List.mem_cons_of_mem _ (mmOf_mem hm)
    · exact List.mem_cons_of_mem _ (mmOf_mem hm)
theorem mmOf_ok {P : Program} {b : Tb} {l : List (Nat × Mm)} (hb : b.mm = mmOf l) (h : ∀ x ∈ l, OneOk P x.1 x.2) : MmOk P b := fun g m hm => h (g, m) (mmOf_mem (by rw [hb] at hm; exact hm))
theorem mm_nil {P : Program} : ∀ x ∈ ([] : List (Nat × Mm)), OneOk P x.1 x.2 := fun x h => by cases h
theorem mm_cons {P : Program} {g : Nat} {m : Mm} {l : List (Nat × Mm)} (h : OneOk P g m) (r : ∀ x ∈ l, OneOk P x.1 x.2) : ∀ x ∈ (g, m) :: l, OneOk P x.1 x.2 := List.forall_mem_cons.2 ⟨h, r⟩
theorem pf_nil {P : Program} {b : Tb} (hb : b.pf = fun _ => []) : PfOk P b := fun g as v h => by rw [hb] at h; cases h
/-- Values that are known, by function. -/
def pfL : List (Nat × (List CV × CV)) → Nat → List (List CV × CV)
  | [], _ => []
  | (h, x) :: r, g => match Nat.beq h g with
    | true => x :: pfL r g
    | false => pfL r g
theorem pfL_mem {g : Nat} {x : List CV × CV} : ∀ {l : List (Nat × (List CV × CV))}, x ∈ pfL l g → (g, x) ∈ l
  | (h, y) :: r, hm => by
    simp only [pfL] at hm
    split at hm
    · rename_i e
      have e := natbeq_t e
      subst e
      rcases List.mem_cons.1 hm with rfl | hm
      · exact List.mem_cons_self ..
      · exact List.mem_cons_of_mem _ (pfL_mem hm)
    · exact List.mem_cons_of_mem _ (pfL_mem hm)
theorem pfL_ok {P : Program} {b : Tb} {l : List (Nat × (List CV × CV))} (hb : b.pf = pfL l) (h : ∀ x ∈ l, PfOne P x.1 x.2.1 x.2.2) : PfOk P b := fun g as v hm => h (g, as, v) (pfL_mem (by rw [hb] at hm; exact hm))
theorem pl_nil {P : Program} : ∀ x ∈ ([] : List (Nat × (List CV × CV))), PfOne P x.1 x.2.1 x.2.2 := fun x h => by cases h
theorem pl_cons {P : Program} {g : Nat} {as : List CV} {v : CV} {l : List (Nat × (List CV × CV))} (h : PfOne P g as v) (r : ∀ x ∈ l, PfOne P x.1 x.2.1 x.2.2) : ∀ x ∈ (g, as, v) :: l, PfOne P x.1 x.2.1 x.2.2 := List.forall_mem_cons.2 ⟨h, r⟩
def isT : RC → Bool
  | .ret (.bool b) _ _ => b
  | _ => false
theorem isT_ok {rc : RC} (h : isT rc = true) : ∃ M nx, rc = .ret (.bool true) M nx := by
  unfold isT at h
  split at h
  · subst h; exact ⟨_, _, rfl⟩
  · cases h
theorem true_ok {P : Program} {b : Tb} (hT : TbOk P b) (hpf : PfOk P b) (hmm : MmOk P b) {k g n : Nat} {as : List CV} (h : isT ((fs b k).call 0 g as .lf n) = true) {us : List Value} (hd : DenL ⟨fun _ => none, fun _ => 0, fun _ => #[]⟩ as us) (w : World) :
    FnDoes P g us.toArray w fun e w' => e = .returned (.bool true) ∧ Eng.Fr (fun _ => False) w w' := by
  obtain ⟨M, nx, h⟩ := isT_ok h
  refine (top_ok hT hpf hmm h hd w).mono fun e w' he => ?_
  obtain ⟨u, r, rfl, h1, h2⟩ := he
  simp only [Den] at h1
  subst h1
  exact ⟨rfl, h2⟩
/-- A function without arguments that answers true. -/
theorem pfT_one {P : Program} {b : Tb} (hT : TbOk P b) (hpf : PfOk P b) (hmm : MmOk P b) {k g n : Nat} (h : isT ((fs b k).call 0 g [] .lf n) = true) : PfOne P g [] (.bool true) := by
  intro r us hd w
  simp only [DenL] at hd
  subst hd
  refine (true_ok hT hpf hmm h (us := []) rfl w).mono fun e w' he => ?_
  obtain ⟨rfl, h2⟩ := he
  exact ⟨_, rfl, fun r => rfl, h2⟩

/-! ## tables -/
def fiOf (f : Func) : Option FI := match f.body with
  | some c => some ⟨f.ntmps, f.results.toList, c⟩
  | none => none
/-- Methods by type and name. -/
def mdL : List (Nat × String × (Nat × Option Nat)) → Nat → String → Option (Nat × Option Nat)
  | [], _, _ => none
  | (t', m', x) :: l, t, m => match Nat.beq t' t with
    | false => mdL l t m
    | true => match strEq m' m with
      | true => some x
      | false => mdL l t m
theorem mdL_mem {t : Nat} {m : String} {x : Nat × Option Nat} : ∀ {l : List (Nat × String × (Nat × Option Nat))}, mdL l t m = some x → (t, m, x) ∈ l
  | (t', m', x') :: l, h => by
    simp only [mdL] at h
    split at h
    · exact List.mem_cons_of_mem _ (mdL_mem h)
    · rename_i h1
      split at h
      · rename_i h2
        injection h with h
        rw [natbeq_t h1, of_decide_eq_true h2, h]
        exact List.mem_cons_self ..
      · exact List.mem_cons_of_mem _ (mdL_mem h)
noncomputable def mkB (ft : List (Nat × Func)) (tl : List (Nat × TI)) (pl : List (Nat × T Plan)) (xl : List (Nat × String)) (ml : List (Nat × String × (Nat × Option Nat))) (pf : Nat → List (List CV × CV)) (mm : Nat → List Mm) : Tb where
  fn := fun g => match (ofL ft).get g with
    | some f => fiOf f
    | none => none
  ty := fun t => (ofL tl).get t
  md := fun t m => mdL ml t m
  pl := fun g r => match (ofL pl).get g with
    | some t => t.get r
    | none => none
  ext := fun g => (ofL xl).get g
  pf := pf
  mm := mm
  dbg := fun _ _ => ""
/-- Each function's code is looked at once. -/
noncomputable def ckAll (b : Tb) : List (Nat × Func) → Bool
  | [] => true
  | (g, f) :: r => match fiOf f with
    | some fi => match ckCode b g fi.n fi.body with
      | true => ckAll b r
      | false => false
    | none => ckAll b r
theorem ckAll_mem {b : Tb} {g : Nat} {f : Func} {fi : FI} (hfi : fiOf f = some fi) : ∀ {l : List (Nat × Func)}, ckAll b l = true → (g, f) ∈ l → ckCode b g fi.n fi.body = true
  | (g', f') :: r, h, hm => by
    simp only [ckAll] at h
    rcases List.mem_cons.1 hm with e | hm
    · injection e with e1 e2
      subst e1; subst e2
      rw [hfi] at h
      simp only at h
      split at h
      · assumption
      · cases h
    · split at h
      · split at h
        · exact ckAll_mem hfi h hm
        · cases h
      · exact ckAll_mem hfi h hm
def FnOk (P : Program) (x : Nat × Func) : Prop := P.funcs[x.1]? = some x.2 ∧ Eng.Enters P x.1
theorem fn_cons {P : Program} {g : Nat} {f : Func} {l : List (Nat × Func)} (h : P.funcs[g]? = some f) (e : Eng.Enters P g) (r : ∀ x ∈ l, FnOk P x) : ∀ x ∈ (g, f) :: l, FnOk P x := List.forall_mem_cons.2 ⟨⟨h, e⟩, r⟩
theorem mkB_ok {P : Program} {ft : List (Nat × Func)} {tl : List (Nat × TI)} {pl : List (Nat × T Plan)} {xl : List (Nat × String)} {ml : List (Nat × String × (Nat × Option Nat))} {pf : Nat → List (List CV × CV)} {mm : Nat → List Mm}
    (hf : ∀ x ∈ ft, FnOk P x) (ht : ∀ x ∈ tl, tyOf P x.1 x.2.eq = some x.2) (hm : P.follows .mixedOrders = true)
    (hmd : ∀ x ∈ ml, mdOf P x.1 x.2.1 = some x.2.2) (hc : ckAll (mkB ft tl pl xl ml pf mm) ft = true)
    (hx : ∀ x ∈ xl, ∀ (args : Array Value) (w : World), (callFunc x.1 args).run P w = ((extF x.2 args).run P w).andThen fun v w' => .ok (.value v) w') : TbOk P (mkB ft tl pl xl ml pf mm) where
  md t m g d h := mdOf_ok (hmd _ (mdL_mem h))
  ty t ti h := tyOf_ok (ht _ (ofL_mem h))
  fn g fi h := by
    simp only [mkB] at h
    cases hg : (ofL ft).get g with
    | none => rw [hg] at h; cases h
    | some f =>
      rw [hg] at h
      obtain ⟨h1, h2⟩ := hf _ (ofL_mem hg)
      simp only [fiOf] at h
      split at h
      · rename_i c hb
        injection h with h; subst h
        exact ⟨h2, f, h1, hb, rfl, rfl⟩
      · cases h
  mix := hm
  ck g fi h := by
    simp only [mkB] at h
    cases hg : (ofL ft).get g with
    | none => rw [hg] at h; cases h
    | some f => rw [hg] at h; exact ckAll_mem h hc (ofL_mem hg)
  ext g name h := hx _ (ofL_mem h)
end Go.Proofs.YtaodejbcmaeaaaaGreat.CE
