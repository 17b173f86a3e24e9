/- The concrete evaluator: operations that yield a value and leave the memory, all of them. No statement of the seat is proved here. -/
import Derived.Test.YtaodejbcmaeaaaaGreatCe5
set_option linter.unusedVariables false
set_option linter.unusedSimpArgs false
namespace Go.Proofs.YtaodejbcmaeaaaaGreat.CE
open Go Go.RowKit
open Go.Proofs.YtaodejbcmaeaaaaGreat.Eng (Fr Pl pl TyI TyK Tab TabOk kix)

section q
variable {P : Program} {b : Tb} {w0 w : World} {S : Nat → Prop} {r : Rl} {M : T AObj} {nx : Nat} {E : T CV} {ρ : Operand → Value}

/-- What is known of the operands. -/
def OpsR (r : Rl) (E : T CV) (ρ : Operand → Value) (l : List Operand) : Prop := ∀ x ∈ l, ∀ v, ev E x = some v → Den r v (ρ x)

theorem evs_ok : ∀ {l : List Operand} {vs : List CV}, OpsR r E ρ l → evs E l = some vs → DenL r vs (l.map ρ)
  | [], vs, _, h => by simp [evs] at h; subst h; simp [DenL]
  | x :: l, vs, hρ, h => by
    simp only [evs] at h
    split at h
    · cases h
    · rename_i v hv
      split at h
      · cases h
      · rename_i ls hl
        simp at h; subst h
        exact DenL.cons (hρ x (by simp) v hv) (evs_ok (fun y hy => hρ y (by simp [hy])) hl)

theorem natOf_ok {v : CV} {u : Value} {n : Nat} (h : natOf v = some n) (hd : Den r v u) : ∃ k, u = .int k (n : Int) := by
  unfold natOf at h
  split at h
  · simp at h; subst h; exact ⟨_, hd⟩
  · cases h

theorem bound_ok {v : CV} {u : Value} {n y : Nat} {code : BoundsCode} (h : natOf v = some n) (hd : Den r v u) (hle : n ≤ y) : (Instr.sliceBound u y code).run P w = .ok n w := by
  obtain ⟨k, rfl⟩ := natOf_ok h hd
  have := Eng.run_bound (P := P) k (n : Int) y code (by omega) (by omega) w
  simpa using this

/-- A bound of a slice, as an operand. -/
def OB (r : Rl) (E : T CV) (ρ : Operand → Value) (x : Option Operand) (v : Option CV) : Prop := match v with
  | none => x.map ρ = none
  | some c => ∃ u, x.map ρ = some u ∧ Den r c u
theorem evo_ok {x : Option Operand} {v : Option CV} (hρ : OpsR r E ρ x.toList) (h : evo E x = some v) : OB r E ρ x v := by
  cases x with
  | none => simp [evo] at h; subst h; rfl
  | some x =>
    simp only [evo] at h
    split at h
    · cases h
    · rename_i c hc
      simp at h; subst h
      exact ⟨ρ x, rfl, hρ x (by simp) c hc⟩

theorem bounds_ok {isS : Bool} {len cap l h m : Nat} {lo hi mx : Option Operand} {clo chi cmx : Option CV} (hlo : OB r E ρ lo clo) (hhi : OB r E ρ hi chi) (hmx : OB r E ρ mx cmx)
    (h1 : optNat 0 clo = some l) (h2 : optNat len chi = some h) (h3 : optNat cap cmx = some m) (hm : cmx = none ∨ chi ≠ none) (hlh : l ≤ h) (hhm : h ≤ m) (hmc : m ≤ cap) :
    (Instr.sliceBounds isS len cap (lo.map ρ) (hi.map ρ) (mx.map ρ)).run P w = .ok (l, h, m) w := by
  cases cmx with
  | none =>
    have e3 : mx.map ρ = none := hmx
    simp only [optNat, Option.some.injEq] at h3; subst h3
    cases chi with
    | none =>
      have e2 : hi.map ρ = none := hhi
      simp only [optNat, Option.some.injEq] at h2; subst h2
      cases clo with
      | none =>
        have e1 : lo.map ρ = none := hlo
        simp only [optNat, Option.some.injEq] at h1; subst h1
        simp [Instr.sliceBounds, e1, e2, e3]
      | some c =>
        obtain ⟨u, e1, hd⟩ := hlo
        simp [Instr.sliceBounds, e1, e2, e3, bound_ok (P := P) (w := w) h1 hd hlh]
    | some ch =>
      obtain ⟨uh, e2, hdh⟩ := hhi
      cases clo with
      | none =>
        have e1 : lo.map ρ = none := hlo
        simp only [optNat, Option.some.injEq] at h1; subst h1
        simp [Instr.sliceBounds, e1, e2, e3, bound_ok (P := P) (w := w) h2 hdh hhm]
      | some c =>
        obtain ⟨u, e1, hd⟩ := hlo
        simp [Instr.sliceBounds, e1, e2, e3, bound_ok (P := P) (w := w) h1 hd hlh, bound_ok (P := P) (w := w) h2 hdh hhm]
  | some cm =>
    obtain ⟨um, e3, hdm⟩ := hmx
    cases chi with
    | none => simp at hm
    | some ch =>
      obtain ⟨uh, e2, hdh⟩ := hhi
      cases clo with
      | none =>
        have e1 : lo.map ρ = none := hlo
        simp only [optNat, Option.some.injEq] at h1; subst h1
        simp [Instr.sliceBounds, e1, e2, e3, bound_ok (P := P) (w := w) h2 hdh hhm, bound_ok (P := P) (w := w) h3 hdm hmc]
      | some c =>
        obtain ⟨u, e1, hd⟩ := hlo
        simp [Instr.sliceBounds, e1, e2, e3, bound_ok (P := P) (w := w) h1 hd hlh, bound_ok (P := P) (w := w) h2 hdh hhm, bound_ok (P := P) (w := w) h3 hdm hmc]

theorem addr_add (bk o n : Nat) : (⟨bk, o, none⟩ : Addr).add n = ⟨bk, o + n, none⟩ := Addr.add_lit ..

theorem sliceOf_ok {i o size l h m bk : Nat} {c : Cap} {v : CV} (hs : r.σ i = some bk) (hc : CapOk r i c m) (hv : sliceOf i o size l h c = some v) (hhm : h ≤ m) :
    l ≤ h ∧ Den r v (.slice (if m = l then some ⟨bk, o, none⟩ else (some (⟨bk, o, none⟩ : Addr)).map (·.add (l * size))) (h - l) (m - l)) := by
  unfold sliceOf at hv
  split at hv
  · cases hv
  · rename_i hlh
    have hlh := ble_t hlh
    refine ⟨hlh, ?_⟩
    cases c with
    | k c =>
      have hc : m = c := hc
      subst hc
      simp only at hv
      split at hv
      · cases hv
      · split at hv
        · rename_i hb
          have := natbeq_t hb; subst this
          simp at hv; subst hv
          simp only [Den, if_true]
          exact ⟨bk, 0, hs, rfl, Nat.le_refl _, by rw [Nat.sub_self, show h - m = 0 by omega]⟩
        · rename_i hb
          have hb := natbeq_f hb
          simp at hv; subst hv
          simp only [Den]
          rw [if_neg hb]
          exact ⟨bk, m - l, hs, rfl, by omega, by simp [addr_add]⟩
    | r d =>
      obtain ⟨_, hcd⟩ := hc
      simp only at hv
      split at hv
      · rename_i hb
        have := natbeq_t hb; subst this
        split at hv
        · rename_i hb
          have := natbeq_t hb; subst this
          simp at hv; subst hv
          simp only [Den]
          refine ⟨bk, m, hs, ⟨⟨bk, hs⟩, hcd⟩, by omega, ?_⟩
          split <;> simp [addr_add]
        · simp at hv; subst hv
          simp only [Den]
          split
          · exact ⟨bk, o, m - l, ⟨⟨bk, hs⟩, by omega⟩, by simp⟩
          · exact ⟨bk, o + l * size, m - l, ⟨⟨bk, hs⟩, by omega⟩, by simp [addr_add]⟩
      · rename_i hb
        have hb := natbeq_f hb
        simp at hv; subst hv
        simp only [Den]
        rw [if_neg (by omega)]
        exact ⟨bk, m - l, hs, ⟨⟨bk, hs⟩, by omega⟩, by omega, by simp [addr_add]⟩

theorem evps_ok : ∀ {l : List (Nat × Operand)} {vs : List (Nat × CV)}, OpsR r E ρ (l.map (·.2)) → evps E l = some vs → vs.map (·.1) = (l.map (fun x => (x.1, ρ x.2))).map (·.1) ∧ DenL r (vs.map (·.2)) ((l.map (fun x => (x.1, ρ x.2))).map (·.2))
  | [], vs, _, h => by simp [evps] at h; subst h; simp [DenL]
  | (i, x) :: l, vs, hρ, h => by
    simp only [evps] at h
    split at h
    · cases h
    · rename_i v hv
      split at h
      · cases h
      · rename_i ls hl
        simp at h; subst h
        obtain ⟨h1, h2⟩ := evps_ok (fun y hy => hρ y (by simp at hy ⊢; exact .inr hy)) hl
        refine ⟨by simpa using h1, ?_⟩
        simp only [List.map_cons]
        exact DenL.cons (hρ x (by simp) v hv) h2

theorem cellsC_ok {v : CV} {u : Value} (h : Den r v u) (hn : v ≠ .any) (hr : ∀ x, v ≠ .raw x) : ∃ us, Eng.cellsL u = us ∧ DenL r (cellsC v) us := by
  refine ⟨_, rfl, ?_⟩
  have one : ∀ x : CV, cellsC x = [x] → (∀ cs, u ≠ .agg cs) → Den r x u → DenL r (cellsC x) (Eng.cellsL u) := by
    intro x hx hu hd
    have : Eng.cellsL u = [u] := by cases u <;> first | rfl | exact absurd rfl (hu _)
    rw [hx, this]
    exact DenL.cons hd (by simp [DenL])
  cases v with
  | agg l =>
    simp only [Den] at h
    obtain ⟨us, h1, rfl⟩ := h
    simpa [cellsC, Eng.cellsL] using h1
  | any => exact absurd rfl hn
  | raw x => exact absurd rfl (hr x)
  | any1 => exact one _ rfl (fun cs e => by subst e; simp [Den, Value.oneCell'] at h) h
  | bool _ => exact one _ rfl (fun cs e => by subst e; simp [Den] at h) h
  | int _ _ => exact one _ rfl (fun cs e => by subst e; simp [Den] at h) h
  | str _ => exact one _ rfl (fun cs e => by subst e; simp [Den] at h) h
  | ptr _ _ => exact one _ rfl (fun cs e => by subst e; simp [Den] at h) h
  | nilP => exact one _ rfl (fun cs e => by subst e; simp [Den] at h) h
  | slice _ _ _ _ => exact one _ rfl (fun cs e => by subst e; simp [Den] at h) h
  | eslice _ _ => exact one _ rfl (fun cs e => by subst e; simp [Den] at h) h
  | nilS => exact one _ rfl (fun cs e => by subst e; simp [Den] at h) h
  | iface _ _ => exact one _ rfl (fun cs e => by subst e; simp [Den] at h) h
  | nilI => exact one _ rfl (fun cs e => by subst e; simp [Den] at h) h
  | func _ _ _ => exact one _ rfl (fun cs e => by subst e; simp [Den] at h) h
  | nilF => exact one _ rfl (fun cs e => by subst e; simp [Den] at h) h
  | map _ => exact one _ rfl (fun cs e => by subst e; simp [Den] at h) h
  | nilM => exact one _ rfl (fun cs e => by subst e; simp [Den] at h) h
  | tup _ => exact one _ rfl (fun cs e => by subst e; simp [Den] at h) h
  | anyB => exact one _ rfl (fun cs e => by subst e; simp [Den] at h) h
  | anyI _ => exact one _ rfl (fun cs e => by subst e; simp [Den] at h) h
  | cmpI _ _ _ => exact one _ rfl (fun cs e => by subst e; simp [Den] at h) h
  | anyS => exact one _ rfl (fun cs e => by subst e; simp [Den] at h) h
  | cmpS _ _ => exact one _ rfl (fun cs e => by subst e; simp [Den] at h) h
  | anyStr => exact one _ rfl (fun cs e => by subst e; simp [Den] at h) h
  | cmpStr _ _ => exact one _ rfl (fun cs e => by subst e; simp [Den] at h) h

theorem mxOk_ok {mx hi : Option CV} (h : mxOk mx hi = true) : mx = none ∨ hi ≠ none := by
  cases mx with
  | none => exact .inl rfl
  | some m => cases hi with
    | none => simp [mxOk] at h
    | some x => exact .inr (by simp)

theorem slice_ok (hT : TbOk P b) {t : Nat} {x : Operand} {lo hi mx : Option Operand} {v : CV} (hρ : OpsR r E ρ (Op.slice t x lo hi mx).operands.toList) (h : qop b E M (.slice t x lo hi mx) = some v) :
    ∃ u, (Instr.sliceAt t (ρ x) (lo.map ρ) (hi.map ρ) (mx.map ρ)).run P w = .ok u w ∧ Den r v u := by
  have hx : ∀ c, ev E x = some c → Den r c (ρ x) := hρ x (by simp [Op.operands])
  have hlo : ∀ c, evo E lo = some c → OB r E ρ lo c := fun c => evo_ok fun y hy => hρ y (by simp [Op.operands] at hy ⊢; simp [hy])
  have hhi : ∀ c, evo E hi = some c → OB r E ρ hi c := fun c => evo_ok fun y hy => hρ y (by simp [Op.operands] at hy ⊢; simp [hy])
  have hmx : ∀ c, evo E mx = some c → OB r E ρ mx c := fun c => evo_ok fun y hy => hρ y (by simp [Op.operands] at hy ⊢; simp [hy])
  simp only [qop, qMove, qPick, qLoad, qNilCheck, qBinOp, qUnOp, qConvert, qMakeInterface, qMakeFunc, qFieldAddr, qField, qIndexAddr, qIndex, qSlice, qLookup, qEntry, qTypeAssert, qExtract, qBuild, qLen, qCap, qMin, qMax] at h
  split at h
  · -- a string
    rename_i s lo' hi' hti hvx hvl hvh hvm
    split at h
    · rename_i l hh h1 h2
      split at h
      · rename_i hb1 hb2
        simp at h; subst h
        have hb1 := ble_t hb1
        have hb2 := ble_t hb2
        have hd := hx _ hvx
        simp only [Den] at hd
        have hb := bounds_ok (P := P) (w := w) (isS := false) (len := s.length) (cap := s.length) (m := s.length) (hlo _ hvl) (hhi _ hvh) (hmx _ hvm) h1 (by rw [← lenL_eq]; exact h2) rfl (.inl rfl) hb1 (by rw [← lenL_eq]; exact hb2) (Nat.le_refl _)
        have hty := (hT.ty t _ hti).str rfl
        have e3 : mx.map ρ = none := hmx _ hvm
        rw [e3] at hb
        refine ⟨.string ((bytesV s).extract l hh), ?_, ?_⟩
        · rw [hd, e3]
          simp [Instr.sliceAt, run_underlying hty, Instr.slice, bytesV_size, hb]
        · simp only [Den, Value.string.injEq]
          apply ByteArray.ext
          apply Array.toList_inj.1
          simp [bytesV, takeL_eq, dropL_eq, List.extract_eq_take_drop, List.map_take, List.map_drop]
      · cases h
    · cases h
  · -- a slice
    rename_i e _ _ _ _ i o n c lo' hi' mx' hti hvx hvl hvh hvm
    split at h
    · rename_i ti l hh hte h1 h2 hmo
      have hd := hx _ hvx
      simp only [Den] at hd
      obtain ⟨bk, cap, hs, hc, hn, hu⟩ := hd
      have hty := (hT.ty t _ hti).slice rfl
      have hsz := (hT.ty e ti hte).size (w := w)
      have main : ∀ (m : Nat) (c' : Cap), optNat cap mx' = some m → hh ≤ m → m ≤ cap → CapOk r i c' m → sliceOf i o ti.cells l hh c' = some v → ∃ u, (Instr.sliceAt t (ρ x) (lo.map ρ) (hi.map ρ) (mx.map ρ)).run P w = .ok u w ∧ Den r v u := by
        intro m c' h3 hhm hmc hc' hv
        obtain ⟨hlh, hden⟩ := sliceOf_ok hs hc' hv hhm
        have hb := bounds_ok (P := P) (w := w) (isS := true) (len := n) (cap := cap) (m := m) (hlo _ hvl) (hhi _ hvh) (hmx _ hvm) h1 h2 h3 (mxOk_ok hmo) hlh hhm hmc
        refine ⟨_, ?_, hden⟩
        rw [hu]
        simp [Instr.sliceAt, run_underlying hty, Instr.slice, hb, hsz]
      split at h
      · split at h
        · rename_i cc
          have hcc : cap = cc := hc
          have hle : hh ≤ cap := by
            unfold sliceOf at h
            split at h
            · cases h
            · simp only at h
              split at h
              · cases h
              · rename_i hb; have := ble_t hb; omega
          exact main cap _ rfl hle (Nat.le_refl _) hc h
        · split at h
          · rename_i hb
            have hb := ble_t hb
            exact main cap _ rfl (by omega) (Nat.le_refl _) hc h
          · cases h
      · rename_i mc
        split at h
        · rename_i m hm
          split at h
          · rename_i hb
            have hb := ble_t hb
            split at h
            · rename_i cc
              have hcc : cap = cc := hc
              split at h
              · rename_i hb2
                have hb2 := ble_t hb2
                exact main m (.k m) hm hb (by omega) rfl h
              · cases h
            · split at h
              · rename_i hb2
                have hb2 := ble_t hb2
                exact main m (.k m) hm hb (by omega) rfl h
              · cases h
          · cases h
        · cases h
    · cases h
  · -- no slice
    rename_i e _ _ _ _ lo' hi' hti hvx hvl hvh hvm
    split at h
    · rename_i ti hte h1 h2
      simp at h; subst h
      have hd := hx _ hvx
      simp only [Den] at hd
      have hty := (hT.ty t _ hti).slice rfl
      have hsz := (hT.ty e _ hte).size (w := w)
      have hb := bounds_ok (P := P) (w := w) (isS := true) (len := 0) (cap := 0) (m := 0) (hlo _ hvl) (hhi _ hvh) (hmx _ hvm) h1 h2 rfl (.inl rfl) (Nat.le_refl _) (Nat.le_refl _) (Nat.le_refl _)
      refine ⟨.slice none 0 0, ?_, by simp [Den]⟩
      rw [hd]
      simp [Instr.sliceAt, run_underlying hty, Instr.slice, hb, hsz]
    · cases h
  · -- an empty slice
    rename_i e _ _ _ _ i c lo' hi' mx' hti hvx hvl hvh hvm
    split at h
    · rename_i ti hte h1 h2 hmo
      have hd := hx _ hvx
      simp only [Den] at hd
      obtain ⟨bk, o, cap, hc, hu⟩ := hd
      have hty := (hT.ty t _ hti).slice rfl
      have hsz := (hT.ty e _ hte).size (w := w)
      have main : ∀ m, optNat cap mx' = some m → m ≤ cap → (Instr.sliceAt t (ρ x) (lo.map ρ) (hi.map ρ) (mx.map ρ)).run P w = .ok (.slice (some ⟨bk, o, none⟩) 0 m) w := by
        intro m h3 hmc
        have hb := bounds_ok (P := P) (w := w) (isS := true) (len := 0) (cap := cap) (m := m) (hlo _ hvl) (hhi _ hvh) (hmx _ hvm) h1 h2 h3 (mxOk_ok hmo) (Nat.le_refl _) (Nat.zero_le _) hmc
        rw [hu]
        simp [Instr.sliceAt, run_underlying hty, Instr.slice, hb, hsz, addr_add]
      split at h
      · simp at h; subst h
        exact ⟨_, main cap rfl (Nat.le_refl _), by simp only [Den]; exact ⟨bk, o, cap, hc, rfl⟩⟩
      · split at h
        · rename_i hm
          simp at h; subst h
          exact ⟨_, main 0 hm (Nat.zero_le _), by simp only [Den]; exact ⟨bk, o, 0, rfl, rfl⟩⟩
        · cases h
    · cases h
  · -- an array's address
    rename_i n e _ _ _ _ i o lo' hi' mx' hti hvx hvl hvh hvm
    split at h
    · rename_i ti l hh m hte h1 h2 h3 hmo
      have hd := hx _ hvx
      simp only [Den] at hd
      obtain ⟨bk, hs, hu⟩ := hd
      have hty := (hT.ty t _ hti).arr rfl
      have hsz := (hT.ty e ti hte).size (w := w)
      split at h
      · rename_i hb1 hb2
        have hb1 := ble_t hb1
        have hb2 := ble_t hb2
        obtain ⟨hlh, hden⟩ := sliceOf_ok (c := .k m) hs rfl h hb1
        have hb := bounds_ok (P := P) (w := w) (isS := false) (len := n) (cap := n) (m := m) (hlo _ hvl) (hhi _ hvh) (hmx _ hvm) h1 h2 h3 (mxOk_ok hmo) hlh hb1 hb2
        refine ⟨_, ?_, hden⟩
        rw [hu]
        simp [Instr.sliceAt, run_underlying hty, Instr.sureAddr, hb, hsz]
        split <;> rfl
      · cases h
    · cases h
  · cases h
end q
end Go.Proofs.YtaodejbcmaeaaaaGreat.CE
