/- The concrete evaluator: operations that turn the memory. No statement of the seat is proved here. -/
import Derived.Test.YtaodejbcmaeaaaaGreatCe9
import Derived.Laws.CopyRow
set_option linter.unusedVariables false
set_option linter.unusedSimpArgs false
namespace Go.Proofs.YtaodejbcmaeaaaaGreat.CE
open Go Go.RowKit
open Go.Proofs.YtaodejbcmaeaaaaGreat.Eng (Fr Pl pl TyI TyK Tab TabOk kix)

section l
variable {P : Program} {b : Tb} {w0 w : World} {S : Nat → Prop} {r : Rl} {M : T AObj} {nx ro : Nat} {E : T CV} {ρ : Operand → Value}

def isLp (o : Option AObj) : Bool := match o with
  | some (.loop _ _ _ _ _ _ _ _ _) => true
  | _ => false
/-- A loop's code stays. -/
def LcO (o o' : Option AObj) : Prop := ∀ st pe fn n E ps as bd d, o' = some (.loop st pe fn n E ps as bd d) → ∃ st0 pe0 E0, o = some (.loop st0 pe0 fn n E0 ps as bd d)
theorem LcO.refl (o : Option AObj) : LcO o o := fun st pe fn n E ps as bd d h => ⟨st, pe, E, h⟩
theorem LcO.none (o : Option AObj) : LcO o none := fun st pe fn n E ps as bd d h => by cases h
theorem LcO.of_eq {o o' : Option AObj} (h : o' = o) : LcO o o' := by rw [h]; exact LcO.refl _
theorem LcO.trans {a b c : Option AObj} (h : LcO a b) (k : LcO b c) : LcO a c := fun st pe fn n E ps as bd d e => by
  obtain ⟨st0, pe0, E0, e0⟩ := k st pe fn n E ps as bd d e
  exact h st0 pe0 fn n E0 ps as bd d e0
/-- From one memory to another. -/
structure StepR (P : Program) (w0 : World) (S : Nat → Prop) (ro : Nat) (r r' : Rl) (M M' : T AObj) (nx nx' : Nat) (w' : World) : Prop where
  le : r.le r'
  mem : MemR P w0 S r' M' nx' w'
  nxle : nx ≤ nx'
  un : ∀ i, i < nx → r.σ i = none → r'.σ i = none ∧ (M'.get i = M.get i ∨ M'.get i = none ∨ isLp (M'.get i) = true)
  roq : ∀ i, i < ro → i < nx → M'.get i = M.get i
  lc : ∀ i, i < nx → LcO (M.get i) (M'.get i)
theorem StepR.refl (hm : MemR P w0 S r M nx w) : StepR P w0 S ro r r M M nx nx w := ⟨Rl.le_refl r, hm, Nat.le_refl _, fun _ _ h => ⟨h, .inl rfl⟩, fun _ _ _ => rfl, fun _ _ => LcO.refl _⟩
theorem StepR.trans {r1 r2 r3 : Rl} {M1 M2 M3 : T AObj} {n1 n2 n3 : Nat} {w2 w3 : World} (h : StepR P w0 S ro r1 r2 M1 M2 n1 n2 w2) (k : StepR P w0 S ro r2 r3 M2 M3 n2 n3 w3) : StepR P w0 S ro r1 r3 M1 M3 n1 n3 w3 :=
  ⟨Rl.le_trans h.le k.le, k.mem, Nat.le_trans h.nxle k.nxle, fun i hi hs => by
    obtain ⟨h1, h2⟩ := h.un i hi hs
    obtain ⟨h3, h4⟩ := k.un i (Nat.lt_of_lt_of_le hi h.nxle) h1
    exact ⟨h3, h4.elim (fun e => h2.elim (fun f => .inl (e.trans f)) (fun f => f.elim (fun f => .inr (.inl (e.trans f))) (fun f => .inr (.inr (by rw [e]; exact f))))) .inr⟩, fun i hi hn => (k.roq i hi (Nat.lt_of_lt_of_le hn h.nxle)).trans (h.roq i hi hn), fun i hi => (h.lc i hi).trans (k.lc i (Nat.lt_of_lt_of_le hi h.nxle))⟩

/-- One object is turned. -/
theorem MemR.upd {i bk : Nat} {o o' : AObj} {x' : Obj} {w' : World} (hm : MemR P w0 S r M nx w) (hs : r.σ i = some bk) (hg : M.get i = some o) (hx : ObjOk P r i o' x') (hw : w'.heap[bk]? = some x') (hfr : ∀ k, k ≠ bk → w'.heap[k]? = w.heap[k]?)
    (hsz : w'.heap.size = w.heap.size) (hos : w'.os = w.os) (ht : w'.tape = w.tape) (ho : w'.output = w.output) (hc : o.cur = false := by rfl) : MemR P w0 S r (M.set i o') nx w' := by
  have hi : i < nx := by
    rcases Nat.lt_or_ge i nx with h | h
    · exact h
    · have := (hm.dom i h).1; rw [hs] at this; cases this
  have hown := hm.own i bk o hs hg hc
  refine ⟨⟨hos.trans hm.fr.os, ht.trans hm.fr.tape, ho.trans hm.fr.output, by rw [hsz]; exact hm.fr.size, fun k hk hns => ?_⟩, ?_, ?_, ?_, ?_⟩
  · have hne : k ≠ bk := fun e => by subst e; exact hown.elim (fun h => absurd hk (by omega)) hns
    exact (hfr k hne).trans (hm.fr.block k hk hns)
  · intro j b' o2 h1 h2
    rw [T.get_set] at h2
    split at h2
    · rename_i he; subst he
      cases h2
      rw [hs] at h1; cases h1
      exact ⟨x', hw, hx⟩
    · rename_i hne
      obtain ⟨y, h3, h4⟩ := hm.ok j b' o2 h1 h2
      have hnb : b' ≠ bk := fun e => by subst e; exact hne (hm.inj i j b' hs h1 (by simp [hg]) (by simp [h2]))
      exact ⟨y, (hfr b' hnb).trans h3, h4⟩
  · have hsome : ∀ j, ((M.set i o').get j).isSome = true → (M.get j).isSome = true := by
      intro j hj
      rw [T.get_set] at hj
      split at hj
      · rename_i he; subst he; simp [hg]
      · exact hj
    exact fun j k b' h1 h2 h3 h4 => hm.inj j k b' h1 h2 (hsome j h3) (hsome k h4)
  · intro j b' o2 h1 h2 h3
    rw [T.get_set] at h2
    split at h2
    · rename_i he; subst he; exact hm.own i b' o h1 hg hc
    · exact hm.own j b' o2 h1 h2 h3
  · intro j hj
    refine ⟨(hm.dom j hj).1, ?_⟩
    rw [T.get_set, if_neg (by omega)]
    exact (hm.dom j hj).2

theorem StepR.upd {i bk : Nat} {o o' : AObj} {x' : Obj} {w' : World} (hm : MemR P w0 S r M nx w) (hro : ro ≤ i) (hs : r.σ i = some bk) (hg : M.get i = some o) (hx : ObjOk P r i o' x') (hw : w'.heap[bk]? = some x') (hfr : ∀ k, k ≠ bk → w'.heap[k]? = w.heap[k]?)
    (hsz : w'.heap.size = w.heap.size) (hos : w'.os = w.os) (ht : w'.tape = w.tape) (ho : w'.output = w.output) (hc : o.cur = false := by rfl) (hlc : LcO (some o) (some o') := by intro _ _ _ _ _ _ _ _ _ e; first | (cases e; exact ⟨_, _, _, rfl⟩) | cases e) : StepR P w0 S ro r r M (M.set i o') nx nx w' :=
  ⟨Rl.le_refl r, hm.upd hs hg hx hw hfr hsz hos ht ho hc, Nat.le_refl _, fun j _ h => ⟨h, .inl (by rw [T.get_set, if_neg (fun e => by subst e; rw [hs] at h; cases h)])⟩,
   fun j hj _ => by rw [T.get_set, if_neg (by omega)], fun j _ => by
    rw [T.get_set]
    split
    · rename_i e; subst e; rw [hg]; exact hlc
    · exact LcO.refl _⟩

/-- A block more. -/
theorem StepR.new {o : AObj} {x : Obj} {cap : Nat} {w' : World} (hm : MemR P w0 S r M nx w) (hx : ObjOk P (r.add nx w.heap.size cap) nx o x) (hh : w'.heap = w.heap.push x) (hos : w'.os = w.os) (ht : w'.tape = w.tape) (ho : w'.output = w.output) (hro : ro ≤ nx) :
    StepR P w0 S ro r (r.add nx w.heap.size cap) M (M.set nx o) nx (Nat.succ nx) w' := by
  have hn := hm.dom nx (Nat.le_refl _)
  have hm2 : MemR P w0 S r (M.set nx o) (Nat.succ nx) w := by
    refine ⟨hm.fr, fun i bk o' h1 h2 => ?_, fun i j bk h1 h2 h3 h4 => ?_, fun i bk o' h1 h2 h3 => ?_, fun i hi => ⟨(hm.dom i (by omega)).1, ?_⟩⟩
    · rw [T.get_set, if_neg (fun e => by subst e; rw [hn.1] at h1; cases h1)] at h2
      exact hm.ok i bk o' h1 h2
    · rw [T.get_set, if_neg (fun e => by subst e; rw [hn.1] at h1; cases h1)] at h3
      rw [T.get_set, if_neg (fun e => by subst e; rw [hn.1] at h2; cases h2)] at h4
      exact hm.inj i j bk h1 h2 h3 h4
    · rw [T.get_set, if_neg (fun e => by subst e; rw [hn.1] at h1; cases h1)] at h2
      exact hm.own i bk o' h1 h2 h3
    · rw [T.get_set, if_neg (by omega)]; exact (hm.dom i (by omega)).2
  refine ⟨Rl.le_add hn.1, hm2.real (Nat.lt_succ_self _) hn.1 (by rw [T.get_set, if_pos rfl]) hx hh hos ht ho, Nat.le_succ _, fun i hi hs => ⟨?_, ?_⟩, fun i hi hin => ?_, fun i hi => LcO.of_eq (by rw [T.get_set, if_neg (by omega)])⟩
  · simp only [Rl.add]; rw [if_neg (by omega)]; exact hs
  · exact .inl (by rw [T.get_set, if_neg (by omega)])
  · rw [T.get_set, if_neg (by omega)]

/-! ## cells -/
theorem oneV_ok {v : CV} {u : Value} (h : oneV v = true) (hd : Den r v u) : u.oneCell' = true := by
  cases v <;> simp only [oneV, Bool.false_eq_true] at h <;> simp only [Den] at hd
  all_goals first
    | (subst hd; rfl)
    | exact hd
    | (obtain ⟨_, rfl⟩ := hd; rfl)
    | (obtain ⟨_, _, rfl⟩ := hd; rfl)
    | (obtain ⟨_, _, _, rfl⟩ := hd; rfl)
    | (obtain ⟨_, _, _, _, rfl⟩ := hd; rfl)
    | (obtain ⟨_, _, _, _, _, rfl⟩ := hd; rfl)
    | (obtain ⟨_, _, _, _, _, _, rfl⟩ := hd; rfl)
theorem allV_ok : ∀ {l : List CV} {us : List Value}, allV l = true → DenL r l us → ∀ u ∈ us, u.oneCell' = true
  | [], us, _, hd => by simp [DenL] at hd; subst hd; simp
  | v :: l, us, h, hd => by
    simp only [allV] at h
    split at h
    · rename_i h1
      simp only [DenL] at hd
      obtain ⟨u, ur, h2, h3, rfl⟩ := hd
      intro x hx
      rcases List.mem_cons.1 hx with rfl | hx
      · exact oneV_ok h1 h2
      · exact allV_ok h h3 x hx
    · cases h

theorem FzOk.off {fz : Nat × Nat} {n off : Nat} (h : FzOk fz n) (ho : off < n) : (decide (fz.1 ≤ off) && decide (off < fz.2)) = false := by
  rcases h with rfl | rfl
  · simp
  · simp; omega

theorem storeCells_fz (g o : Nat) (t : TypeId) (fz : Nat × Nat) : ∀ (vs : List Value) (i : Nat) (cur : Array Value) (w : World), w.heap[g]? = some (.cells cur t fz) → FzOk fz cur.size → o + i + vs.length ≤ cur.size → (∀ v ∈ vs, v.oneCell' = true) →
    (storeCells ⟨g, o, none⟩ vs i).run P w = .ok () (w.setRow g (cur.toList.take (o + i) ++ vs ++ cur.toList.drop (o + i + vs.length)).toArray)
  | [], i, cur, w, hg, _, _, _ => by
    simp only [storeCells, List.append_nil, List.length_nil, Nat.add_zero, List.take_append_drop, Array.toArray_toList]
    rw [setRow_self w g cur t fz hg]
    rfl
  | v :: rest, i, cur, w, hg, hfz, hl, h1 => by
    have hi : o + i < cur.size := by simp at hl; omega
    have hadd : (⟨g, o, none⟩ : Addr).add i = ⟨g, o + i, none⟩ := Addr.add_lit ..
    have hcell : w.cell? ⟨g, o + i, none⟩ = some cur[o + i] := by simp [World.cell?, hg, hi]
    have hfro : w.frozen? ⟨g, o + i, none⟩ = false := by simp only [World.frozen?, hg]; exact hfz.off hi
    have hst : (store ((⟨g, o, none⟩ : Addr).add i) v).run P w = .ok () (w.setRow g (cur.setIfInBounds (o + i) v)) := by
      rw [hadd, run_store P w _ v _ (h1 v (by simp)), hcell]
      simp [hfro, setCell_eq_setRow w g (o + i) cur t fz v hg]
    have ih := storeCells_fz g o t fz rest (i + 1) (cur.setIfInBounds (o + i) v) (w.setRow g (cur.setIfInBounds (o + i) v)) (setRow_heap w g cur _ t _ hg) (by simpa using hfz) (by simp at hl ⊢; omega) (fun x hx => h1 x (by simp [hx]))
    simp only [storeCells, Sem.run_bind, hst, Result.andThen_ok, ih, setRow_setRow]
    congr 3
    have e := list_seg_step cur.toList (o + i) v rest (by simp at hl ⊢; omega)
    simpa [Array.toList_setIfInBounds, Nat.add_assoc] using e

theorem seg_get {cur us : List Value} {off : Nat} (hle : off + us.length ≤ cur.length) (k : Nat) : (cur.take off ++ us ++ cur.drop (off + us.length))[k]? = if off ≤ k ∧ k < off + us.length then us[k - off]? else cur[k]? := by
  by_cases hk1 : k < off
  · rw [if_neg (by omega), List.append_assoc, List.getElem?_append_left (by simp; omega), List.getElem?_take, if_pos hk1]
  · by_cases hk2 : k < off + us.length
    · rw [if_pos ⟨by omega, hk2⟩, List.getElem?_append_left (by simp; omega), List.getElem?_append_right (by simp; omega)]
      congr 1; simp; omega
    · rw [if_neg (by omega), List.getElem?_append_right (by simp; omega), List.getElem?_drop]
      congr 1; simp; omega
theorem RowR.puts {row : Row} {cs : Array Value} {off : Nat} {l : List CV} {us : List Value} (hr : RowR r row cs) (hd : DenL r l us) (hle : off + l.length ≤ cs.size) : RowR r (row.puts off l) (cs.toList.take off ++ us ++ cs.toList.drop (off + us.length)).toArray := by
  intro k q hq
  rw [Row.puts_get] at hq
  have hget := seg_get (cur := cs.toList) (us := us) (off := off) (by rw [hd.len]; simpa using hle) k
  simp only [List.getElem?_toArray]
  rw [hget]
  split at hq
  · rename_i hc
    obtain ⟨z, h8, h9⟩ := hd.nth hq
    exact ⟨z, by rw [if_pos ⟨hc.1, by rw [hd.len]; exact hc.2.1⟩]; exact h8, h9⟩
  · rename_i hc
    obtain ⟨z, h8, h9⟩ := hr k q hq
    have hkn := Row.get_some hq
    refine ⟨z, ?_, h9⟩
    rw [if_neg (fun hh => hc ⟨hh.1, by rw [← hd.len]; exact hh.2, hkn⟩)]
    simpa using h8

/-- Cells are written. -/
theorem puts_run (hm : MemR P w0 S r M nx w) {i off bk : Nat} {l : List CV} {us : List Value} {M' : T AObj} (hs : r.σ i = some bk) (h : putsAt ro M i off l = some M') (hd : DenL r l us) :
    ∃ w', (storeCells ⟨bk, off, none⟩ us).run P w = .ok () w' ∧ StepR P w0 S ro r r M M' nx nx w' := by
  unfold putsAt at h
  split at h
  · cases h
  · rename_i hone
    have h1 := allV_ok hone hd
    have main : ∀ (row : Row) (e : Nat) (mk : Row → AObj), (∀ x, (mk x).cur = false) → (∀ x y, LcO (some (mk x)) (some (mk y))) → M.get i = some (mk row) → (M.get i = some (.cells row e) ∨ M.get i = some (.row row e)) → (∀ row' cs, (∃ fz, FzOk fz cs.size ∧ RowR r row' cs ∧ row'.n = row.n ∧ (∀ cs0 fz0, w.heap[bk]? = some (.cells cs0 e fz0) → fz = fz0 ∧ cs.size = cs0.size)) → ∀ fz, (∀ cs0 fz0, w.heap[bk]? = some (.cells cs0 e fz0) → fz = fz0 ∧ cs.size = cs0.size) → ObjOk P r i (mk row') (.cells cs e fz)) →
        off + lenL l ≤ row.n → setR ro M i (mk (row.puts off l)) = some M' → ∃ w', (storeCells ⟨bk, off, none⟩ us).run P w = .ok () w' ∧ StepR P w0 S ro r r M M' nx nx w' := by
      intro row e mk hcur hmk hg hg2 hok hle hset
      unfold setR at hset
      split at hset
      · rename_i hro
        have hro := ble_t hro
        simp at hset; subst hset
        obtain ⟨cs, fz, hx, hr, hn, hsz, hfz⟩ := cells_of hm hs hg2
        rw [lenL_eq] at hle
        have hfit : off + 0 + us.length ≤ cs.size := by rw [hd.len]; omega
        have hrun := storeCells_fz (P := P) bk off e fz us 0 cs w hx hfz hfit h1
        simp only [Nat.add_zero] at hrun
        refine ⟨_, hrun, ?_⟩
        have hcs : (cs.toList.take off ++ us ++ cs.toList.drop (off + us.length)).toArray.size = cs.size := by simp; omega
        refine StepR.upd (hc := hcur _) (hlc := hmk _ _) hm hro hs hg (hok _ (cs.toList.take off ++ us ++ cs.toList.drop (off + us.length)).toArray ⟨fz, by rw [hcs]; exact hfz, hr.puts hd (by omega), Row.puts_n _ _ _, fun cs0 fz0 h0 => by rw [hx] at h0; cases h0; exact ⟨rfl, hcs⟩⟩ fz (fun cs0 fz0 h0 => by rw [hx] at h0; cases h0; exact ⟨rfl, hcs⟩)) (setRow_heap w bk cs _ e fz hx) (fun k hk => ?_) (by simp [World.setRow]) rfl rfl rfl
        simp only [World.setRow, Array.getElem?_modify]
        rw [if_neg (fun e => hk e.symm)]
      · cases hset
    split at h
    · rename_i row e hg
      split at h
      · rename_i hb
        refine main row e (fun r => .cells r e) (fun _ => rfl) (fun _ _ _ _ _ _ _ _ _ _ _ e => by cases e) hg (.inl hg) (fun row' cs hh fz hfz => ?_) (ble_t hb) h
        obtain ⟨y, hy, cs0, rfl, g2, g3, _⟩ := hm.ok i bk _ hs hg
        obtain ⟨_, _, hr, hn, _⟩ := hh
        obtain ⟨rfl, e2⟩ := hfz cs0 (0, 0) hy
        exact ⟨cs, rfl, by rw [e2, g2, hn], by rw [e2, g3], hr⟩
      · cases h
    · rename_i row e hg
      split at h
      · rename_i hb
        refine main row e (fun r => .row r e) (fun _ => rfl) (fun _ _ _ _ _ _ _ _ _ _ _ e => by cases e) hg (.inr hg) (fun row' cs hh fz hfz => ?_) (ble_t hb) h
        obtain ⟨y, hy, cs0, fz0, rfl, g2, g3, g4, _⟩ := hm.ok i bk _ hs hg
        obtain ⟨_, _, hr, hn, _⟩ := hh
        obtain ⟨rfl, e2⟩ := hfz cs0 fz0 hy
        exact ⟨cs, fz, rfl, by rw [e2, hn]; exact g2, by rw [e2, g3], by rw [e2]; exact g4, hr⟩
      · cases h
    · cases h

/-! ## maps -/
theorem mapPut_ok {d : TypeDesc} {k v : CV} {u z : Value} {clock : Nat} (hk : ∀ (k' : CV) (u' : Value) (c : Bool), keyEq k k' = some c → Den r k' u' → Instr.sameNow d u u' = some c ∧ (c = true → u = u')) (hku : Den r k u) (hvz : Den r v z) :
    ∀ {es es' : List (CV × CV × Nat)} {fs : List MapEntry} {nw : Bool} (i : Nat), EntsR r es fs → mapPut k v clock es = some (nw, es') →
      (nw = true → Instr.findNow d u fs i = some none ∧ EntsR r es' (fs ++ [{ key := u, val := z, born := clock }])) ∧
      (nw = false → ∃ j val, Instr.findNow d u fs i = some (some (i + j, val)) ∧ (fs[j]?).map (·.key) = some u ∧ EntsR r es' (fs.modify j fun e => { e with key := u, val := z }))
  | _, _, _, nw, i, .nil, h => by
    simp [mapPut] at h
    obtain ⟨rfl, rfl⟩ := h
    exact ⟨fun _ => ⟨by simp [Instr.findNow], .cons hku hvz rfl .nil⟩, fun e => by cases e⟩
  | _, _, _, nw, i, .cons (k := k') (v := v') (n := n) (e := e) (fs := fs) hkd hvd hb hes, h => by
    simp only [mapPut] at h
    split at h
    · rename_i hq
      simp at h
      obtain ⟨rfl, rfl⟩ := h
      obtain ⟨h1, h2⟩ := hk _ _ _ hq hkd
      refine ⟨fun e => (by cases e), fun _ => ⟨0, e.val, by simp [Instr.findNow, h1], by simp [h2 rfl], ?_⟩⟩
      simp only [List.modify_zero_cons]
      exact .cons (by rw [h2 rfl]; exact hkd) hvz hb hes
    · rename_i hq
      obtain ⟨h1, _⟩ := hk _ _ _ hq hkd
      split at h
      · rename_i nw' l hl
        simp at h
        obtain ⟨rfl, rfl⟩ := h
        obtain ⟨g1, g2⟩ := mapPut_ok hk hku hvz (i + 1) hes hl
        refine ⟨fun e => ?_, fun e => ?_⟩
        · obtain ⟨g3, g4⟩ := g1 e
          exact ⟨by simp [Instr.findNow, h1, g3], .cons hkd hvd hb g4⟩
        · obtain ⟨j, val, g3, g4, g5⟩ := g2 e
          refine ⟨j + 1, val, by simp [Instr.findNow, h1, g3]; omega, by simpa using g4, ?_⟩
          simp only [List.modify_succ_cons]
          exact .cons hkd hvd hb g5
      · cases h
    · cases h

theorem mapDel_ok {d : TypeDesc} {k : CV} {u : Value} (hk : ∀ (k' : CV) (u' : Value) (c : Bool), keyEq k k' = some c → Den r k' u' → Instr.sameNow d u u' = some c ∧ (c = true → u = u')) (hku : Den r k u) :
    ∀ {es es' : List (CV × CV × Nat)} {fs : List MapEntry} (i : Nat), EntsR r es fs → mapDel k es = some es' →
      (Instr.findNow d u fs i = some none ∧ EntsR r es' fs) ∨ (∃ j val, Instr.findNow d u fs i = some (some (i + j, val)) ∧ EntsR r es' (fs.eraseIdx j))
  | _, _, _, i, .nil, h => by
    simp [mapDel] at h
    subst h
    exact .inl ⟨by simp [Instr.findNow], .nil⟩
  | _, _, _, i, .cons (k := k') (v := v') (n := n) (e := e) (fs := fs) hkd hvd hb hes, h => by
    simp only [mapDel] at h
    split at h
    · rename_i hq
      injection h with h
      subst h
      obtain ⟨h1, h2⟩ := hk _ _ _ hq hkd
      exact .inr ⟨0, e.val, by simp [Instr.findNow, h1], by simpa using hes⟩
    · rename_i hq
      obtain ⟨h1, _⟩ := hk _ _ _ hq hkd
      split at h
      · rename_i l hl
        injection h with h
        subst h
        rcases mapDel_ok hk hku (i + 1) hes hl with ⟨g1, g2⟩ | ⟨j, val, g1, g2⟩
        · exact .inl ⟨by simp [Instr.findNow, h1, g1], .cons hkd hvd hb g2⟩
        · refine .inr ⟨j + 1, val, by simp [Instr.findNow, h1, g1]; omega, ?_⟩
          simp only [List.eraseIdx_cons_succ]
          exact .cons hkd hvd hb g2
      · cases h
    · cases h

/-- What an operation that turns the memory does. -/
def LRun (P : Program) (w0 : World) (S : Nat → Prop) (ro : Nat) (r : Rl) (M : T AObj) (nx : Nat) (w : World) (ρ : Operand → Value) (o : Oper) (c : CV) (M' : T AObj) (nx' : Nat) : Prop :=
  ∃ nn u w' r', (execOp ρ o).run P w = .ok nn w' ∧ (nn = .value u ∨ (nn = .skip ∧ u = undef)) ∧ Den r' c u ∧ StepR P w0 S ro r r' M M' nx nx' w'

theorem okR_ok {v c : CV} {i : Nat} {o : AObj} {M' : T AObj} {nx' : Nat} (h : okR ro v M i o nx = .ok c M' nx') : ro ≤ i ∧ v = c ∧ M' = M.set i o ∧ nx' = nx := by
  unfold okR at h
  split at h
  · rename_i hb; cases h; exact ⟨ble_t hb, rfl, rfl, rfl⟩
  · cases h

theorem den_undef : Den r undefC undef := by simp only [undefC, Den]; exact ⟨[], by simp [DenL], rfl⟩

theorem setObj_run {q : Nat} {x o : Obj} (h : w.heap[q]? = some x) (hx : ∀ c e f, x ≠ .cells c e f) : (setObj q o).run P w = .ok () { w with heap := w.heap.setIfInBounds q o } := by
  simp only [setObj, Sem.run, h]
theorem StepR.setObj {i bk : Nat} {o o' : AObj} {x x' : Obj} (hm : MemR P w0 S r M nx w) (hro : ro ≤ i) (hs : r.σ i = some bk) (hg : M.get i = some o) (hxo : w.heap[bk]? = some x) (hx : ObjOk P r i o' x') (hc : o.cur = false := by rfl) (hlc : LcO (some o) (some o') := by intro _ _ _ _ _ _ _ _ _ e; first | (cases e; exact ⟨_, _, _, rfl⟩) | cases e) : StepR P w0 S ro r r M (M.set i o') nx nx { w with heap := w.heap.setIfInBounds bk x' } := by
  have hlt : bk < w.heap.size := (Array.getElem?_eq_some_iff.1 hxo).1
  exact StepR.upd (hc := hc) (hlc := hlc) hm hro hs hg hx (by simp [hlt]) (fun k hk => by simp [Ne.symm hk]) (by simp) rfl rfl rfl
theorem getObj_run {q : Nat} {x : Obj} (h : w.heap[q]? = some x) (hx : ∀ c e f, x ≠ .cells c e f) : (getObj q).run P w = .ok x w := by
  simp only [getObj, Sem.run, h]

theorem l_mapUpdate (hT : TbOk P b) (hm : MemR P w0 S r M nx w) {kt i clock bk : Nat} {t e : TypeId} {k v : CV} {u z : Value} {es es' : List (CV × CV × Nat)} {nw : Bool} (hty : P.underlying t = some (.map kt e)) (hs : r.σ i = some bk) (hg : M.get i = some (.map es clock)) (hko : keyOk b kt k = true) (hku : Den r k u) (hvz : Den r v z)
    (h : mapPut k v clock es = some (nw, es')) (hro : ro ≤ i) : ∃ w', (Instr.mapUpdate t (.map (some bk)) u z).run P w = .ok () w' ∧ StepR P w0 S ro r r M (M.set i (.map es' (match nw with | true => Nat.succ clock | false => clock))) nx nx w' := by
  obtain ⟨xo, hxo, fs, rfl, hent⟩ := hm.ok i bk _ hs hg
  obtain ⟨d, hd, hck, hsb, hkey⟩ := keyOk_ok (w := w) hT hko hku
  have hck := fun em => hck em 9999
  obtain ⟨g1, g2⟩ := mapPut_ok hkey hku hvz 0 hent h
  have hgo := getObj_run (P := P) hxo (by simp)
  cases nw with
  | true =>
    obtain ⟨h1, h2⟩ := g1 rfl
    have hfk := findKey_run (P := P) (w := w) hd h1
    have hst := StepR.setObj (x' := .map (fs.push { key := u, val := z, born := clock }) (clock + 1)) hm hro hs hg hxo (o' := .map es' (Nat.succ clock)) ⟨_, rfl, by simpa using h2⟩
    refine ⟨_, ?_, hst⟩
    simp only [Instr.mapUpdate, Sem.run_bind, run_underlying hty, Result.andThen_ok, hgo, hck, hfk, setObj_run hxo (by simp)]
  | false =>
    obtain ⟨j, val, h1, h2, h3⟩ := g2 rfl
    have hfk := findKey_run (P := P) (w := w) hd h1
    have hj : (fs[j]?).map (·.key) = some u := by simpa using h2
    have hks : (Instr.keyThatStays (((fs[0 + j]?).map (·.key)).getD u) u).run P w = .ok u w := by
      rw [Nat.zero_add, hj]
      simp [Instr.keyThatStays, hsb]
    have hst := StepR.setObj (x' := .map (fs.modify (0 + j) fun e => { e with key := u, val := z }) clock) hm hro hs hg hxo (o' := .map es' clock) ⟨_, rfl, by rw [Nat.zero_add]; simpa using h3⟩
    refine ⟨_, ?_, hst⟩
    simp only [Instr.mapUpdate, Sem.run_bind, run_underlying hty, Result.andThen_ok, hgo, hck, hfk, hks, setObj_run hxo (by simp)]
theorem l_delete0 (hT : TbOk P b) (hm : MemR P w0 S r M nx w) {kt i clock bk : Nat} {t e ty : TypeId} {k : CV} {u : Value} {es es' : List (CV × CV × Nat)} {tys : Array TypeId} (hty : P.underlying t = some (.map kt e)) (ht0 : tys[0]? = some t) (hs : r.σ i = some bk) (hg : M.get i = some (.map es clock)) (hko : keyOk b kt k = true) (hku : Den r k u)
    (h : mapDel k es = some es') (hro : ro ≤ i) : ∃ w', (Builtin.delete_ tys ty #[.map (some bk), u]).run P w = .ok (.tuple #[]) w' ∧ StepR P w0 S ro r r M (M.set i (.map es' clock)) nx nx w' := by
  obtain ⟨xo, hxo, fs, rfl, hent⟩ := hm.ok i bk _ hs hg
  obtain ⟨d, hd, hck, hsb, hkey⟩ := keyOk_ok (w := w) hT hko hku
  have hck := fun em => hck em 9999
  have hgo := getObj_run (P := P) hxo (by simp)
  rcases mapDel_ok hkey hku 0 hent h with ⟨h1, h2⟩ | ⟨j, val, h1, h2⟩
  · have hfk := findKey_run (P := P) (w := w) hd h1
    have hst := StepR.setObj (x' := .map fs clock) hm hro hs hg hxo (o' := .map es' clock) ⟨_, rfl, h2⟩
    refine ⟨_, ?_, hst⟩
    simp [Builtin.delete_, ht0, Sem.run_bind, run_underlying hty, hgo, hck, hfk, setObj_run hxo (by simp)]
  · have hfk := findKey_run (P := P) (w := w) hd h1
    have hst := StepR.setObj (x' := .map (fs.eraseIdxIfInBounds (0 + j)) clock) hm hro hs hg hxo (o' := .map es' clock) ⟨_, rfl, by simpa using h2⟩
    refine ⟨_, ?_, hst⟩
    simp [Builtin.delete_, ht0, Sem.run_bind, run_underlying hty, hgo, hck, hfk, setObj_run hxo (by simp)]
end l
end Go.Proofs.YtaodejbcmaeaaaaGreat.CE
