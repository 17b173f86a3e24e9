/- The concrete evaluator: operations that yield a value and leave the memory, all of them. No statement of the seat is proved here. -/
import Derived.Test.YtaodejbcmaeaaaaGreatCe7
set_option linter.unusedVariables false
set_option linter.unusedSimpArgs false
namespace Go.Proofs.YtaodejbcmaeaaaaGreat.CE
open Go Go.RowKit
open Go.Proofs.YtaodejbcmaeaaaaGreat.Eng (Fr Pl pl TyI TyK Tab TabOk kix)

section q
variable {P : Program} {b : Tb} {w0 w : World} {S : Nat → Prop} {r : Rl} {M : T AObj} {nx : Nat} {E : T CV} {ρ : Operand → Value}

/-- An operation's run that yields a value and leaves the world. -/
def VRun (P : Program) (w : World) (r : Rl) (ρ : Operand → Value) (o : Oper) (c : CV) : Prop := ∃ u, (execOp ρ o).run P w = .ok (.value u) w ∧ Den r c u

theorem VRun.mk {o : Oper} {s : Sem Value} {c : CV} (h : execOp ρ o = (do pure (Next.value (← s)))) (hs : ∃ u, s.run P w = .ok u w ∧ Den r c u) : VRun P w r ρ o c := by
  obtain ⟨u, h1, h2⟩ := hs
  exact ⟨u, value_run h h1, h2⟩

theorem q_bin (hT : TbOk P b) (hm : MemR P w0 S r M nx w) {op : BinOp} {t ty2 : TypeId} {x y : Operand} {c : CV} (hρ : OpsR r E ρ [x, y]) (hc : ∀ v, (∃ u, x = .const u) → ev E x = some v → True)
    (h : qop b E M (.binOp op t x y ty2) = some c) : ∃ u, (do eqGuard op t x y (ρ x) (ρ y); binOp op t (ρ x) (ρ y) : Sem Value).run P w = .ok u w ∧ Den r c u := by
  simp only [qop, qMove, qPick, qLoad, qNilCheck, qBinOp, qUnOp, qConvert, qMakeInterface, qMakeFunc, qFieldAddr, qField, qIndexAddr, qIndex, qSlice, qLookup, qEntry, qTypeAssert, qExtract, qBuild, qLen, qCap, qMin, qMax] at h
  split at h
  · rename_i hx hy
    have hx := hρ x (by simp) _ hx
    have hy := hρ y (by simp) _ hy
    simp only [Den] at hx hy
    have key : ∀ (ti : TI), b.ty t = some ti → ti.kind = .iface → (isC x = true ∨ isC y = true) → eqR op true = some c → ∃ u, (do eqGuard op t x y (ρ x) (ρ y); binOp op t (ρ x) (ρ y) : Sem Value).run P w = .ok u w ∧ Den r c u := by
      intro ti hti hk hcc he
      obtain ⟨ms, hd⟩ := (hT.ty t ti hti).iface hk
      have hop : op = .eql ∨ op = .neq := by cases op <;> simp [eqR] at he <;> simp
      have hg : (eqGuard op t x y (ρ x) (ρ y)).run P w = .ok () w := by
        rw [hx, hy]
        rcases hop with rfl | rfl
        · rcases hcc with hcc | hcc
          · cases x <;> simp [isC] at hcc
            simp [eqGuard]
          · cases y <;> simp [isC] at hcc
            simp [eqGuard]
        · rcases hcc with hcc | hcc
          · cases x <;> simp [isC] at hcc
            simp [eqGuard]
          · cases y <;> simp [isC] at hcc
            simp [eqGuard]
      have he2 : (Op.equal t (ρ x) (ρ y)).run P w = .ok true w := by
        rw [hx, hy]
        have : ∀ d, (Op.equalIn (d + 1) t .nilIface .nilIface).run P w = .ok true w := by intro d; simp [Op.equalIn, run_underlying hd]
        exact this 9999
      exact eqR_run he hg he2 (by rw [hx]; exact binOp_other (by simp) (by simp) (by simp) (by simp))
    split at h
    · cases h
    · rename_i hti hne
      refine key _ hti rfl ?_ h
      cases ha : isC x with
      | true => exact .inl rfl
      | false => cases hb : isC y with
        | true => exact .inr rfl
        | false => exact (hne ha hb).elim
    · cases h
  · rename_i u v hne hx hy
    exact binC_ok hT hm h (hρ x (by simp) _ hx) (hρ y (by simp) _ hy)
  · cases h

theorem run_indexStr {t : TypeId} (hty : P.underlying t = some .string) {s : List Nat} (kk : IntKind) (k : Nat) (hlt : k < s.length) : (Instr.index t (.string (bytesV s)) (.int kk (k : Int))).run P w = .ok (.int .u8 (Eng.byteAt (bytesV s) k)) w := by
  have hsz : k < (bytesV s).size := by rw [bytesV_size]; exact hlt
  have hb : (bytesV s)[k]? = some ((bytesV s)[k]'hsz) := getElem?_pos _ k hsz
  have hv : ((bytesV s)[k]'hsz) = (bytesV s).data.toList.getD k 0 := by
    have : k < (bytesV s).data.toList.length := by rw [Array.length_toList]; exact hsz
    rw [List.getD_eq_getElem?_getD, List.getElem?_eq_getElem this]
    rfl
  have h1 : (Instr.index t (.string (bytesV s)) (.int kk (k : Int))).run P w = (match (if (0 : Int) ≤ (k : Int) then (bytesV s)[(k : Int).toNat]? else none) with | some b => (pure (.int .u8 b.toNat) : Sem Value) | none => boundsPanic kk k (bytesV s).size .index).run P w := by
    simp [Instr.index, asIntOf, run_underlying hty]
    rfl
  rw [h1, if_pos (by omega)]
  show (match (bytesV s)[k]? with | some b => (pure (.int .u8 b.toNat) : Sem Value) | none => boundsPanic kk k (bytesV s).size .index).run P w = _
  rw [hb, Eng.byteAt, ← hv]
  rfl

theorem findKey_run {kt : TypeId} {d : TypeDesc} {k : Value} {l : List MapEntry} {a : Option (Nat × Value)} (hd : P.underlying kt = some d) (h : Instr.findNow d k l 0 = some a) : (Instr.findKey kt k l).run P w = .ok a w := by
  simp [Instr.findKey, run_underlying hd, Result.andThen, h]
theorem entOf_ok {st : Nat} {c : CV} : ∀ {es : List (CV × CV × Nat)} {fs : List MapEntry}, EntsR r es fs → entOf st es = some c → ∃ en, fs.find? (fun e => e.born == st) = some en ∧ Den r c (.tuple #[en.key, en.val])
  | _, _, .nil, h => by simp [entOf] at h
  | _, _, .cons (k := k) (v := v) (n := n) (e := e) hk hv hb hes, h => by
    simp only [entOf] at h
    split at h
    · rename_i hbb
      have := natbeq_t hbb; subst this
      simp at h; subst h
      refine ⟨e, by rw [List.find?_cons]; simp [hb], ?_⟩
      simp only [Den]; exact ⟨_, DenL.cons hk (DenL.cons hv (by simp [DenL])), rfl⟩
    · rename_i hbb
      have hne := natbeq_f hbb
      obtain ⟨en, g1, g2⟩ := entOf_ok hes h
      refine ⟨en, ?_, g2⟩
      rw [List.find?_cons, hb]
      have e0 : (n == st) = false := by simp [hne]
      rw [e0]; exact g1

theorem struct_at (hT : TbOk P b) {s : Nat} {fs : List (Nat × Nat × Nat)} {c by_ : Nat} {z : List CV} {eq : Bool} (hti : b.ty s = some ⟨.struct fs, c, by_, z, eq⟩) {f o n t : Nat} (hf : nth fs f = some (o, n, t)) :
    ∃ (flds : Array Field) (fl : Field), P.underlying s = some (.struct flds) ∧ flds[f]? = some fl ∧ fl.offset = o ∧ n = P.cellsOf t ∧ fl.type = t ∧ ∃ i, P.info? t = some i ∧ i.size = n := by
  obtain ⟨i, hi, hik, flds, hfl, htys⟩ := (hT.ty s _ hti).struct rfl
  obtain ⟨d2, hd2, hkd⟩ := hi.desc
  rw [hik] at hkd
  obtain ⟨flds2, hdd, hfo⟩ := hkd
  rw [hfl] at hd2
  cases hd2
  cases hdd
  have hff := flds_ok hfo htys
  rw [nth_eq] at hf
  rw [← hff] at hf
  simp only [List.getElem?_map, Option.map_eq_some_iff] at hf
  obtain ⟨fl, h1, h2⟩ := hf
  simp only [Prod.mk.injEq] at h2
  obtain ⟨h3, h4, h5⟩ := h2
  obtain ⟨f2, i2, h6, h7, h8, h9⟩ := Eng.fieldsOk_at hfo f o n (by
    rw [List.getElem?_map]
    rw [← hff]
    simp [h1, h3, h4])
  rw [h1] at h6
  cases h6
  exact ⟨flds, fl, hfl, by simpa using h1, h3, by rw [← h5]; exact h4.symm, h5, i2, by rw [← h5]; exact h8, h9⟩

theorem q_conv (hT : TbOk P b) (hm : MemR P w0 S r M nx w) {s d : TypeId} {x : Operand} {c : CV} (hρ : OpsR r E ρ [x]) (h : qop b E M (.convert s d x) = some c) : ∃ u, (convert s d (ρ x)).run P w = .ok u w ∧ Den r c u := by
  simp only [qop, qMove, qPick, qLoad, qNilCheck, qBinOp, qUnOp, qConvert, qMakeInterface, qMakeFunc, qFieldAddr, qField, qIndexAddr, qIndex, qSlice, qLookup, qEntry, qTypeAssert, qExtract, qBuild, qLen, qCap, qMin, qMax] at h
  split at h
  · rename_i ts k _ _ _ _ k' n hs hd hx
    simp at h; subst h
    have hx := hρ x (by simp) _ hx
    simp only [Den] at hx
    obtain ⟨i, hi, _⟩ := (hT.ty s _ hs).ex
    obtain ⟨ds, hds, _⟩ := hi.desc
    have hdd := (hT.ty d _ hd).int rfl
    refine ⟨.int k (k.wrap n), ?_, by rw [wrapC_eq]; simp [Den]⟩
    rw [hx]
    simp [convert, run_underlying hds, run_underlying hdd, Conv.intToInt]
  · rename_i e _ _ _ _ _ _ _ _ v hs hd hx
    have hx := hρ x (by simp) _ hx
    split at h
    · rename_i n hn he hns
      split at h
      · rename_i l hl
        split at h
        · rename_i ss hss
          simp at h; subst h
          have h1 := (hT.ty s _ hs).slice rfl
          have h2 := (hT.ty d _ hd).str rfl
          obtain ⟨us, h3, h4, h5, h6⟩ := cells_ok hm hl hx (fun m hm' => by rw [hn] at hm'; cases hm'; exact Nat.le_refl _)
          have h7 := bytesC_ok hss h4
          refine ⟨.string (bytesV ss), ?_, by simp only [Den]⟩
          have hu8 : P.underlying e = some (.int .u8) := by
            unfold isU8 at he
            split at he
            · rename_i hte
              exact (hT.ty e _ hte).int rfl
            · cases he
          have hlen := lenC_ok (P := P) (w := w) hn hx
          cases hux : ρ x with
          | slice a m cp =>
            rw [hux] at h3 hlen
            have hmn : m = n := by
              have : (Builtin.lenOf (.slice a m cp)).run P w = .ok m w := rfl
              rw [this] at hlen; cases hlen; rfl
            subst hmn
            rw [run_convert_bytes_string w s d e a m cp h1 hu8 h2]
            cases a with
            | none =>
              have : us = [] := by
                have e0 : (Builtin.firstCells 1 m (.slice none m cp)).run P w = .ok #[] w := rfl
                rw [e0] at h3; cases us with
                | nil => rfl
                | cons => simp at h3
              rw [this] at h7
              have : ss = [] := by cases ss with
                | nil => rfl
                | cons => simp [this] at h7
              subst this
              rfl
            | some a =>
              have e0 : (Builtin.firstCells 1 m (.slice (some a) m cp)) = loadCells a (m * 1) := rfl
              rw [e0, Nat.mul_one] at h3
              have h8 := run_bytesToString w a m cp (ss.map fun (x : Nat) => (x : Int)) (by rw [h3, h7]; simp [Function.comp_def])
              rw [h8, push_all]
              congr 2
          | _ =>
            exfalso
            rw [hux] at hlen hx
            unfold lenC at hn
            split at hn
            · obtain ⟨_, _, _, _, _, h0⟩ := hx; cases h0
            · obtain ⟨_, _, _, _, h0⟩ := hx; cases h0
            · cases hx
            · simp [isStr] at hns
            · cases hn
        · cases h
      · cases h
    · cases h
  · rename_i ss hs hd hx
    simp at h; subst h
    have hx := hρ x (by simp) _ hx
    simp only [Den] at hx
    have h1 := (hT.ty s _ hs).str rfl
    have h2 := (hT.ty d _ hd).str rfl
    refine ⟨.string (bytesV ss), ?_, by simp only [Den]⟩
    rw [hx]
    simp [convert, run_underlying h1, run_underlying h2]
  · cases h

set_option maxHeartbeats 1000000 in
theorem qop_ok (hT : TbOk P b) (hm : MemR P w0 S r M nx w) {o : Oper} {c : CV} (hρ : OpsR r E ρ o.op.operands.toList) (h : qop b E M o.op = some c) : VRun P w r ρ o c := by
  obtain ⟨dst, op, ty, pos, after, guard⟩ := o
  dsimp only at hρ h
  cases op with
  | move x =>
    simp only [qop, qMove, qPick, qLoad, qNilCheck, qBinOp, qUnOp, qConvert, qMakeInterface, qMakeFunc, qFieldAddr, qField, qIndexAddr, qIndex, qSlice, qLookup, qEntry, qTypeAssert, qExtract, qBuild, qLen, qCap, qMin, qMax] at h
    exact VRun.mk (s := pure (ρ x)) (by simp [execOp]) ⟨ρ x, rfl, hρ x (by simp [Op.operands]) _ h⟩
  | pick cc x y =>
    simp only [qop, qMove, qPick, qLoad, qNilCheck, qBinOp, qUnOp, qConvert, qMakeInterface, qMakeFunc, qFieldAddr, qField, qIndexAddr, qIndex, qSlice, qLookup, qEntry, qTypeAssert, qExtract, qBuild, qLen, qCap, qMin, qMax] at h
    have hc := fun v => hρ cc (by simp [Op.operands]) v
    have hx := fun v => hρ x (by simp [Op.operands]) v
    have hy := fun v => hρ y (by simp [Op.operands]) v
    split at h
    · rename_i hcv
      have := hc _ hcv
      simp only [Den] at this
      exact ⟨ρ x, by simp [execOp, this, asBool], hx _ h⟩
    · rename_i hcv
      have := hc _ hcv
      simp only [Den] at this
      exact ⟨ρ y, by simp [execOp, this, asBool], hy _ h⟩
    · rename_i hcv
      obtain ⟨q, hq⟩ := hc _ hcv
      split at h
      · simp at h; subst h
        exact ⟨if q then ρ x else ρ y, by simp [execOp, hq, asBool], trivial⟩
      · cases h
    · cases h
  | load t a =>
    simp only [qop, qMove, qPick, qLoad, qNilCheck, qBinOp, qUnOp, qConvert, qMakeInterface, qMakeFunc, qFieldAddr, qField, qIndexAddr, qIndex, qSlice, qLookup, qEntry, qTypeAssert, qExtract, qBuild, qLen, qCap, qMin, qMax] at h
    split at h
    · rename_i v hv
      exact VRun.mk (s := Instr.loadAt t (ρ a)) (by simp only [execOp]) (loadC_ok hT hm h (hρ a (by simp [Op.operands]) _ hv))
    · cases h
  | nilCheck x =>
    simp only [qop, qMove, qPick, qLoad, qNilCheck, qBinOp, qUnOp, qConvert, qMakeInterface, qMakeFunc, qFieldAddr, qField, qIndexAddr, qIndex, qSlice, qLookup, qEntry, qTypeAssert, qExtract, qBuild, qLen, qCap, qMin, qMax] at h
    have hx := fun v => hρ x (by simp [Op.operands]) v
    split at h
    · rename_i hv; simp at h; subst h
      have hd := hx _ hv
      have hd2 := hd
      simp only [Den] at hd
      obtain ⟨bk, _, hu⟩ := hd
      exact ⟨ρ x, by simp [execOp, hu], hd2⟩
    · rename_i hv; simp at h; subst h
      have hd := hx _ hv
      have hd2 := hd
      simp only [Den] at hd
      obtain ⟨bk, _, hu⟩ := hd
      exact ⟨ρ x, by simp [execOp, hu], hd2⟩
    · rename_i hv; simp at h; subst h
      have hd := hx _ hv
      have hd2 := hd
      simp only [Den] at hd
      obtain ⟨g, fs, cs, hg, _, _, hu⟩ := hd
      have hg : g = .func _ := hg
      subst hg
      exact ⟨ρ x, by simp [execOp, hu], hd2⟩
    · cases h
  | binOp op t x y ty2 => exact VRun.mk (s := do eqGuard op t x y (ρ x) (ρ y); binOp op t (ρ x) (ρ y)) (by simp only [execOp]) (q_bin hT hm (fun z hz => hρ z (by simpa [Op.operands] using hz)) (fun _ _ _ => trivial) h)
  | unOp op t x =>
    simp only [qop, qMove, qPick, qLoad, qNilCheck, qBinOp, qUnOp, qConvert, qMakeInterface, qMakeFunc, qFieldAddr, qField, qIndexAddr, qIndex, qSlice, qLookup, qEntry, qTypeAssert, qExtract, qBuild, qLen, qCap, qMin, qMax] at h
    have hx := fun v => hρ x (by simp [Op.operands]) v
    refine VRun.mk (s := Op.unary op (ρ x)) (by simp only [execOp]) ?_
    split at h
    · rename_i hv; simp at h; subst h
      have hd := hx _ hv
      simp only [Den] at hd
      exact ⟨_, by rw [hd]; rfl, by simp [Den, nB_eq]⟩
    · rename_i hv; simp at h; subst h
      obtain ⟨q, hd⟩ := hx _ hv
      exact ⟨_, by rw [hd]; rfl, by simp [Den]⟩
    · rename_i k n hv; simp at h; subst h
      have hd := hx _ hv
      simp only [Den] at hd
      exact ⟨.int k (k.wrap (0 - n)), by rw [hd]; simp [Op.unary, Op.intArith], by rw [wrapC_eq]; simp [Den]⟩
    · cases h
  | convert s d x => exact VRun.mk (s := convert s d (ρ x)) (by simp only [execOp]) (q_conv hT hm (fun z hz => hρ z (by simpa [Op.operands] using hz)) h)
  | makeInterface t x =>
    simp only [qop, qMove, qPick, qLoad, qNilCheck, qBinOp, qUnOp, qConvert, qMakeInterface, qMakeFunc, qFieldAddr, qField, qIndexAddr, qIndex, qSlice, qLookup, qEntry, qTypeAssert, qExtract, qBuild, qLen, qCap, qMin, qMax] at h
    refine VRun.mk (s := Instr.makeInterface t (ρ x)) (by simp only [execOp]) ?_
    split at h
    · cases h
    · rename_i ti hni hti
      split at h
      · rename_i v hv; simp at h; subst h
        have hd := hρ x (by simp [Op.operands]) _ hv
        obtain ⟨i, hi, hr, _⟩ := (hT.ty t ti hti).ex
        refine ⟨.iface t (ρ x), Eng.run_makeInterface' hi (fun hk => ?_) _ _, by simp only [Den]; exact ⟨_, hd, rfl⟩⟩
        obtain ⟨k, n, by_, z, eq⟩ := ti
        cases k with
        | iface => exact (hni n by_ z eq rfl).elim
        | plain => rw [hr] at hk; cases hk
        | ptr e => rw [hr.1] at hk; cases hk
        | fnc => rw [hr.1] at hk; cases hk
        | struct fs => rw [hr.1] at hk; cases hk
        | slice e => rw [hr] at hk; cases hk
        | str => rw [hr] at hk; cases hk
        | int k => rw [hr] at hk; cases hk
        | bool => rw [hr] at hk; cases hk
        | arr m e => rw [hr] at hk; cases hk
        | map a e => rw [hr.1] at hk; cases hk
      · cases h
    · cases h
  | makeFunc fn first cap =>
    simp only [qop, qMove, qPick, qLoad, qNilCheck, qBinOp, qUnOp, qConvert, qMakeInterface, qMakeFunc, qFieldAddr, qField, qIndexAddr, qIndex, qSlice, qLookup, qEntry, qTypeAssert, qExtract, qBuild, qLen, qCap, qMin, qMax] at h
    refine VRun.mk (s := Instr.makeFunc fn (first.map ρ) (cap.map ρ)) (by simp only [execOp]) ?_
    split at h
    · cases h
    · rename_i fn _ _ _ f cs hny hf hcs
      simp at h; subst h
      have h1 := evs_ok (ρ := ρ) (fun y hy => hρ y (by simp [Op.operands] at hy ⊢; exact .inl hy)) hf
      have h2 := evs_ok (ρ := ρ) (fun y hy => hρ y (by simp [Op.operands] at hy ⊢; exact .inr hy)) hcs
      refine ⟨.func fn (first.map ρ) (cap.map ρ), rfl, ?_⟩
      simp only [Den]
      refine ⟨fn, _, _, ?_, h1, h2, ?_⟩
      · cases fn <;> first | rfl | exact (hny _ rfl).elim
      · congr 1 <;> (apply Array.toList_inj.1; simp)
    · cases h
  | fieldAddr s x f =>
    simp only [qop, qMove, qPick, qLoad, qNilCheck, qBinOp, qUnOp, qConvert, qMakeInterface, qMakeFunc, qFieldAddr, qField, qIndexAddr, qIndex, qSlice, qLookup, qEntry, qTypeAssert, qExtract, qBuild, qLen, qCap, qMin, qMax] at h
    refine VRun.mk (s := Instr.fieldAt s (ρ x) f) (by simp only [execOp]) ?_
    split at h
    · rename_i hs hx
      split at h
      · rename_i d m t hf
        simp at h; subst h
        have hd := hρ x (by simp [Op.operands]) _ hx
        simp only [Den] at hd
        obtain ⟨bk, hb, hu⟩ := hd
        obtain ⟨flds, fl, h1, h2, h3, h4, h5, i, h6, h7⟩ := struct_at hT hs hf
        refine ⟨_, ?_, by simp only [Den]; exact ⟨bk, hb, rfl⟩⟩
        rw [hu]
        have hsz : (sizeOf fl.type).run P w = .ok (m + 1) w := by rw [h5]; simp [sizeOf, Eng.run_typeInfo h6, h7]
        simp [Instr.fieldAt, run_underlying h1, h2, Instr.sureAddr, fieldPlace, hsz, h3, addr_add]
      · cases h
    · cases h
  | field s x f =>
    simp only [qop, qMove, qPick, qLoad, qNilCheck, qBinOp, qUnOp, qConvert, qMakeInterface, qMakeFunc, qFieldAddr, qField, qIndexAddr, qIndex, qSlice, qLookup, qEntry, qTypeAssert, qExtract, qBuild, qLen, qCap, qMin, qMax] at h
    refine VRun.mk (s := Instr.field s (ρ x) f) (by simp only [execOp]) ?_
    split at h
    · rename_i hs hx
      split at h
      · rename_i d m t hf
        have hd := hρ x (by simp [Op.operands]) _ hx
        simp only [Den] at hd
        obtain ⟨us, hb, hu⟩ := hd
        obtain ⟨flds, fl, h1, h2, h3, h4, h5, _⟩ := struct_at hT hs hf
        obtain ⟨u, h8, h9⟩ := ptC_ok (w := w) hT h h4 hb
        refine ⟨u, ?_, h9⟩
        rw [hu]
        simp [Instr.field, run_underlying h1, h2, asAgg, h3, h5, h8]
      · cases h
    · cases h
  | indexAddr t x i =>
    simp only [qop, qMove, qPick, qLoad, qNilCheck, qBinOp, qUnOp, qConvert, qMakeInterface, qMakeFunc, qFieldAddr, qField, qIndexAddr, qIndex, qSlice, qLookup, qEntry, qTypeAssert, qExtract, qBuild, qLen, qCap, qMin, qMax] at h
    refine VRun.mk (s := Instr.indexAt t (ρ x) (ρ i)) (by simp only [execOp]) ?_
    have hx := fun v => hρ x (by simp [Op.operands]) v
    have hi := fun v => hρ i (by simp [Op.operands]) v
    split at h
    · rename_i ht hxv hiv
      split at h
      · rename_i ti hk hti
        have hk := blt_t hk
        simp at h; subst h
        have h1 := hx _ hxv
        have h2 := hi _ hiv
        simp only [Den] at h1 h2
        obtain ⟨bk, cap, hs, hc, hn, hu⟩ := h1
        have hty := (hT.ty t _ ht).slice rfl
        have hsz := (hT.ty _ _ hti).size (w := w)
        refine ⟨_, ?_, by simp only [Den]; exact ⟨bk, hs, rfl⟩⟩
        rw [hu, h2]
        simp [Instr.indexAt, asIntOf, run_underlying hty, hk, hsz, addr_add]
      · cases h
    · rename_i ht hxv hiv
      split at h
      · rename_i ti hk hti
        have hk := blt_t hk
        simp at h; subst h
        have h1 := hx _ hxv
        have h2 := hi _ hiv
        simp only [Den] at h1 h2
        obtain ⟨bk, hs, hu⟩ := h1
        have hty := (hT.ty t _ ht).arr rfl
        have hsz := (hT.ty _ _ hti).size (w := w)
        refine ⟨_, ?_, by simp only [Den]; exact ⟨bk, hs, rfl⟩⟩
        rw [hu, h2]
        simp [Instr.indexAt, asIntOf, run_underlying hty, hk, hsz, addr_add, Instr.sureAddr]
      · cases h
    · cases h
  | index t x i =>
    simp only [qop, qMove, qPick, qLoad, qNilCheck, qBinOp, qUnOp, qConvert, qMakeInterface, qMakeFunc, qFieldAddr, qField, qIndexAddr, qIndex, qSlice, qLookup, qEntry, qTypeAssert, qExtract, qBuild, qLen, qCap, qMin, qMax] at h
    refine VRun.mk (s := Instr.index t (ρ x) (ρ i)) (by simp only [execOp]) ?_
    have hx := fun v => hρ x (by simp [Op.operands]) v
    have hi := fun v => hρ i (by simp [Op.operands]) v
    split at h
    · rename_i ht hxv hiv
      rename_i s kk k
      split at h
      · rename_i n hn
        simp at h; subst h
        have h1 := hx _ hxv
        have h2 := hi _ hiv
        simp only [Den] at h1 h2
        have hty := (hT.ty t _ ht).str rfl
        obtain ⟨q, hq, _⟩ := (hT.ty t _ ht).ex
        rw [nth_eq] at hn
        have hlt : k < s.length := by
          rcases Nat.lt_or_ge k s.length with h | h
          · exact h
          · rw [List.getElem?_eq_none h] at hn; cases hn
        have hb : (bytesV s).data.toList.getD k 0 = UInt8.ofNat n := by
          rw [bytesV_list, List.getD_eq_getElem?_getD, List.getElem?_map, hn]; rfl
        refine ⟨.int .u8 (Eng.byteAt (bytesV s) k), ?_, ?_⟩
        · rw [h1, h2]
          have hko : (Int.ofNat k).toNat = k := rfl
          have := run_indexStr (P := P) (w := w) hty kk k hlt
          simpa using this
        · simp only [Den, Eng.byteAt, hb, u8_ofNat]
          rfl
      · cases h
    · rename_i ht hxv hiv
      split at h
      · rename_i ti hk hti
        have hk := blt_t hk
        have h1 := hx _ hxv
        have h2 := hi _ hiv
        simp only [Den] at h1 h2
        obtain ⟨us, hl, hu⟩ := h1
        have hty := (hT.ty t _ ht).arr rfl
        have hsz := (hT.ty _ _ hti).size (w := w)
        obtain ⟨u, h8, h9⟩ := ptC_ok (w := w) hT h (hT.ty _ _ hti).cellsOf.symm hl
        refine ⟨u, ?_, h9⟩
        rw [hu, h2]
        simp [Instr.index, asIntOf, run_underlying hty, hk, hsz, h8]
      · cases h
    · cases h
  | slice t x lo hi mx => exact VRun.mk (s := Instr.sliceAt t (ρ x) (lo.map ρ) (hi.map ρ) (mx.map ρ)) (by simp only [execOp]) (slice_ok hT hρ h)
  | extract x i =>
    simp only [qop, qMove, qPick, qLoad, qNilCheck, qBinOp, qUnOp, qConvert, qMakeInterface, qMakeFunc, qFieldAddr, qField, qIndexAddr, qIndex, qSlice, qLookup, qEntry, qTypeAssert, qExtract, qBuild, qLen, qCap, qMin, qMax] at h
    refine VRun.mk (s := Instr.extract (ρ x) i) (by simp only [execOp]) ?_
    split at h
    · rename_i l hv
      have hd := hρ x (by simp [Op.operands]) _ hv
      simp only [Den] at hd
      obtain ⟨us, hl, hu⟩ := hd
      obtain ⟨u, h1, h2⟩ := hl.nth h
      exact ⟨u, by rw [hu]; simp [Instr.extract, h1], h2⟩
    · cases h
  | lookup t x i ok =>
    simp only [qop, qMove, qPick, qLoad, qNilCheck, qBinOp, qUnOp, qConvert, qMakeInterface, qMakeFunc, qFieldAddr, qField, qIndexAddr, qIndex, qSlice, qLookup, qEntry, qTypeAssert, qExtract, qBuild, qLen, qCap, qMin, qMax] at h
    refine VRun.mk (s := Instr.lookup t (ρ x) (ρ i) ok) (by simp only [execOp]) ?_
    split at h
    · rename_i kt e _ _ _ _ xv kv ht hxv hiv
      split at h
      · rename_i es hes hko
        have hx := hρ x (by simp [Op.operands]) _ hxv
        have hi := hρ i (by simp [Op.operands]) _ hiv
        have hty := (hT.ty t _ ht).map rfl
        obtain ⟨d, hd, hck, _, hkey⟩ := keyOk_ok (w := w) hT hko hi
        have hck := fun em => hck em 9999
        -- the entries
        have hents : ∃ (fs : Array MapEntry), EntsR r es fs.toList ∧ ((ρ x = .map none ∧ fs = #[]) ∨ ∃ bk clock, ρ x = .map (some bk) ∧ (getObj bk).run P w = .ok (.map fs clock) w) := by
          unfold mapEs at hes
          split at hes
          · split at hes
            · rename_i j _ es' clock hg
              simp at hes; subst hes
              simp only [Den] at hx
              obtain ⟨bk, hs, hu⟩ := hx
              obtain ⟨xo, hxo, fs, rfl, hent⟩ := hm.ok j bk _ hs hg
              exact ⟨fs, hent, .inr ⟨bk, clock, hu, by simp [getObj, Sem.run, hxo]⟩⟩
            · cases hes
          · simp at hes; subst hes
            simp only [Den] at hx
            exact ⟨#[], .nil, .inl ⟨hx, rfl⟩⟩
          · cases hes
        obtain ⟨fs, hent, hrun⟩ := hents
        have look : ∀ (q : Option (Nat × Value)), Instr.findNow d (ρ i) fs.toList 0 = some q → (Instr.lookup t (ρ x) (ρ i) ok).run P w = (do
            let (v, ok') ← (match q with
              | some (_, v) => (pure (v, true) : Sem (Value × Bool))
              | none => do pure (← zeroValue e, false))
            pure (if ok then .tuple #[v, .bool ok'] else v) : Sem Value).run P w := by
          intro q hq
          have hfk := findKey_run (P := P) (w := w) hd hq
          rcases hrun with ⟨hu, rfl⟩ | ⟨bk, clock, hu, hg⟩
          · rw [hu]
            have h0 : q = none := by simpa [Instr.findNow] using hq.symm
            subst h0
            simp [Instr.lookup, run_underlying hty, hck, hfk]
          · rw [hu]
            simp only [Instr.lookup, Sem.run_bind, run_underlying hty, Result.andThen_ok, hg, Sem.run_pure, hck, hfk]
            cases q with
            | some q => simp
            | none => simp; cases (zeroValue e).run P w <;> rfl
        have fin : ∀ (o : Option CV) (z : CV), mapFind kv es = some o → (match o with | some v => c = (match ok with | true => .tup [v, .bool true] | false => v) | none => ty1 b e = some z ∧ c = (match ok with | true => .tup [z, .bool false] | false => z)) → ∃ u, (Instr.lookup t (ρ x) (ρ i) ok).run P w = .ok u w ∧ Den r c u := by
          intro o z hf hc
          have h1 := mapFind_ok hkey 0 hent hf
          cases o with
          | some v =>
            obtain ⟨j, en, h2, _, _, h3⟩ := h1
            refine ⟨if ok then .tuple #[en.val, .bool true] else en.val, ?_, ?_⟩
            · rw [look _ h2]; simp
            · rw [hc]
              cases ok with
              | true => simp only [Den, if_true]; exact ⟨_, DenL.cons h3 (DenL.cons (by simp only [Den]) (by simp [DenL])), rfl⟩
              | false => exact h3
          | none =>
            obtain ⟨hz, hc⟩ := hc
            obtain ⟨zu, h4, h5⟩ := ty1_ok (w := w) hT hz r
            refine ⟨if ok then .tuple #[zu, .bool false] else zu, ?_, ?_⟩
            · rw [look _ h1]; simp [h4]
            · rw [hc]
              cases ok with
              | true => simp only [Den, if_true]; exact ⟨_, DenL.cons h5 (DenL.cons (by simp only [Den]) (by simp [DenL])), rfl⟩
              | false => exact h5
        split at h
        · rename_i v hf
          refine fin (some v) .nilP hf ?_
          cases ok <;> (simp at h; exact h.symm)
        · rename_i z hf hz
          refine fin none z hf ⟨hz, ?_⟩
          cases ok <;> (simp at h; exact h.symm)
        · cases h
      · cases h
    · cases h
  | entry x =>
    simp only [qop, qMove, qPick, qLoad, qNilCheck, qBinOp, qUnOp, qConvert, qMakeInterface, qMakeFunc, qFieldAddr, qField, qIndexAddr, qIndex, qSlice, qLookup, qEntry, qTypeAssert, qExtract, qBuild, qLen, qCap, qMin, qMax] at h
    refine VRun.mk (s := Instr.entry (ρ x)) (by simp only [execOp]) ?_
    split at h
    · rename_i i hxv
      have hx := hρ x (by simp [Op.operands]) _ hxv
      simp only [Den] at hx
      obtain ⟨bk, hs, hu⟩ := hx
      have main : ∀ (m st : Nat) (seen : Array Nat) (since last mb : Nat) (es : List (CV × CV × Nat)) (clock : Nat), w.heap[bk]? = some (.mapIter (some mb) since seen last) → seen.back? = some st → r.σ m = some mb → M.get m = some (.map es clock) → last = clock → entOf st es = some c → ∃ u, (Instr.entry (ρ x)).run P w = .ok u w ∧ Den r c u := by
        intro m st seen since last mb es clock h1 h2 h3 h4 h5 h6
        obtain ⟨xo, hxo, fs, rfl, hent⟩ := hm.ok m mb _ h3 h4
        have hfind : ∃ en, fs.find? (fun e => e.born == st) = some en ∧ Den r c (.tuple #[en.key, en.val]) := by
          obtain ⟨en, g1, g2⟩ := entOf_ok hent h6
          exact ⟨en, by rw [← Array.find?_toList]; exact g1, g2⟩
        obtain ⟨en, g1, g2⟩ := hfind
        have e1 : (getObj bk).run P w = .ok (.mapIter (some mb) since seen last) w := by simp [getObj, Sem.run, h1]
        have e2 : (getObj mb).run P w = .ok (.map fs clock) w := by simp [getObj, Sem.run, hxo]
        refine ⟨_, ?_, g2⟩
        rw [hu]
        simp [Instr.entry, e1, h2, e2, h5, g1]
      split at h
      · rename_i m s0 st rest last hg
        split at h
        · rename_i es clock hg2
          obtain ⟨xo, hxo, m', rfl, hm'⟩ := hm.ok i bk _ hs hg
          obtain ⟨mb, h3, rfl⟩ := hm'
          split at h
          · rename_i hcl
            have hcl := natbeq_t hcl
            refine main m st _ s0 last mb es clock hxo ?_ h3 hg2 hcl h
            simp
          · cases h
        · cases h
      · rename_i m since st clk hg
        split at h
        · rename_i es clock hg2
          obtain ⟨xo, hxo, mb, seen, h1, rfl, h2⟩ := hm.ok i bk _ hs hg
          split at h
          · rename_i hcl
            have hcl := natbeq_t hcl
            exact main m st _ since clk mb es clock hxo h2 h1 hg2 hcl h
          · cases h
        · cases h
      · cases h
    · cases h
  | typeAssert x xt t ok =>
    simp only [qop, qMove, qPick, qLoad, qNilCheck, qBinOp, qUnOp, qConvert, qMakeInterface, qMakeFunc, qFieldAddr, qField, qIndexAddr, qIndex, qSlice, qLookup, qEntry, qTypeAssert, qExtract, qBuild, qLen, qCap, qMin, qMax] at h
    refine VRun.mk (s := Instr.typeAssert (ρ x) xt t ok) (by simp only [execOp]) ?_
    have hx := fun v => hρ x (by simp [Op.operands]) v
    split at h
    · cases h
    · rename_i ti hne hti hxv
      have hd := hx _ hxv
      simp only [Den] at hd
      split at h
      · rename_i z hz
        simp at h; subst h
        obtain ⟨zu, h4, h5⟩ := ty1_ok (w := w) hT hz r
        obtain ⟨i, hi, _⟩ := (hT.ty t _ hti).ex
        obtain ⟨d, hdd, _⟩ := hi.desc
        refine ⟨.tuple #[zu, .bool false], ?_, by simp only [Den]; exact ⟨_, DenL.cons h5 (DenL.cons (by simp only [Den]) (by simp [DenL])), rfl⟩⟩
        rw [hd]
        cases d <;> simp [Instr.typeAssert, run_underlying hdd, h4]
      · cases h
    · rename_i ti u v hne hti hxv
      have hd := hx _ hxv
      simp only [Den] at hd
      obtain ⟨q, hq, hu⟩ := hd
      obtain ⟨i, hi, hr, _⟩ := (hT.ty t _ hti).ex
      obtain ⟨d, hdd, hkd⟩ := hi.desc
      have hni : ∀ ms, d ≠ .interface ms := by
        rintro ms rfl
        obtain ⟨k, n, by_, z, eq⟩ := ti
        cases k with
        | iface => exact (hne _ _ _ _ rfl).elim
        | plain => rw [show i.kind = .plain from hr] at hkd; exact hkd.2 ms rfl
        | ptr e => rw [hr.1] at hkd; exact hkd.2 ms rfl
        | fnc => rw [hr.1] at hkd; exact hkd.2 ms rfl
        | struct fs => rw [hr.1] at hkd; obtain ⟨_, h0, _⟩ := hkd; cases h0
        | slice e => rw [show i.kind = .slice e from hr] at hkd; cases hkd
        | str => rw [show i.kind = .str from hr] at hkd; cases hkd
        | int k => rw [show i.kind = .int k from hr] at hkd; cases hkd
        | bool => rw [show i.kind = .bool from hr] at hkd; cases hkd
        | arr m e => rw [show i.kind = .arr m e from hr] at hkd; cases hkd
        | map a e => rw [hr.1] at hkd; exact hkd.2 ms rfl
      split at h
      · rename_i hbe
        have := natbeq_t hbe; subst this
        split at h
        · simp at h; subst h
          refine ⟨.tuple #[q, .bool true], ?_, by simp only [Den]; exact ⟨_, DenL.cons hq (DenL.cons (by simp only [Den]) (by simp [DenL])), rfl⟩⟩
          rw [hu]
          cases d with
          | interface ms => exact absurd rfl (hni ms)
          | _ => simp [Instr.typeAssert, run_underlying hdd]
        · simp at h; subst h
          refine ⟨q, ?_, hq⟩
          rw [hu]
          cases d with
          | interface ms => exact absurd rfl (hni ms)
          | _ => simp [Instr.typeAssert, run_underlying hdd]
      · rename_i hbe
        have hne2 := natbeq_f hbe
        split at h
        · rename_i z hz
          simp at h; subst h
          obtain ⟨zu, h4, h5⟩ := ty1_ok (w := w) hT hz r
          refine ⟨.tuple #[zu, .bool false], ?_, by simp only [Den]; exact ⟨_, DenL.cons h5 (DenL.cons (by simp only [Den]) (by simp [DenL])), rfl⟩⟩
          rw [hu]
          cases d with
          | interface ms => exact absurd rfl (hni ms)
          | _ => simp [Instr.typeAssert, run_underlying hdd, hne2, h4]
        · cases h
    · cases h
  | build t ps =>
    simp only [qop, qMove, qPick, qLoad, qNilCheck, qBinOp, qUnOp, qConvert, qMakeInterface, qMakeFunc, qFieldAddr, qField, qIndexAddr, qIndex, qSlice, qLookup, qEntry, qTypeAssert, qExtract, qBuild, qLen, qCap, qMin, qMax] at h
    refine VRun.mk (s := Instr.build t (ps.map fun (i, x) => (i, ρ x))) (by simp only [execOp]) ?_
    have hps : ∀ l, evps E ps.toList = some l → l.map (·.1) = (ps.toList.map (fun x => (x.1, ρ x.2))).map (·.1) ∧ DenL r (l.map (·.2)) ((ps.toList.map (fun x => (x.1, ρ x.2))).map (·.2)) := fun l hl => evps_ok (fun y hy => hρ y (by simpa [Op.operands] using hy)) hl
    have earr : (ps.map fun (i, x) => (i, ρ x)) = (ps.toList.map (fun x => (x.1, ρ x.2))).toArray := by apply Array.toList_inj.1; simp
    split at h
    · rename_i fs _ _ z _ l ht hl
      split at h
      · rename_i out hf
        simp at h; subst h
        obtain ⟨h1, h2⟩ := hps _ hl
        obtain ⟨i, hi, hik, _⟩ := (hT.ty t _ ht).struct rfl
        obtain ⟨i2, hi2, hr2, _, _, hz⟩ := (hT.ty t _ ht).ex
        have hpl : fldPl fs = Eng.nth (fs.map fun f => (f.1, f.2.1)) := by
          funext j
          unfold fldPl
          rw [nth_map]
          cases nth fs j with
          | none => rfl
          | some f => obtain ⟨a, b, c⟩ := f; rfl
        obtain ⟨us, h3, h4⟩ := fillC_ok hf h1 h2 (hz r)
        rw [hpl] at h3
        have := Eng.run_build' (P := P) hi2 hr2.1 h3 w
        exact ⟨_, by rw [earr]; exact this, by simp only [Den]; exact ⟨us, h4, rfl⟩⟩
      · cases h
    · rename_i n e _ _ z _ l ht hl
      split at h
      · rename_i ti hti
        split at h
        · rename_i out hf
          simp at h; subst h
          obtain ⟨h1, h2⟩ := hps _ hl
          obtain ⟨i2, hi2, hr2, _, _, hz⟩ := (hT.ty t _ ht).ex
          obtain ⟨ie, hie, _, hce, _⟩ := (hT.ty e _ hti).ex
          obtain ⟨us, h3, h4⟩ := fillC_ok hf h1 h2 (hz r)
          have hpl : (fun i => some (i * ti.cells, ti.cells)) = fun i => some (Eng.mulC i ie.cells, ie.cells) := by
            funext j; rw [Eng.mulC_eq, hce]
          rw [hpl] at h3
          have := Eng.run_buildArr (P := P) hi2 hr2 hie h3 w
          exact ⟨_, by rw [earr]; exact this, by simp only [Den]; exact ⟨us, h4, rfl⟩⟩
        · cases h
      · cases h
    · cases h
  | call cl =>
    obtain ⟨callee, args, argTypes⟩ := cl
    cases callee with
    | value f => simp only [qop, reduceCtorEq] at h
    | invoke rr m => simp only [qop, reduceCtorEq] at h
    | builtin bi =>
      cases bi with
      | len =>
        simp only [qop, qMove, qPick, qLoad, qNilCheck, qBinOp, qUnOp, qConvert, qMakeInterface, qMakeFunc, qFieldAddr, qField, qIndexAddr, qIndex, qSlice, qLookup, qEntry, qTypeAssert, qExtract, qBuild, qLen, qCap, qMin, qMax] at h
        refine VRun.mk (s := Builtin.len_ argTypes ty (args.map ρ)) rfl ?_
        have hargs : ∀ l, evs E args.toList = some l → DenL r l (args.toList.map ρ) := fun l hl => evs_ok (fun y hy => hρ y (by simp [Op.operands, Call.operands] at hy ⊢; exact hy)) hl
        split at h
        · rename_i x t hl ht
          have h1 := hargs _ hl
          simp only [DenL] at h1
          obtain ⟨u, ur, hd, rfl, he⟩ := h1
          have ea : args.map ρ = #[u] := by apply Array.toList_inj.1; simpa using he
          have et : argTypes = #[t] := by apply Array.toList_inj.1; simpa using ht
          rw [ea, et]
          split at h
          · rename_i kt e _ _ _ _ hti
            have hty := (hT.ty t _ hti).map rfl
            split at h
            · rename_i i
              split at h
              · rename_i es clock hg
                simp at h; subst h
                simp only [Den] at hd
                obtain ⟨bk, hs, rfl⟩ := hd
                obtain ⟨xo, hxo, fs, rfl, hent⟩ := hm.ok i bk _ hs hg
                have hlen : ∀ {es : List (CV × CV × Nat)} {fs : List MapEntry}, EntsR r es fs → fs.length = es.length := by
                  intro es fs he
                  induction he with
                  | nil => rfl
                  | cons _ _ _ _ ih => simp [ih]
                have e1 : (getObj bk).run P w = .ok (.map fs clock) w := by simp [getObj, Sem.run, hxo]
                refine ⟨goInt fs.size, by simp [Builtin.len_, run_underlying hty, e1], ?_⟩
                rw [mkI_eq]
                simp only [Den, goInt, lenL_eq]
                rw [← hlen hent]; simp
              · cases h
            · simp at h; subst h
              simp only [Den] at hd; subst hd
              exact ⟨goInt 0, by simp [Builtin.len_, run_underlying hty], by rw [mkI_eq]; simp [Den, goInt]⟩
            · cases h
          · rename_i e _ _ _ _ hti
            have hty := (hT.ty t _ hti).slice rfl
            have main : ∀ A n cp, u = .slice A n cp → (Builtin.len_ #[t] ty #[u]).run P w = .ok (.int .i64 n) w := by
              rintro A n cp rfl; simp [Builtin.len_, run_underlying hty, goInt]
            unfold lenV at h
            split at h
            · simp at h; subst h
              simp only [Den] at hd; obtain ⟨_, _, _, _, _, hu⟩ := hd
              exact ⟨_, main _ _ _ hu, by rw [mkI_eq]; simp [Den]⟩
            · simp at h; subst h
              simp only [Den] at hd; obtain ⟨_, _, _, _, hu⟩ := hd
              exact ⟨_, main _ _ _ hu, by rw [mkI_eq]; simp [Den]⟩
            · simp at h; subst h
              simp only [Den] at hd
              exact ⟨_, main _ _ _ hd, by rw [mkI_eq]; simp [Den]⟩
            · simp at h; subst h
              simp only [Den] at hd; obtain ⟨_, _, _, hu⟩ := hd
              exact ⟨_, main _ _ _ hu, by simp [Den]⟩
            · simp at h; subst h
              simp only [Den] at hd; obtain ⟨_, n, _, hb, hu⟩ := hd
              exact ⟨_, main _ _ _ hu, by simp only [Den]; exact ⟨_, hb, rfl⟩⟩
            · cases h
          · rename_i _ _ _ _ hti
            have hty := (hT.ty t _ hti).str rfl
            have main : ∀ s, u = .string s → (Builtin.len_ #[t] ty #[u]).run P w = .ok (.int .i64 s.size) w := by
              rintro s rfl; simp [Builtin.len_, run_underlying hty, goInt]
            unfold lenS at h
            split at h
            · simp at h; subst h
              simp only [Den] at hd
              exact ⟨_, main _ hd, by rw [mkI_eq]; simp [Den, bytesV_size, lenL_eq]⟩
            · simp at h; subst h
              simp only [Den] at hd; obtain ⟨_, hu⟩ := hd
              exact ⟨_, main _ hu, by simp [Den]⟩
            · simp at h; subst h
              simp only [Den] at hd; obtain ⟨s, hb, hu⟩ := hd
              exact ⟨_, main _ hu, by simp only [Den]; exact ⟨_, hb, rfl⟩⟩
            · cases h
          · cases h
        · cases h
      | cap =>
        simp only [qop, qMove, qPick, qLoad, qNilCheck, qBinOp, qUnOp, qConvert, qMakeInterface, qMakeFunc, qFieldAddr, qField, qIndexAddr, qIndex, qSlice, qLookup, qEntry, qTypeAssert, qExtract, qBuild, qLen, qCap, qMin, qMax] at h
        refine VRun.mk (s := Builtin.cap_ argTypes ty (args.map ρ)) rfl ?_
        have hargs : ∀ l, evs E args.toList = some l → DenL r l (args.toList.map ρ) := fun l hl => evs_ok (fun y hy => hρ y (by simp [Op.operands, Call.operands] at hy ⊢; exact hy)) hl
        split at h
        · rename_i t hl ht
          have h1 := hargs _ hl
          simp only [DenL] at h1
          obtain ⟨u, ur, hd, rfl, he⟩ := h1
          have ea : args.map ρ = #[u] := by apply Array.toList_inj.1; simpa using he
          have et : argTypes = #[t] := by apply Array.toList_inj.1; simpa using ht
          rw [ea, et]
          split at h
          · rename_i hti
            have hty := (hT.ty t _ hti).slice rfl
            simp at h; subst h
            simp only [Den] at hd; obtain ⟨_, cp, _, hc, _, rfl⟩ := hd
            have hc : cp = _ := hc
            subst hc
            exact ⟨goInt cp, by simp [Builtin.cap_, run_underlying hty], by rw [mkI_eq]; simp [Den, goInt]⟩
          · cases h
        · rename_i t hl ht
          have h1 := hargs _ hl
          simp only [DenL] at h1
          obtain ⟨u, ur, hd, rfl, he⟩ := h1
          have ea : args.map ρ = #[u] := by apply Array.toList_inj.1; simpa using he
          have et : argTypes = #[t] := by apply Array.toList_inj.1; simpa using ht
          rw [ea, et]
          split at h
          · rename_i hti
            have hty := (hT.ty t _ hti).slice rfl
            simp at h; subst h
            simp only [Den] at hd; subst hd
            exact ⟨goInt 0, by simp [Builtin.cap_, run_underlying hty], by rw [mkI_eq]; simp [Den, goInt]⟩
          · cases h
        · cases h
      | min =>
        simp only [qop, qMove, qPick, qLoad, qNilCheck, qBinOp, qUnOp, qConvert, qMakeInterface, qMakeFunc, qFieldAddr, qField, qIndexAddr, qIndex, qSlice, qLookup, qEntry, qTypeAssert, qExtract, qBuild, qLen, qCap, qMin, qMax] at h
        refine VRun.mk (s := Builtin.min_ argTypes ty (args.map ρ)) rfl ?_
        have hargs : ∀ l, evs E args.toList = some l → DenL r l (args.toList.map ρ) := fun l hl => evs_ok (fun y hy => hρ y (by simp [Op.operands, Call.operands] at hy ⊢; exact hy)) hl
        split at h
        · rename_i k a k2 c2 hl
          have h1 := hargs _ hl
          simp only [DenL] at h1
          obtain ⟨u, ur, hd, ⟨u2, ur2, hd2, rfl, rfl⟩, he⟩ := h1
          have ea : args.map ρ = #[u, u2] := by apply Array.toList_inj.1; simpa using he
          simp only [Den] at hd hd2
          subst hd hd2
          rw [ea]
          simp at h; subst h
          refine ⟨.int k (if c2 < a then c2 else a), rfl, ?_⟩
          simp only [Den, iLt_eq]
          by_cases hlt : c2 < a <;> simp [hlt]
        · cases h
      | max =>
        simp only [qop, qMove, qPick, qLoad, qNilCheck, qBinOp, qUnOp, qConvert, qMakeInterface, qMakeFunc, qFieldAddr, qField, qIndexAddr, qIndex, qSlice, qLookup, qEntry, qTypeAssert, qExtract, qBuild, qLen, qCap, qMin, qMax] at h
        refine VRun.mk (s := Builtin.max_ argTypes ty (args.map ρ)) rfl ?_
        have hargs : ∀ l, evs E args.toList = some l → DenL r l (args.toList.map ρ) := fun l hl => evs_ok (fun y hy => hρ y (by simp [Op.operands, Call.operands] at hy ⊢; exact hy)) hl
        split at h
        · rename_i k a k2 c2 hl
          have h1 := hargs _ hl
          simp only [DenL] at h1
          obtain ⟨u, ur, hd, ⟨u2, ur2, hd2, rfl, rfl⟩, he⟩ := h1
          have ea : args.map ρ = #[u, u2] := by apply Array.toList_inj.1; simpa using he
          simp only [Den] at hd hd2
          subst hd hd2
          rw [ea]
          simp at h; subst h
          refine ⟨.int k (if c2 > a then c2 else a), rfl, ?_⟩
          simp only [Den, iLt_eq]
          by_cases hlt : a < c2 <;> simp [hlt]
        · cases h
      | _ => simp only [qop, reduceCtorEq] at h
  | _ => simp only [qop, reduceCtorEq] at h
end q
end Go.Proofs.YtaodejbcmaeaaaaGreat.CE
