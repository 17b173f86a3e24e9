/- The concrete evaluator: types, equality, reading the memory. No statement of the seat is proved here. -/
import Derived.Test.YtaodejbcmaeaaaaGreatCe3
import Derived.Laws.StructEq
set_option linter.unusedVariables false
set_option linter.unusedSimpArgs false
namespace Go.Proofs.YtaodejbcmaeaaaaGreat.CE
open Go Go.RowKit
open Go.Proofs.YtaodejbcmaeaaaaGreat.Eng (Fr Pl pl TyI TyK Tab TabOk kix)

/-! ## the tables -/
def TKR (P : Program) (t : Nat) : TK → TyK → Prop
  | .plain, k => k = .plain
  | .ptr e, k => k = .plain ∧ P.underlying t = some (.pointer e)
  | .fnc, k => k = .plain ∧ ∃ a r v, P.underlying t = some (.func a r v)
  | .struct fs, k => k = .struct (fs.map fun f => (f.1, f.2.1)) ∧ ∃ flds, P.underlying t = some (.struct flds) ∧ flds.toList.map (·.type) = fs.map (·.2.2)
  | .slice e, k => k = .slice e
  | .str, k => k = .str
  | .int i, k => k = .int i
  | .bool, k => k = .bool
  | .iface, k => k = .iface
  | .arr n e, k => k = .arr n e
  | .map a e, k => k = .plain ∧ P.underlying t = some (.map a e)
/-- A kind of values of many cells. -/
def TK.agg : TK → Bool
  | .struct _ => true
  | .arr _ _ => true
  | _ => false
structure TyOk (P : Program) (t : Nat) (ti : TI) : Prop where
  ex : ∃ i : TyI, i.ok P t ∧ TKR P t ti.kind i.kind ∧ ti.cells = i.cells ∧ ti.bytes = i.bytes ∧ ∀ r, DenL r ti.zero i.zero
  eq : ti.eq = true → P.stoodInHeld t = false ∧ P.eqGuardType P.depth t = false ∧ ∀ flds, P.underlying t = some (.struct flds) → ∀ f ∈ flds.toList, f.name ≠ "_"
  len : ti.zero.length = ti.cells
  z : ∃ inf zv, P.info? t = some inf ∧ inf.zero = some zv ∧ (ti.kind.agg = true → ∃ us : List Value, zv = .agg us.toArray ∧ ∀ r, DenL r ti.zero us) ∧ (ti.kind.agg = false → ∀ c, nth ti.zero 0 = some c → ∀ r, Den r c zv)
/-- A method of a type, by name: a function, and what its receiver is: the value, or what the value leads to. -/
def MdOk (P : Program) (t : Nat) (m : String) (g : Nat) (d : Option Nat) : Prop := ∀ (v : Value) (w : World), match d with
  | none => (method (P.types.size + Made.depth) t v m).run P w = .ok (g, v) w
  | some e => ∀ a x, v = .pointer (some a) → (loadVar e a).run P w = .ok x w → (method (P.types.size + Made.depth) t v m).run P w = .ok (g, x) w
def mdRcv (P : Program) (t g : Nat) (pr : Bool) : Option (Nat × Option Nat) := match P.underlying t, pr with
  | some (.pointer _), true => some (g, none)
  | some (.pointer e), false => some (g, some e)
  | some _, false => some (g, none)
  | _, _ => none
def mdOf (P : Program) (t : Nat) (m : String) : Option (Nat × Option Nat) := match P.info? t with
  | some inf => match inf.methods.find? (·.name == m) with
    | some mm => match mm.path.isEmpty, mm.func with
      | true, some (g, pr) => mdRcv P t g pr
      | _, _ => none
    | none => none
  | none => none
theorem mdOf_ok {P : Program} {t : Nat} {m : String} {g : Nat} {d : Option Nat} (h : mdOf P t m = some (g, d)) : MdOk P t m g d := by
  unfold mdOf at h
  split at h
  · rename_i inf hinf
    split at h
    · rename_i mm hfind
      split at h
      · rename_i g' pr hpath hfunc
        have hp : mm.path = #[] := by simpa using hpath
        have key : ∀ v w, (method (P.types.size + Made.depth) t v m).run P w = ((receiverAt t (.val v) pr (some ((m.splitOn ".").getLastD m))).run P w).andThen fun u w' => .ok (g', u) w' := by
          intro v w
          have e : P.types.size + Made.depth = (P.types.size + 99) + 1 := rfl
          rw [e]
          generalize P.types.size + 99 = kk
          simp only [method, Sem.run_bind, run_typeInfo w hinf, Result.andThen_ok, hfind, hfunc, hp, follow, Sem.run_pure]
          rfl
        unfold mdRcv at h
        intro v w
        split at h
        · rename_i e hu
          cases h
          simp only
          rw [key]
          simp [receiverAt, run_underlying hu, Place.get]
        · rename_i e hu
          cases h
          simp only
          intro a x hv hl
          subst hv
          rw [key]
          have hc : ∀ s : String, (Builtin.ssaWrapNilChk_ #[t] t #[.pointer (some a), strVal "", strVal s]).run P w = .ok (.pointer (some a)) w := fun s => rfl
          simp only [receiverAt, Sem.run_bind, run_underlying hu, Place.get, Sem.run_pure, Result.andThen_ok, hc, asAddr, hl]
        · rename_i tt hne hu
          cases h
          simp only
          rw [key]
          simp [receiverAt, run_underlying hu, Place.get]
        · cases h
      · cases h
    · cases h
  · cases h
/-- The library's stand-ins that are known. -/
def extF (name : String) : Array Value → Sem Value := match strEq name "count" with
  | true => Extern.BytealgCount.count
  | false => Extern.BytealgIndexByte.indexByte
structure TbOk (P : Program) (b : Tb) : Prop where
  md : ∀ t m g d, b.md t m = some (g, d) → MdOk P t m g d
  ty : ∀ t ti, b.ty t = some ti → TyOk P t ti
  fn : ∀ g fi, b.fn g = some fi → Eng.Enters P g ∧ ∃ fn, P.funcs[g]? = some fn ∧ fn.body = some fi.body ∧ fn.ntmps = fi.n ∧ fn.results.toList = fi.res
  mix : P.follows .mixedOrders = true
  ck : ∀ g fi, b.fn g = some fi → ckCode b g fi.n fi.body = true
  ext : ∀ g name, b.ext g = some name → ∀ (args : Array Value) (w : World), (callFunc g args).run P w = ((extF name args).run P w).andThen fun v w' => .ok (.value v) w'

section ty
variable {P : Program} {b : Tb} {w : World} {t : Nat} {ti : TI}
theorem TyOk.cellsOf (h : TyOk P t ti) : P.cellsOf t = ti.cells := by
  obtain ⟨i, hi, _, hc, _⟩ := h.ex
  obtain ⟨inf, h1, h2, _⟩ := hi.info
  simp [Program.cellsOf, h1, h2, hc]
theorem TyOk.size (h : TyOk P t ti) : (sizeOf t).run P w = .ok ti.cells w := by
  obtain ⟨i, hi, _, hc, _⟩ := h.ex
  rw [hc]; exact Eng.run_sizeOf' hi w
theorem TyOk.zero (h : TyOk P t ti) (r : Rl) : ∃ z zs, (zeroValue t).run P w = .ok z w ∧ z.cells = zs.toArray ∧ DenL r ti.zero zs := by
  obtain ⟨i, hi, _, _, _, hz⟩ := h.ex
  obtain ⟨z, h1, h2⟩ := Eng.run_zero' hi w
  exact ⟨z, i.zero, h1, h2, hz r⟩
theorem TyOk.int (h : TyOk P t ti) {k : IntKind} (hk : ti.kind = .int k) : P.underlying t = some (.int k) := by
  obtain ⟨i, hi, hr, _⟩ := h.ex
  rw [hk] at hr
  obtain ⟨d, hd, hkd⟩ := hi.desc
  have hr : i.kind = .int k := hr
  rw [hr] at hkd
  have : d = .int k := hkd
  rw [hd, this]
theorem TyOk.bool (h : TyOk P t ti) (hk : ti.kind = .bool) : P.underlying t = some .bool := by
  obtain ⟨i, hi, hr, _⟩ := h.ex
  rw [hk] at hr
  obtain ⟨d, hd, hkd⟩ := hi.desc
  have hr : i.kind = .bool := hr
  rw [hr] at hkd
  have : d = .bool := hkd
  rw [hd, this]
theorem TyOk.str (h : TyOk P t ti) (hk : ti.kind = .str) : P.underlying t = some .string := by
  obtain ⟨i, hi, hr, _⟩ := h.ex
  rw [hk] at hr
  obtain ⟨d, hd, hkd⟩ := hi.desc
  have hr : i.kind = .str := hr
  rw [hr] at hkd
  have : d = .string := hkd
  rw [hd, this]
theorem TyOk.slice (h : TyOk P t ti) {e : Nat} (hk : ti.kind = .slice e) : P.underlying t = some (.slice e) := by
  obtain ⟨i, hi, hr, _⟩ := h.ex
  rw [hk] at hr
  obtain ⟨d, hd, hkd⟩ := hi.desc
  have hr : i.kind = .slice e := hr
  rw [hr] at hkd
  have : d = .slice e := hkd
  rw [hd, this]
theorem TyOk.arr (h : TyOk P t ti) {n e : Nat} (hk : ti.kind = .arr n e) : P.underlying t = some (.array n e) := by
  obtain ⟨i, hi, hr, _⟩ := h.ex
  rw [hk] at hr
  obtain ⟨d, hd, hkd⟩ := hi.desc
  have hr : i.kind = .arr n e := hr
  rw [hr] at hkd
  have : d = .array n e := hkd
  rw [hd, this]
theorem TyOk.iface (h : TyOk P t ti) (hk : ti.kind = .iface) : ∃ ms, P.underlying t = some (.interface ms) := by
  obtain ⟨i, hi, hr, _⟩ := h.ex
  rw [hk] at hr
  obtain ⟨d, hd, hkd⟩ := hi.desc
  have hr : i.kind = .iface := hr
  rw [hr] at hkd
  obtain ⟨ms, rfl⟩ := hkd
  exact ⟨ms, hd⟩
theorem TyOk.map (h : TyOk P t ti) {k e : Nat} (hk : ti.kind = .map k e) : P.underlying t = some (.map k e) := by
  obtain ⟨i, hi, hr, _⟩ := h.ex
  rw [hk] at hr
  exact hr.2
theorem TyOk.ptr (h : TyOk P t ti) {e : Nat} (hk : ti.kind = .ptr e) : P.underlying t = some (.pointer e) := by
  obtain ⟨i, hi, hr, _⟩ := h.ex
  rw [hk] at hr
  exact hr.2
theorem TyOk.fnc (h : TyOk P t ti) (hk : ti.kind = .fnc) : ∃ a r v, P.underlying t = some (.func a r v) := by
  obtain ⟨i, hi, hr, _⟩ := h.ex
  rw [hk] at hr
  exact hr.2
theorem TyOk.struct (h : TyOk P t ti) {fs : List (Nat × Nat × Nat)} (hk : ti.kind = .struct fs) : ∃ i : TyI, i.ok P t ∧ i.kind = .struct (fs.map fun f => (f.1, f.2.1)) ∧ ∃ flds, P.underlying t = some (.struct flds) ∧ flds.toList.map (·.type) = fs.map (·.2.2) := by
  obtain ⟨i, hi, hr, _⟩ := h.ex
  rw [hk] at hr
  exact ⟨i, hi, hr.1, hr.2⟩
theorem TyOk.notIface (h : TyOk P t ti) (hn : ti.kind ≠ .iface) (hp : ti.kind ≠ .plain) : ∃ d, P.underlying t = some d ∧ ∀ ms, d ≠ .interface ms := by
  cases hk : ti.kind with
  | plain => exact absurd hk hp
  | iface => exact absurd hk hn
  | ptr e => exact ⟨_, h.ptr hk, by simp⟩
  | fnc => obtain ⟨a, r, v, e⟩ := h.fnc hk; exact ⟨_, e, by simp⟩
  | struct fs => obtain ⟨_, _, _, flds, e, _⟩ := h.struct hk; exact ⟨_, e, by simp⟩
  | slice e => exact ⟨_, h.slice hk, by simp⟩
  | str => exact ⟨_, h.str hk, by simp⟩
  | int k => exact ⟨_, h.int hk, by simp⟩
  | bool => exact ⟨_, h.bool hk, by simp⟩
  | arr n e => exact ⟨_, h.arr hk, by simp⟩
  | map k e => exact ⟨_, h.map hk, by simp⟩
theorem TyOk.isAgg (h : TyOk P t ti) : (isAgg t).run P w = .ok ti.kind.agg w := by
  obtain ⟨i, hi, hr, _⟩ := h.ex
  cases hk : ti.kind with
  | struct fs => obtain ⟨_, _, _, flds, hd, _⟩ := h.struct hk; simp [Go.isAgg, run_underlying hd, TK.agg]
  | arr n e => have hd := h.arr hk; simp [Go.isAgg, run_underlying hd, TK.agg]
  | plain =>
    rw [hk] at hr
    have hr : i.kind = .plain := hr
    simpa [TK.agg] using Eng.isAgg_flat hi (by rw [hr]; rfl) w
  | ptr e => have hd := h.ptr hk; simp [Go.isAgg, run_underlying hd, TK.agg]
  | fnc => obtain ⟨_, _, _, hd⟩ := h.fnc hk; simp [Go.isAgg, run_underlying hd, TK.agg]
  | slice e => have hd := h.slice hk; simp [Go.isAgg, run_underlying hd, TK.agg]
  | str => have hd := h.str hk; simp [Go.isAgg, run_underlying hd, TK.agg]
  | int k => have hd := h.int hk; simp [Go.isAgg, run_underlying hd, TK.agg]
  | bool => have hd := h.bool hk; simp [Go.isAgg, run_underlying hd, TK.agg]
  | iface => obtain ⟨ms, hd⟩ := h.iface hk; simp [Go.isAgg, run_underlying hd, TK.agg]
  | map k e => have hd := h.map hk; simp [Go.isAgg, run_underlying hd, TK.agg]
end ty

/-! ## reading -/
section mem
variable {P : Program} {b : Tb} {w0 w : World} {S : Nat → Prop} {r : Rl} {M : T AObj} {nx : Nat}
theorem Row.range_ok {row : Row} {cs : Array Value} (h : RowR r row cs) : ∀ (n off : Nat) (l : List CV), row.range off n = some l → ∃ us : List Value, DenL r l us ∧ l.length = n ∧ us.length = n ∧ ∀ j, j < n → cs[off + j]? = us[j]?
  | 0, off, l, hl => by simp [Row.range] at hl; subst hl; exact ⟨[], by simp [DenL], rfl, rfl, fun j hj => absurd hj (Nat.not_lt_zero _)⟩
  | n + 1, off, l, hl => by
    simp only [Row.range] at hl
    split at hl
    · cases hl
    · rename_i v hv
      split at hl
      · cases hl
      · rename_i l' hl'
        simp at hl; subst hl
        obtain ⟨u, h1, h2⟩ := h off v hv
        obtain ⟨us, h3, h4, h5, h6⟩ := Row.range_ok h n (off + 1) l' hl'
        refine ⟨u :: us, DenL.cons h2 h3, by simp [h4], by simp [h5], fun j hj => ?_⟩
        cases j with
        | zero => simpa using h1
        | succ j => have := h6 j (by omega); rw [show off + (j + 1) = off + 1 + j from by omega, this]; simp

theorem cells_of {i bk : Nat} (hm : MemR P w0 S r M nx w) (hs : r.σ i = some bk) {row : Row} {e : Nat} (hg : M.get i = some (.cells row e) ∨ M.get i = some (.row row e)) : ∃ cs fz, w.heap[bk]? = some (.cells cs e fz) ∧ RowR r row cs ∧ row.n ≤ cs.size ∧ cs.size = r.τ i * P.cellsOf e ∧ FzOk fz cs.size := by
  rcases hg with hg | hg
  · obtain ⟨x, hx, cs, rfl, h2, h3, h4⟩ := hm.ok i bk _ hs hg
    exact ⟨cs, (0, 0), hx, h4, Nat.le_of_eq h2.symm, h3, .inl rfl⟩
  · obtain ⟨x, hx, cs, fz, rfl, h2, h3, h4, h5⟩ := hm.ok i bk _ hs hg
    exact ⟨cs, fz, hx, h5, h2, h3, h4⟩

theorem cell_of {bk off : Nat} {cs : Array Value} {e : Nat} {fz : Nat × Nat} (h : w.heap[bk]? = some (.cells cs e fz)) : w.cell? ⟨bk, off, none⟩ = cs[off]? := by simp [World.cell?, h]
theorem cell_add {bk off j : Nat} {cs : Array Value} {e : Nat} {fz : Nat × Nat} (h : w.heap[bk]? = some (.cells cs e fz)) : w.cell? ((⟨bk, off, none⟩ : Addr).add j) = cs[off + j]? := by
  rw [Addr.add_lit]; exact cell_of h

theorem run_loadMany {a : Addr} : ∀ (us : List Value), (∀ j u, us[j]? = some u → w.cell? (a.add j) = some u) → (loadCells a us.length).run P w = .ok us.toArray w := by
  intro us h
  exact run_loadCells_list w a us h

theorem loadC_ok (hT : TbOk P b) (hm : MemR P w0 S r M nx w) {t : Nat} {v c : CV} {u : Value} (h : loadC b M t v = some c) (hv : Den r v u) : ∃ z, (Instr.loadAt t u).run P w = .ok z w ∧ Den r c z := by
  unfold loadC at h
  split at h
  · rename_i i off
    obtain ⟨bk, hs, rfl⟩ := hv
    have key : ∀ (row : Row) (e : Nat), (M.get i = some (.cells row e) ∨ M.get i = some (.row row e)) → loadC.ld b t row off = some c → ∃ z, (Instr.loadAt t (.pointer (some ⟨bk, off, none⟩))).run P w = .ok z w ∧ Den r c z := by
      intro row e hg hl
      obtain ⟨cs, fz, hx, hr, _⟩ := cells_of hm hs hg
      unfold loadC.ld at hl
      have many : ∀ (ti : TI), b.ty t = some ti → ti.kind.agg = true → (match row.range off ti.cells with | some l => some (CV.agg l) | none => none) = some c → ∃ z, (Instr.loadAt t (.pointer (some ⟨bk, off, none⟩))).run P w = .ok z w ∧ Den r c z := by
        intro ti hti hag hh
        split at hh
        · rename_i l hl2
          simp at hh; subst hh
          obtain ⟨us, h1, h2, h3, h4⟩ := Row.range_ok hr _ _ _ hl2
          have hty := hT.ty t ti hti
          refine ⟨.agg us.toArray, ?_, by simp only [Den]; exact ⟨us, h1, rfl⟩⟩
          have hlc : (loadCells ⟨bk, off, none⟩ ti.cells).run P w = .ok us.toArray w := by
            rw [← h3]
            refine run_loadMany us fun j u hj => ?_
            rw [cell_add hx]
            have hlt : j < us.length := by
              rcases Nat.lt_or_ge j us.length with h | h
              · exact h
              · rw [List.getElem?_eq_none h] at hj; cases hj
            rw [h4 j (by omega)]; exact hj
          simp [Instr.loadAt, Instr.sureAddr, loadVar, hty.isAgg, hag, hty.size, hlc]
        · cases hh
      split at hl
      · rename_i fs n by_ z eq hti; exact many _ hti rfl hl
      · rename_i n' e' n by_ z eq hti; exact many _ hti rfl hl
      · rename_i ti hns hna hti
        have hag : ti.kind.agg = false := by
          obtain ⟨k, n, by_, z, eq⟩ := ti
          cases k with
          | struct fs => exact (hns fs n by_ z eq rfl).elim
          | arr m e => exact (hna m e n by_ z eq rfl).elim
          | _ => rfl
        obtain ⟨z, h1, h2⟩ := hr off c hl
        refine ⟨z, ?_, h2⟩
        have hty := hT.ty t ti hti
        have hc := cell_of (off := off) hx
        rw [h1] at hc
        simp [Instr.loadAt, Instr.sureAddr, loadVar, hty.isAgg, hag, load, Sem.run, hc]
      · cases hl
    split at h
    · rename_i row e hg; exact key row e (.inl hg) h
    · rename_i row e hg; exact key row e (.inr hg) h
    · cases h
  · cases h

theorem ptC_ok (hT : TbOk P b) {o n t : Nat} {l : List CV} {v : CV} {us : List Value} (h : ptC b o n t l = some v) (hn : n = P.cellsOf t) (hl : DenL r l us) : ∃ u, (part t us.toArray o).run P w = .ok u w ∧ Den r v u := by
  unfold ptC at h
  have many : ∀ (ti : TI), b.ty t = some ti → ti.kind.agg = true → some (CV.agg (takeL n (dropL o l))) = some v → ∃ u, (part t us.toArray o).run P w = .ok u w ∧ Den r v u := by
    intro ti hti hag hh
    simp at hh; subst hh
    have hty := hT.ty t ti hti
    refine ⟨.agg (us.toArray.extract o (o + ti.cells)), by simp [part, hty.isAgg, hag, hty.size], ?_⟩
    rw [hty.cellsOf] at hn
    simp only [Den, takeL_eq, dropL_eq]
    refine ⟨_, (hl.drop o).take n, ?_⟩
    rw [hn]
    congr 1
    apply Array.toList_inj.1
    simp
  split at h
  · rename_i hti; exact many _ hti rfl h
  · rename_i hti; exact many _ hti rfl h
  · rename_i ti hns hna hti
    have hag : ti.kind.agg = false := by
      obtain ⟨k, n, by_, z, eq⟩ := ti
      cases k with
      | struct fs => exact (hns fs n by_ z eq rfl).elim
      | arr m e => exact (hna m e n by_ z eq rfl).elim
      | _ => rfl
    have hty := hT.ty t ti hti
    obtain ⟨u, h1, h2⟩ := hl.nth h
    exact ⟨u, by simp [part, hty.isAgg, hag, h1], h2⟩
  · cases h

theorem flds_ok {flds : List Field} : ∀ {fs : List (Nat × Nat × Nat)}, flds.mapM (fun f => (P.info? f.type).map fun i => (f.offset, i.size)) = some (fs.map fun f => (f.1, f.2.1)) → flds.map (·.type) = fs.map (·.2.2) → flds.map (fun f => (f.offset, P.cellsOf f.type, f.type)) = fs := by
  induction flds with
  | nil => intro fs h1 h2; cases fs with
    | nil => rfl
    | cons => simp at h2
  | cons f flds ih =>
    intro fs h1 h2
    cases fs with
    | nil => simp at h2
    | cons g fs =>
      simp only [List.map_cons, List.cons.injEq] at h2
      simp only [List.mapM_cons, Option.bind_eq_bind, Option.pure_def] at h1
      cases hi : P.info? f.type with
      | none => simp [hi] at h1
      | some i =>
        cases hr : flds.mapM (fun f => (P.info? f.type).map fun i => (f.offset, i.size)) with
        | none => simp [hi, hr] at h1
        | some rs =>
          simp [hi, hr] at h1
          obtain ⟨⟨h3, h4⟩, h5⟩ := h1
          have := ih (fs := fs) (by rw [hr, h5]) h2.2
          simp only [List.map_cons, this]
          congr 1
          obtain ⟨g1, g2, g3⟩ := g
          simp only at h3 h4 h2
          simp [h3, h2.1, Program.cellsOf, hi, h4]
          rw [← h2.1, hi]; simp [h4]

theorem eqFs_ok (hT : TbOk P b) {D : Nat} {f : Nat → CV → CV → Option Bool} (hf : ∀ t x y c u v, f t x y = some c → Den r x u → Den r y v → (Op.equalIn D t u v).run P w = .ok c w) {xs ys : List CV} {us vs : List Value} (hx : DenL r xs us) (hy : DenL r ys vs) :
    ∀ (flds : List Field) (fs : List (Nat × Nat × Nat)) (c : Bool), flds.map (fun f => (f.offset, P.cellsOf f.type, f.type)) = fs → (∀ f ∈ flds, f.name ≠ "_") → eqFs b f xs ys fs = some c → (Op.eqFields D us.toArray vs.toArray flds).run P w = .ok c w
  | [], fs, c, h1, _, h => by simp at h1; subst h1; simp [eqFs] at h; subst h; simp [Op.eqFields]
  | g :: flds, fs, c, h1, hn, h => by
    simp only [List.map_cons] at h1
    subst h1
    simp only [eqFs] at h
    split at h
    · rename_i x y hx1 hy1
      obtain ⟨u, h3, h4⟩ := ptC_ok (w := w) hT hx1 rfl hx
      obtain ⟨v, h5, h6⟩ := ptC_ok (w := w) hT hy1 rfl hy
      have hne := hn g (by simp)
      split at h
      · rename_i he
        have h7 := hf _ _ _ _ u v he h4 h6
        have h8 := eqFs_ok hT hf hx hy flds _ c rfl (fun f hf => hn f (by simp [hf])) h
        simp [Op.eqFields, hne, h3, h5, h7, h8]
      · rename_i he
        simp at h; subst h
        have h7 := hf _ _ _ _ u v he h4 h6
        simp [Op.eqFields, hne, h3, h5, h7]
      · cases h
    · cases h

theorem run_sameAddr_apart {b1 b2 o1 o2 : Nat} {c1 c2 : Array Value} {e1 e2 : Nat} (h1 : w.heap[b1]? = some (.cells c1 e1 (0, 0))) (h2 : w.heap[b2]? = some (.cells c2 e2 (0, 0))) (hne : b1 ≠ b2) :
    (sameAddr ⟨b1, o1, none⟩ ⟨b2, o2, none⟩).run P w = .ok false w := by
  have hf1 : w.frozen? ⟨b1, o1, none⟩ = false := by simp [World.frozen?, h1]
  have hs1 : w.shape? b1 = some (e1, c1.size) := by simp [World.shape?, h1]
  have hs2 : w.shape? b2 = some (e2, c2.size) := by simp [World.shape?, h2]
  have hf3 : w.frozen? ⟨b1, c1.size, none⟩ = false := by simp [World.frozen?, h1]
  have hf2 : w.frozen? ⟨b2, o2, none⟩ = false := by simp [World.frozen?, h2]
  have hf4 : w.frozen? ⟨b2, c2.size, none⟩ = false := by simp [World.frozen?, h2]
  have hv1 : (viewAt b1).run P w = .ok none w := by simp [viewAt, shape, Sem.run, hs1]
  have hv2 : (viewAt b2).run P w = .ok none w := by simp [viewAt, shape, Sem.run, hs2]
  have hst1 : (stringish ⟨b1, o1, none⟩).run P w = .ok false w := by simp [stringish, frozen, shape, Sem.run, hf1, hs1, hf3]
  have hst2 : (stringish ⟨b2, o2, none⟩).run P w = .ok false w := by simp [stringish, frozen, shape, Sem.run, hf2, hs2, hf4]
  have hmb : (mayBeOne ⟨b1, o1, none⟩ ⟨b2, o2, none⟩).run P w = .ok false w := by simp [mayBeOne, hst1, hst2]
  have hfr : (frozen ⟨b1, o1, none⟩).run P w = .ok false w := by simp [frozen, Sem.run, hf1]
  simp [sameAddr, hne, hfr, noView, hv1, hv2, hmb]

theorem eqT_ok (hT : TbOk P b) (hm : MemR P w0 S r M nx w) : ∀ (d D t : Nat) (x y : CV) (c : Bool) (u v : Value), eqT b M d t x y = some c → d ≤ D → Den r x u → Den r y v → (Op.equalIn D t u v).run P w = .ok c w
  | 0, D, t, x, y, c, u, v, h, _, _, _ => by simp [eqT] at h
  | d + 1, 0, t, x, y, c, u, v, h, hd, _, _ => by omega
  | d + 1, D + 1, t, x, y, c, u, v, h, hd, hx, hy => by
    simp only [eqT] at h
    split at h
    · cases h
    · rename_i ti hti
      have hty := hT.ty t ti hti
      split at h
      · rename_i hk
        split at h
        · rename_i hkk
          have := kEq_ok hkk; subst this
          simp at h; subst h
          simp only [Den] at hx hy; subst hx hy
          rw [run_equalIn_int w D t _ _ _ _ (hty.int hk), iEq_eq, Eng.int_beq]
        · cases h
      · rename_i hk
        simp at h; subst h
        simp only [Den] at hx hy; subst hx hy
        rw [run_equalIn_bool' w D t _ _ (hty.bool hk), bB_eq]
      · rename_i hk
        simp at h; subst h
        simp only [Den] at hx hy; subst hx hy
        rw [run_equalIn_string w D t _ _ (hty.str hk), sEq_eq, Eng.str_eq]
      · rename_i hk
        simp at h; subst h
        simp only [Den] at hx hy; subst hx hy
        simp [Op.equalIn, run_underlying (hty.ptr hk)]
      · rename_i hk
        simp at h; subst h
        simp only [Den] at hx hy; subst hx; obtain ⟨b2, h2, rfl⟩ := hy
        simp [Op.equalIn, run_underlying (hty.ptr hk)]
      · rename_i hk
        simp at h; subst h
        simp only [Den] at hx hy; subst hy; obtain ⟨b2, h2, rfl⟩ := hx
        simp [Op.equalIn, run_underlying (hty.ptr hk)]
      · rename_i e i o j p hk
        simp only [Den] at hx hy
        obtain ⟨b1, h1, rfl⟩ := hx
        obtain ⟨b2, h2, rfl⟩ := hy
        split at h
        · rename_i k' c' by_ z eq hte
          have hte2 := hT.ty e _ hte
          have hsz : (sizeOf e).run P w = .ok (c' + 1) w := hte2.size
          split at h
          · rename_i hij
            have := natbeq_t hij; subst this
            rw [h1] at h2; cases h2
            simp at h; subst h
            have hoo : Nat.beq o p = decide (o = p) := by
              cases hb : Nat.beq o p with
              | true => have := natbeq_t hb; simp [this]
              | false => have := natbeq_f hb; simp [this]
            have hsa : (sameAddr ⟨b1, o, none⟩ ⟨b1, p, none⟩).run P w = .ok (Nat.beq o p) w := by
              simp [sameAddr, hoo]
              rw [Bool.eq_iff_iff]; simp
            simp [Op.equalIn, run_underlying (hty.ptr hk), hsz, hsa]
          · rename_i hij
            have hij := natbeq_f hij
            split at h
            · rename_i r1 e1 r2 e2 g1 g2
              simp at h; subst h
              obtain ⟨x1, hx1, cs1, rfl, _⟩ := hm.ok i b1 _ h1 g1
              obtain ⟨x2, hx2, cs2, rfl, _⟩ := hm.ok j b2 _ h2 g2
              have hne : b1 ≠ b2 := fun e => hij (hm.inj i j b1 h1 (e ▸ h2) (by simp [g1]) (by simp [g2]))
              have hsa := run_sameAddr_apart (P := P) (o1 := o) (o2 := p) hx1 hx2 hne
              simp [Op.equalIn, run_underlying (hty.ptr hk), hsz, hsa]
            · cases h
        · cases h
      · rename_i hk
        simp at h; subst h
        simp only [Den] at hx hy; subst hx hy
        simp [Op.equalIn, run_underlying (hty.slice hk)]
      · rename_i hk
        simp at h; subst h
        simp only [Den] at hx hy; subst hy; obtain ⟨b2, cp, _, _, _, rfl⟩ := hx
        simp [Op.equalIn, run_underlying (hty.slice hk)]
      · rename_i hk
        simp at h; subst h
        simp only [Den] at hx hy; subst hx; obtain ⟨b2, cp, _, _, _, rfl⟩ := hy
        simp [Op.equalIn, run_underlying (hty.slice hk)]
      · rename_i hk
        simp at h; subst h
        simp only [Den] at hx hy; subst hy; obtain ⟨b2, o2, cp, _, rfl⟩ := hx
        simp [Op.equalIn, run_underlying (hty.slice hk)]
      · rename_i hk
        simp at h; subst h
        simp only [Den] at hx hy; subst hx; obtain ⟨b2, o2, cp, _, rfl⟩ := hy
        simp [Op.equalIn, run_underlying (hty.slice hk)]
      · rename_i hk
        simp at h; subst h
        simp only [Den] at hx hy; subst hx hy
        simp [Op.equalIn, run_underlying (hty.map hk)]
      · rename_i hk
        simp at h; subst h
        simp only [Den] at hx hy; subst hy; obtain ⟨b2, _, rfl⟩ := hx
        simp [Op.equalIn, run_underlying (hty.map hk)]
      · rename_i hk
        simp at h; subst h
        simp only [Den] at hx hy; subst hx; obtain ⟨b2, _, rfl⟩ := hy
        simp [Op.equalIn, run_underlying (hty.map hk)]
      · rename_i hk
        simp at h; subst h
        simp only [Den] at hx hy; subst hx hy
        obtain ⟨_, _, _, hd⟩ := hty.fnc hk
        simp [Op.equalIn, run_underlying hd]
      · rename_i hk
        simp at h; subst h
        simp only [Den] at hx hy; subst hy; obtain ⟨g, fs, cs, _, _, _, rfl⟩ := hx
        obtain ⟨_, _, _, hd⟩ := hty.fnc hk
        simp [Op.equalIn, run_underlying hd]
      · rename_i hk
        simp at h; subst h
        simp only [Den] at hx hy; subst hx; obtain ⟨g, fs, cs, _, _, _, rfl⟩ := hy
        obtain ⟨_, _, _, hd⟩ := hty.fnc hk
        simp [Op.equalIn, run_underlying hd]
      · rename_i hk
        simp at h; subst h
        simp only [Den] at hx hy; subst hx; obtain ⟨_, _, rfl⟩ := hy
        obtain ⟨_, hd⟩ := hty.iface hk
        simp [Op.equalIn, run_underlying hd]
      · rename_i hk
        simp at h; subst h
        simp only [Den] at hx hy; subst hy; obtain ⟨_, _, rfl⟩ := hx
        obtain ⟨_, hd⟩ := hty.iface hk
        simp [Op.equalIn, run_underlying hd]
      · rename_i fs xs ys hk
        split at h
        · rename_i heq
          simp only [Den] at hx hy
          obtain ⟨us, hx, rfl⟩ := hx
          obtain ⟨vs, hy, rfl⟩ := hy
          obtain ⟨hp, _, hnm⟩ := hty.eq heq
          obtain ⟨i, hi, hik, flds, hfl, htys⟩ := hty.struct hk
          obtain ⟨d2, hd2, hkd⟩ := hi.desc
          rw [hik] at hkd
          obtain ⟨flds2, hdd, hfo⟩ := hkd
          rw [hfl] at hd2
          cases hd2
          cases hdd
          have hff := flds_ok hfo htys
          have hfd : P.fieldsOf t = flds := by simp [Program.fieldsOf, hfl]
          rw [run_equalIn_struct w D t us.toArray vs.toArray (by rw [hfd]; exact hfl) hp, hfd]
          exact eqFs_ok hT (fun t' x y c u v h hx hy => eqT_ok hT hm d D t' x y c u v h (by omega) hx hy) hx hy _ _ c hff (hnm flds hfl) h
        · cases h
      · cases h
end mem
end Go.Proofs.YtaodejbcmaeaaaaGreat.CE
