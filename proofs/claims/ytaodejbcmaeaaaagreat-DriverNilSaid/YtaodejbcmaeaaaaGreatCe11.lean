/- The concrete evaluator: append, copy, clear. No statement of the seat is proved here. -/
import Derived.Test.YtaodejbcmaeaaaaGreatCe10
import Derived.Laws.Append
import Derived.Laws.AppendOwn
set_option linter.unusedVariables false
set_option linter.unusedSimpArgs false
namespace Go.Proofs.YtaodejbcmaeaaaaGreat.CE
open Go Go.RowKit
open Go.Proofs.YtaodejbcmaeaaaaGreat.Eng (Fr Pl pl TyI TyK Tab TabOk kix)

section a
variable {P : Program} {b : Tb} {w0 w : World} {S : Nat → Prop} {r : Rl} {M : T AObj} {nx ro : Nat} {E : T CV} {ρ : Operand → Value}

/-- Less is told. -/
def Sub (M M' : T AObj) : Prop := ∀ i o, M.get i = some o → M'.get i = some o
theorem MemR.sub {M' : T AObj} (hm : MemR P w0 S r M nx w) (hs : Sub M' M) : MemR P w0 S r M' nx w := by
  have hsome : ∀ j, (M'.get j).isSome = true → (M.get j).isSome = true := fun j hj => by
    cases h : M'.get j with
    | none => rw [h] at hj; cases hj
    | some o => rw [hs j o h]; rfl
  exact ⟨hm.fr, fun i b o h1 h2 => hm.ok i b o h1 (hs i o h2), fun i j b h1 h2 h3 h4 => hm.inj i j b h1 h2 (hsome i h3) (hsome j h4), fun i b o h1 h2 h3 => hm.own i b o h1 (hs i o h2) h3, fun i hi => ⟨(hm.dom i hi).1, by
    cases h : M'.get i with
    | none => rfl
    | some o => have := hs i o h; rw [(hm.dom i hi).2] at this; cases this⟩⟩
theorem sub_del (M : T AObj) (i : Nat) : Sub (M.del i) M := fun j o h => by
  rw [T.get_del] at h
  split at h
  · cases h
  · exact h
theorem StepR.del {i : Nat} (hm : MemR P w0 S r M nx w) (hro : ro ≤ i) : StepR P w0 S ro r r M (M.del i) nx nx w :=
  ⟨Rl.le_refl r, hm.sub (sub_del M i), Nat.le_refl _, fun j _ h => ⟨h, by
    rw [T.get_del]
    split
    · exact .inr (.inl rfl)
    · exact .inl rfl⟩, fun j hj _ => by rw [T.get_del, if_neg (by omega)], fun j _ => by
    rw [T.get_del]
    split
    · exact LcO.none _
    · exact LcO.refl _⟩
theorem MemR.drew (hm : MemR P w0 S r M nx w) : MemR P w0 S r M nx w.drew := ⟨⟨hm.fr.os, hm.fr.tape, hm.fr.output, hm.fr.size, hm.fr.block⟩, hm.ok, hm.inj, hm.own, hm.dom⟩
theorem StepR.of_drew {r' : Rl} {M' : T AObj} {nx' : Nat} {w' : World} (h : StepR P w0 S ro r r' M M' nx nx' w') : StepR P w0 S ro r r' M M' nx nx' w' := h

/-! ## append, run -/
theorem app_room {t t2 ty e e2 : TypeId} {i : TypeInfo} {x : Value} {a : Addr} {n cap k : Nat} {news : List Value} {w' : World} (ht : P.underlying t = some (.slice e)) (ht2 : P.underlying t2 = some (.slice e2)) (hi : P.info? e = some i)
    (hlen : ∃ ob c, x = .slice ob k c) (hnews : (Builtin.firstCells i.size k x).run P w = .ok news.toArray w) (hroom : n + k ≤ cap) (hst : (storeCells (a.add (n * i.size)) news).run P w = .ok () w') :
    (Builtin.append_ #[t, t2] ty #[.slice (some a) n cap, x]).run P w = .ok (.slice (some a) (n + k) cap) w' := by
  obtain ⟨ob, c, rfl⟩ := hlen
  simp [Builtin.append_, run_underlying ht, run_underlying ht2, sizeOf, typeInfo, hi, Builtin.lenOf, hroom, hnews, hst]
theorem app_room_nil {t t2 ty e e2 : TypeId} {i : TypeInfo} {x : Value} {n cap : Nat} {news : Array Value} (ht : P.underlying t = some (.slice e)) (ht2 : P.underlying t2 = some (.slice e2)) (hi : P.info? e = some i)
    (hlen : ∃ ob c, x = .slice ob 0 c) (hnews : (Builtin.firstCells i.size 0 x).run P w = .ok news w) (hroom : n ≤ cap) :
    (Builtin.append_ #[t, t2] ty #[.slice none n cap, x]).run P w = .ok (.slice none n cap) w := by
  obtain ⟨ob, c, rfl⟩ := hlen
  simp [Builtin.append_, run_underlying ht, run_underlying ht2, sizeOf, typeInfo, hi, Builtin.lenOf, hroom, hnews]
theorem app_grow {t t2 ty e e2 : TypeId} {i : TypeInfo} {z x : Value} {base : Option Addr} {n cap k : Nat} {olds news : List Value} (ht : P.underlying t = some (.slice e)) (ht2 : P.underlying t2 = some (.slice e2)) (hi : P.info? e = some i) (hz : i.zero = some z)
    (hlen : ∃ ob c, x = .slice ob k c) (holds : (Builtin.firstCells i.size n (.slice base n cap)).run P w.drew = .ok olds.toArray w.drew) (hnews : (Builtin.firstCells i.size k x).run P w.drew = .ok news.toArray w.drew) (hg : cap < n + k)
    (h63 : n + k ≤ 9223372036854775807) (hb : (n + k) * i.bytes ≤ 140737488355328) :
    (Builtin.append_ #[t, t2] ty #[.slice base n cap, x]).run P w = .ok (.slice (some ⟨w.heap.size, 0, none⟩) (n + k) (grownCap w (n + k) cap e))
        (w.drew.alloc (.cells (olds.toArray ++ news.toArray ++ Builtin.zeroCells z.cells (grownCap w (n + k) cap e - (n + k))) e)) := by
  obtain ⟨ob, c, rfl⟩ := hlen
  have hn : ¬ (n + k ≤ cap) := by omega
  have h63' : ¬ (9223372036854775807 < ((n : Int) + (k : Int))) := by omega
  have hfit := growslice_fits hg hb
  have h48' : ¬ (281474976710656 < Builtin.nextslicecap (n + k) cap * i.bytes) := by omega
  simp [Builtin.append_, run_underlying ht, run_underlying ht2, sizeOf, typeInfo, zeroValue, hi, hz, Builtin.lenOf, hn, h63', h48', Question.forced, hnews, holds, newRow, grownCap]
  congr 2
  apply Array.ext'
  simp [List.append_assoc]
theorem wrap64 {k : Nat} (h : k ≤ 9223372036854775807) : IntKind.i64.wrap (k : Int) = k := wrap_nat (k := .i64) (by show k < 9223372036854775808; omega)
theorem app_roomI {t t2 ty e : TypeId} {ik ik2 : IntKind} {i : TypeInfo} {z : Value} {a : Addr} {n cap k : Nat} {w' : World} (ht : P.underlying t = some (.slice e)) (ht2 : P.underlying t2 = some (.int ik)) (hi : P.info? e = some i) (hz : i.zero = some z)
    (hk0 : 0 < k) (hk : k ≤ 9223372036854775807) (hkb : k * i.bytes ≤ 281474976710656) (hsz : 0 < i.size) (hroom : n + k ≤ cap) (hst : (storeCells (a.add (n * i.size)) (Builtin.zeroCells z.cells k).toList).run P w = .ok () w') :
    (Builtin.append_ #[t, t2] ty #[.slice (some a) n cap, .int ik2 (k : Int)]).run P w = .ok (.slice (some a) (n + k) cap) w' := by
  have h1 : ¬ ((k : Int) < 0) := by omega
  have h2 : ¬ (281474976710656 < (k : Int) * (i.bytes : Int)) := by
    rw [← Int.natCast_mul]; omega
  have hks : ¬ (k * i.size = 0) := by have := Nat.mul_pos hk0 hsz; omega
  simp [Builtin.append_, run_underlying ht, run_underlying ht2, sizeOf, typeInfo, zeroValue, hi, hz, asInt, asIntOf, wrap64 hk, h1, h2, hroom, hks, hst]
theorem app_growI {t t2 ty e : TypeId} {ik ik2 : IntKind} {i : TypeInfo} {z : Value} {base : Option Addr} {n cap k : Nat} {olds : List Value} (ht : P.underlying t = some (.slice e)) (ht2 : P.underlying t2 = some (.int ik)) (hi : P.info? e = some i) (hz : i.zero = some z)
    (hk0 : 0 < k) (hk : k ≤ 9223372036854775807) (hkb : k * i.bytes ≤ 281474976710656) (hsz : 0 < i.size) (holds : (Builtin.firstCells i.size n (.slice base n cap)).run P w.drew = .ok olds.toArray w.drew) (hg : cap < n + k)
    (h63 : n + k ≤ 9223372036854775807) (hb : (n + k) * i.bytes ≤ 140737488355328) :
    (Builtin.append_ #[t, t2] ty #[.slice base n cap, .int ik2 (k : Int)]).run P w = .ok (.slice (some ⟨w.heap.size, 0, none⟩) (n + k) (grownCap w (n + k) cap e))
        (w.drew.alloc (.cells (olds.toArray ++ Builtin.zeroCells z.cells k ++ Builtin.zeroCells z.cells (grownCap w (n + k) cap e - (n + k))) e)) := by
  have h1 : ¬ ((k : Int) < 0) := by omega
  have h2 : ¬ (281474976710656 < (k : Int) * (i.bytes : Int)) := by
    rw [← Int.natCast_mul]; omega
  have hn : ¬ (n + k ≤ cap) := by omega
  have h63' : ¬ (9223372036854775807 < ((n : Int) + (k : Int))) := by omega
  have hfit := growslice_fits hg hb
  have h48' : ¬ (281474976710656 < Builtin.nextslicecap (n + k) cap * i.bytes) := by omega
  have hks : ¬ (k * i.size = 0) := by have := Nat.mul_pos hk0 hsz; omega
  simp [Builtin.append_, run_underlying ht, run_underlying ht2, sizeOf, typeInfo, zeroValue, hi, hz, asInt, asIntOf, wrap64 hk, h1, h2, hn, h63', h48', hks, Question.forced, holds, newRow, grownCap]

/-! ## append, in both memories -/
/-- What is appended: both ways in which append may go. -/
structure ArgOk (P : Program) (w : World) (t t2 ty e : TypeId) (i : TypeInfo) (z x : Value) (k : Nat) (news : List Value) : Prop where
  room : ∀ (a : Addr) (n cap : Nat) (w' : World), n + k ≤ cap → (storeCells (a.add (n * i.size)) news).run P w = .ok () w' → (Builtin.append_ #[t, t2] ty #[.slice (some a) n cap, x]).run P w = .ok (.slice (some a) (n + k) cap) w'
  grow : ∀ (base : Option Addr) (n cap : Nat) (olds : List Value), cap < n + k → n + k ≤ 9223372036854775807 → (n + k) * i.bytes ≤ 140737488355328 → (Builtin.firstCells i.size n (.slice base n cap)).run P w.drew = .ok olds.toArray w.drew →
    (Builtin.append_ #[t, t2] ty #[.slice base n cap, x]).run P w = .ok (.slice (some ⟨w.heap.size, 0, none⟩) (n + k) (grownCap w (n + k) cap e))
        (w.drew.alloc (.cells ((olds ++ news).toArray ++ Builtin.zeroCells z.cells (grownCap w (n + k) cap e - (n + k))) e))
def ARun (P : Program) (w0 w : World) (S : Nat → Prop) (ro : Nat) (r : Rl) (M : T AObj) (nx : Nat) (sem : Sem Value) (c : CV) (M' : T AObj) (nx' : Nat) : Prop :=
  ∃ v w' r', sem.run P w = .ok v w' ∧ Den r' c v ∧ StepR P w0 S ro r r' M M' nx nx' w'

theorem toArr_append (l k : List Value) : l.toArray ++ k.toArray = (l ++ k).toArray := by simp

theorem appNew_ok (hT : TbOk P b) (hm : MemR P w0 S r M nx w) (hro : ro ≤ nx) {t t2 ty e n k cap : Nat} {i : TypeInfo} {z x : Value} {news olds : List Value} {base : Option Addr} {l : List CV} {ti : TI} {c : CV} {M' : T AObj} {nx' : Nat}
    (hti : b.ty e = some ti) (hsz : i.size = ti.cells) (hby : i.bytes = ti.bytes) (hzs : z.cells.size = ti.cells) (ha : ArgOk P w t t2 ty e i z x k news) (hl : DenL r l (olds ++ news)) (hlen : (olds ++ news).length = (n + k) * ti.cells) (hcap : cap < n + k)
    (holds : (Builtin.firstCells i.size n (.slice base n cap)).run P w.drew = .ok olds.toArray w.drew) (h : appNew M nx e n k l ti = .ok c M' nx') :
    ARun P w0 w S ro r M nx (Builtin.append_ #[t, t2] ty #[.slice base n cap, x]) c M' nx' := by
  unfold appNew at h
  split at h
  · rename_i h1 h2
    have h1 := ble_t h1
    have h2 := ble_t h2
    injection h with e1 e2 e3
    subst e1 e2 e3
    have hrun := ha.grow base n cap olds hcap h1 (by rw [hby]; exact h2) holds
    have hge := grownCap_ge w (n + k) cap e
    refine ⟨_, _, _, hrun, ?_, StepR.new (cap := grownCap w (n + k) cap e) (x := .cells ((olds ++ news).toArray ++ Builtin.zeroCells z.cells (grownCap w (n + k) cap e - (n + k))) e (0, 0)) hm ?_ rfl rfl rfl rfl hro⟩
    · simp only [Den]
      exact ⟨_, _, add_self, ⟨⟨_, add_self⟩, by rw [add_cap]; rfl⟩, hge, rfl⟩
    · have hcs : ((olds ++ news).toArray ++ Builtin.zeroCells z.cells (grownCap w (n + k) cap e - (n + k))).size = grownCap w (n + k) cap e * ti.cells := by
        rw [Array.size_append, size_zeroCells, List.size_toArray, hlen, hzs, ← Nat.add_mul]
        congr 1; omega
      refine ⟨_, (0, 0), rfl, ?_, ?_, .inl rfl, ?_⟩
      · rw [hcs]
        have : (mkRow l).n = (n + k) * ti.cells := by show lenL l = _; rw [lenL_eq, ← hl.len]; exact hlen
        rw [this]
        exact Nat.mul_le_mul_right _ hge
      · rw [hcs, add_cap, (hT.ty e ti hti).cellsOf]
      · intro j v hv
        obtain ⟨u, h3, h4⟩ := hl.nth (mkRow_get hv)
        refine ⟨u, ?_, h4.mono (Rl.le_add (hm.dom nx (Nat.le_refl _)).1)⟩
        have hj : j < (olds ++ news).length := (List.getElem?_eq_some_iff.1 h3).1
        rw [Array.getElem?_append_left (by simpa using hj)]
        simpa using h3
  · cases h

/-- An object by another number. -/
theorem MemR.rename {i bk : Nat} {row : Row} {e : Nat} (hm : MemR P w0 S r M nx w) (hs : r.σ i = some bk) (hg : M.get i = some (.row row e)) : MemR P w0 S (r.add nx bk (r.τ i)) ((M.del i).set nx (.row row e)) (Nat.succ nx) w := by
  have hn := hm.dom nx (Nat.le_refl _)
  have hle := Rl.le_add (bk := bk) (cap := r.τ i) hn.1
  have hin : i ≠ nx := fun h => by rw [h, hn.1] at hs; cases hs
  have hσ : ∀ j b', (r.add nx bk (r.τ i)).σ j = some b' → (j = nx ∧ b' = bk) ∨ (j ≠ nx ∧ r.σ j = some b') := by
    intro j b' h
    simp only [Rl.add] at h
    split at h
    · rename_i he; exact .inl ⟨he, by cases h; rfl⟩
    · rename_i he; exact .inr ⟨he, h⟩
  have hget : ∀ j o, j ≠ nx → ((M.del i).set nx (.row row e)).get j = some o → j ≠ i ∧ M.get j = some o := by
    intro j o hj h
    rw [T.get_set, if_neg (fun e => hj e.symm), T.get_del] at h
    split at h
    · cases h
    · rename_i hne; exact ⟨fun e => hne e.symm, h⟩
  refine ⟨hm.fr, ?_, ?_, ?_, ?_⟩
  · intro j b' o h1 h2
    rcases hσ j b' h1 with ⟨rfl, rfl⟩ | ⟨hne, h1'⟩
    · rw [T.get_set, if_pos rfl] at h2; cases h2
      obtain ⟨x, h3, cs, fz, h4, h5, h6, h7, h8⟩ := hm.ok i _ _ hs hg
      exact ⟨x, h3, cs, fz, h4, h5, by rw [add_cap]; exact h6, h7, h8.mono hle⟩
    · obtain ⟨_, h3⟩ := hget j o hne h2
      obtain ⟨x, h4, h5⟩ := hm.ok j b' o h1' h3
      exact ⟨x, h4, h5.mono hle h1'⟩
  · have key : ∀ k b', k ≠ nx → r.σ k = some b' → (((M.del i).set nx (.row row e)).get k).isSome = true → b' = bk → False := by
      intro k b' hk h1 h2 h3
      obtain ⟨o, ho⟩ := Option.isSome_iff_exists.1 h2
      obtain ⟨h4, h5⟩ := hget k o hk ho
      subst h3
      exact h4 (hm.inj k i b' h1 hs (by simp [h5]) (by simp [hg]))
    intro j k b' h1 h2 h3 h4
    rcases hσ j b' h1 with ⟨rfl, rfl⟩ | ⟨hne, h1'⟩ <;> rcases hσ k _ h2 with ⟨rfl, e⟩ | ⟨hne2, h2'⟩
    · rfl
    · exact (key k _ hne2 h2' h4 rfl).elim
    · exact (key j _ hne h1' h3 e).elim
    · obtain ⟨o1, ho1⟩ := Option.isSome_iff_exists.1 h3
      obtain ⟨o2, ho2⟩ := Option.isSome_iff_exists.1 h4
      exact hm.inj j k b' h1' h2' (by simp [(hget j o1 hne ho1).2]) (by simp [(hget k o2 hne2 ho2).2])
  · intro j b' o h1 h2 h3
    rcases hσ j b' h1 with ⟨rfl, rfl⟩ | ⟨hne, h1'⟩
    · exact hm.own i _ _ hs hg rfl
    · exact hm.own j b' o h1' (hget j o hne h2).2 h3
  · intro j hj
    have hj2 : j ≠ nx := by omega
    refine ⟨by simp only [Rl.add]; rw [if_neg hj2]; exact (hm.dom j (by omega)).1, ?_⟩
    rw [T.get_set, if_neg (fun e => hj2 e.symm), T.get_del]
    split
    · rfl
    · exact (hm.dom j (by omega)).2

theorem Row.get_grow {row : Row} {m j : Nat} {v : CV} (h : (⟨m, row.sz, row.z, row.t⟩ : Row).get j = some v) (hj : j < row.n) : row.get j = some v := by
  unfold Row.get at h ⊢
  have e1 : Nat.blt j row.n = true := by
    cases hb : Nat.blt j row.n with
    | true => rfl
    | false => have := blt_f hb; omega
  rw [e1]
  split at h
  · cases h
  · exact h

theorem appRow_ok (hT : TbOk P b) (hm : MemR P w0 S r M nx w) (hro : ro ≤ nx) {t t2 ty e n k i e' : Nat} {inf : TypeInfo} {z x u : Value} {news : List Value} {nl : List CV} {ti : TI} {c : CV} {M' : T AObj} {nx' : Nat} {row : Row}
    (hti : b.ty e = some ti) (hsz : inf.size = ti.cells) (hby : inf.bytes = ti.bytes) (hzs : z.cells.size = ti.cells) (ha : ArgOk P w t t2 ty e inf z x k news) (hnl : DenL r nl news) (hlen : news.length = k * ti.cells)
    (hg : M.get i = some (.row row e')) (hs : Den r (.slice i 0 n (.r 0)) u) (h : appRow ro M nx e i n k nl ti row e' = .ok c M' nx') :
    ARun P w0 w S ro r M nx (Builtin.append_ #[t, t2] ty #[u, x]) c M' nx' := by
  unfold appRow at h
  split at h
  · rename_i hb1 hb2 hb3 hb4
    have hb1 := natbeq_t hb1
    have hb2 := natbeq_t hb2
    have hb3 := ble_t hb3
    subst hb2
    split at h
    · rename_i h1 h2
      have h1 := ble_t h1
      have h2 := ble_t h2
      injection h with e1 e2 e3
      subst e1 e2 e3
      simp only [Den] at hs
      obtain ⟨bk, cap, hs, ⟨_, hc⟩, hn, rfl⟩ := hs
      have hc : cap = r.τ i := by omega
      obtain ⟨xo, hxo, cs, fz, rfl, hrn, hcs, hfz, hr⟩ := hm.ok i bk _ hs hg
      rw [(hT.ty e ti hti).cellsOf] at hcs
      have hin : i < nx := by
        rcases Nat.lt_or_ge i nx with h | h
        · exact h
        · have := (hm.dom i h).1; rw [hs] at this; cases this
      have hone := allV_ok hb4 hnl
      have hnll : lenL nl = k * ti.cells := by rw [lenL_eq, ← hnl.len]; exact hlen
      have hnl2 : nl.length = k * ti.cells := by rw [← lenL_eq]; exact hnll
      have hn2 : (n + k) * ti.cells = row.n + nl.length := by rw [Nat.add_mul, hb1, hnl2]
      have hrow : ∀ cs' : Array Value, (∀ j, j < row.n → cs'[j]? = cs[j]?) → (∀ j v, news[j]? = some v → cs'[row.n + j]? = some v) → RowR r (Row.puts ⟨(n + k) * ti.cells, row.sz, row.z, row.t⟩ row.n nl) cs' := by
        intro cs' hc1 hc2 j v hv
        rw [Row.puts_get] at hv
        split at hv
        · rename_i hj
          obtain ⟨q, h3, h4⟩ := hnl.nth hv
          refine ⟨q, ?_, h4⟩
          have := hc2 _ q h3
          rwa [Nat.add_sub_cancel' hj.1] at this
        · rename_i hj
          have hlt : j < (n + k) * ti.cells := Row.get_some hv
          have hjn : j < row.n := by
            rcases Nat.lt_or_ge j row.n with h | h
            · exact h
            · exact absurd ⟨h, by omega, hlt⟩ hj
          obtain ⟨q, h3, h4⟩ := hr j v (Row.get_grow hv hjn)
          exact ⟨q, by rw [hc1 j hjn]; exact h3, h4⟩
      have hnx := hm.dom nx (Nat.le_refl _)
      have hinx : i ≠ nx := by omega
      have hget : ∀ (o : AObj) (j : Nat), j < nx → r.σ j = none → ((M.del i).set nx o).get j = M.get j := by
        intro o j hj hsj
        rw [T.get_set, if_neg (by omega), T.get_del, if_neg (fun e => by subst e; rw [hs] at hsj; cases hsj)]
      by_cases hroom : n + k ≤ cap
      · -- it stays
        have hfit : row.n + 0 + news.length ≤ cs.size := by
          rw [hlen, hcs, ← hb1, Nat.add_zero, ← Nat.add_mul]
          exact Nat.mul_le_mul_right _ (by omega)
        have hst := storeCells_fz (P := P) bk row.n e fz news 0 cs w hxo hfz hfit hone
        simp only [Nat.add_zero] at hst
        have hadd : (⟨bk, 0, none⟩ : Addr).add (n * inf.size) = ⟨bk, row.n, none⟩ := by rw [Addr.add_lit, hsz, hb1, Nat.zero_add]
        have hrun := ha.room ⟨bk, 0, none⟩ n cap _ hroom (by rw [hadd]; exact hst)
        have hcs2 : (cs.toList.take row.n ++ news ++ cs.toList.drop (row.n + news.length)).toArray.size = cs.size := by simp; omega
        have hobj : ObjOk P r i (.row (Row.puts ⟨(n + k) * ti.cells, row.sz, row.z, row.t⟩ row.n nl) e) (.cells (cs.toList.take row.n ++ news ++ cs.toList.drop (row.n + news.length)).toArray e fz) := by
          have hseg := seg_get (cur := cs.toList) (us := news) (off := row.n) (by simp; omega)
          refine ⟨_, fz, rfl, ?_, ?_, by rw [hcs2]; exact hfz, hrow _ (fun j hj => ?_) (fun j v hj => ?_)⟩
          · rw [Row.puts_n, hcs2]
            show (n + k) * ti.cells ≤ cs.size
            rw [hcs]; exact Nat.mul_le_mul_right _ (by omega)
          · rw [hcs2, (hT.ty e ti hti).cellsOf]; exact hcs
          · simp only [List.getElem?_toArray]
            rw [hseg, if_neg (by omega)]; simp
          · simp only [List.getElem?_toArray]
            have hjl : j < news.length := (List.getElem?_eq_some_iff.1 hj).1
            rw [hseg, if_pos ⟨by omega, by omega⟩, Nat.add_sub_cancel_left]; exact hj
        have hstep := StepR.upd (o' := .row (Row.puts ⟨(n + k) * ti.cells, row.sz, row.z, row.t⟩ row.n nl) e) hm hb3 hs hg hobj (setRow_heap w bk cs _ e fz hxo) (fun k hk => by
          simp only [World.setRow, Array.getElem?_modify]
          rw [if_neg (fun e => hk e.symm)]) (by simp [World.setRow]) rfl rfl rfl
        have hren := hstep.mem.rename hs (by rw [T.get_set, if_pos rfl])
        refine ⟨_, _, _, hrun, ?_, ⟨Rl.le_add hnx.1, hren.sub ?_, Nat.le_succ _, fun j hj hsj => ⟨?_, .inl (hget _ j hj hsj)⟩, fun j hj hjn => ?_, fun j hj => ?_⟩⟩
        · simp only [Den]
          exact ⟨bk, cap, add_self, ⟨⟨_, add_self⟩, by rw [add_cap]; exact hc⟩, hroom, rfl⟩
        · intro j o hj
          rw [T.get_set, T.get_del] at hj ⊢
          rw [T.get_set]
          split at hj
          · rename_i e1; rw [if_pos e1]; exact hj
          · rename_i e1
            rw [if_neg e1]
            split at hj
            · cases hj
            · rename_i e2; rw [if_neg e2, if_neg e2]; exact hj
        · simp only [Rl.add]; rw [if_neg (by omega)]; exact hsj
        · rw [T.get_set, if_neg (by omega), T.get_del, if_neg (by omega)]
        · rw [T.get_set, if_neg (by omega), T.get_del]
          split
          · exact LcO.none _
          · exact LcO.refl _
      · -- it moves
        have hol : (cs.toList.take row.n).length = row.n := by simp; omega
        have holds : (Builtin.firstCells inf.size n (.slice (some ⟨bk, 0, none⟩) n cap)).run P w.drew = .ok (cs.toList.take row.n).toArray w.drew := by
          show (loadCells ⟨bk, 0, none⟩ (n * inf.size)).run P w.drew = _
          rw [hsz, hb1, ← hol]
          have := run_loadMany (P := P) (w := w.drew) (a := ⟨bk, 0, none⟩) (cs.toList.take row.n) (fun j v hj => by
            have hx2 : w.drew.heap[bk]? = some (.cells cs e fz) := hxo
            rw [cell_add hx2, Nat.zero_add]
            rw [List.getElem?_take] at hj
            split at hj
            · simpa using hj
            · cases hj)
          rw [hol] at this ⊢
          exact this
        have hcap : cap < n + k := by omega
        have hrun := ha.grow (some ⟨bk, 0, none⟩) n cap _ hcap h1 (by rw [hby]; exact h2) holds
        have hge := grownCap_ge w (n + k) cap e
        have hd := StepR.del (ro := ro) hm hb3
        have hlen2 : (cs.toList.take row.n ++ news).length = (n + k) * ti.cells := by rw [List.length_append, hol, hlen, Nat.add_mul, hb1]
        have hcs3 : ((cs.toList.take row.n ++ news).toArray ++ Builtin.zeroCells z.cells (grownCap w (n + k) cap e - (n + k))).size = grownCap w (n + k) cap e * ti.cells := by
          rw [Array.size_append, size_zeroCells, List.size_toArray, hlen2, hzs, ← Nat.add_mul]
          congr 1; omega
        have hnew := StepR.new (ro := ro) (o := .row (Row.puts ⟨(n + k) * ti.cells, row.sz, row.z, row.t⟩ row.n nl) e) (cap := grownCap w (n + k) cap e)
          (x := .cells ((cs.toList.take row.n ++ news).toArray ++ Builtin.zeroCells z.cells (grownCap w (n + k) cap e - (n + k))) e (0, 0))
          (w' := w.drew.alloc (.cells ((cs.toList.take row.n ++ news).toArray ++ Builtin.zeroCells z.cells (grownCap w (n + k) cap e - (n + k))) e)) hd.mem (by
            refine ⟨_, (0, 0), rfl, ?_, ?_, .inl rfl, RowR.mono (Rl.le_add hnx.1) (hrow _ (fun j hj => ?_) (fun j v hj => ?_))⟩
            · rw [Row.puts_n, hcs3]; exact Nat.mul_le_mul_right _ hge
            · rw [hcs3, add_cap, (hT.ty e ti hti).cellsOf]
            · rw [Array.getElem?_append_left (by simp; omega)]
              simp only [List.getElem?_toArray]
              rw [List.getElem?_append_left (by rw [hol]; exact hj), List.getElem?_take, if_pos hj]
              simp
            · have hjl : j < news.length := (List.getElem?_eq_some_iff.1 hj).1
              rw [Array.getElem?_append_left (by simp; omega)]
              simp only [List.getElem?_toArray]
              rw [List.getElem?_append_right (by rw [hol]; omega), hol, Nat.add_sub_cancel_left]
              exact hj) rfl rfl rfl rfl hro
        refine ⟨_, _, _, hrun, ?_, hd.trans hnew⟩
        simp only [Den]
        exact ⟨_, _, add_self, ⟨⟨_, add_self⟩, by rw [add_cap]; rfl⟩, hge, rfl⟩
    · cases h
  · cases h

theorem append1_ok (hT : TbOk P b) (hm : MemR P w0 S r M nx w) (hro : ro ≤ nx) {t t2 ty e k : Nat} {inf : TypeInfo} {z x u : Value} {s : CV} {news : List Value} {nl : List CV} {ti : TI} {c : CV} {M' : T AObj} {nx' : Nat}
    (hti : b.ty e = some ti) (hsz : inf.size = ti.cells) (hby : inf.bytes = ti.bytes) (hzs : z.cells.size = ti.cells) (ha : ArgOk P w t t2 ty e inf z x k news) (hnl : DenL r nl news) (hlen : news.length = k * ti.cells) (hk : 0 < k)
    (hs : Den r s u) (h : append1 ro M nx e s nl k ti = .ok c M' nx') :
    ARun P w0 w S ro r M nx (Builtin.append_ #[t, t2] ty #[u, x]) c M' nx' := by
  unfold append1 at h
  split at h
  · simp only [Den] at hs; subst hs
    exact appNew_ok (olds := []) hT hm hro hti hsz hby hzs ha (by simpa using hnl) (by simpa using hlen) (by omega) (by rfl) h
  · rename_i i off n cc
    have hs0 := hs
    simp only [Den] at hs
    obtain ⟨bk, cap, hs, hc, hn, rfl⟩ := hs
    have hc : cap = cc := hc
    subst hc
    split at h
    · rename_i hb
      have hb := ble_t hb
      split at h
      · rename_i M2 hp
        injection h with e1 e2 e3
        subst e1 e2 e3
        obtain ⟨w', hrun, hst⟩ := puts_run hm hs hp hnl
        have hadd : (⟨bk, off, none⟩ : Addr).add (n * inf.size) = ⟨bk, off + n * ti.cells, none⟩ := by rw [Addr.add_lit, hsz]
        refine ⟨_, w', r, ha.room ⟨bk, off, none⟩ n cap w' hb (by rw [hadd]; exact hrun), ?_, hst⟩
        simp only [Den]
        exact ⟨bk, cap, hs, rfl, hb, rfl⟩
      · cases h
    · rename_i hb
      have hb := ble_f hb
      split at h
      · rename_i old hold
        obtain ⟨us, h1, h2, h3, _⟩ := cells_ok (P := P) hm.drew hold hs0 (fun m e => by simp [lenC] at e; omega)
        refine appNew_ok hT hm hro hti hsz hby hzs ha (h2.append hnl) ?_ hb (by rw [hsz]; exact h1) h
        rw [List.length_append, h3 _ _ _ _ rfl, hlen, Nat.add_mul]
      · cases h
  · rename_i i n
    split at h
    · rename_i row e' hg
      exact appRow_ok hT hm hro hti hsz hby hzs ha hnl hlen hg hs h
    · cases h
  · cases h

theorem isSl_ok {s : CV} {u : Value} (h : isSl s = true) (hd : Den r s u) : ∃ A n c, u = .slice A n c ∧ n ≤ c := by
  cases s <;> simp only [isSl, Bool.false_eq_true] at h
  · simp only [Den] at hd; obtain ⟨_, _, _, _, h1, rfl⟩ := hd; exact ⟨_, _, _, rfl, h1⟩
  · simp only [Den] at hd; obtain ⟨_, _, _, _, rfl⟩ := hd; exact ⟨_, _, _, rfl, Nat.zero_le _⟩
  · simp only [Den] at hd; subst hd; exact ⟨_, _, _, rfl, Nat.le_refl _⟩

theorem slLen {s : CV} {u : Value} {k : Nat} (h : isSl s = true) (hk : lenC s = some k) (hd : Den r s u) : ∃ A c, u = .slice A k c := by
  cases s <;> simp only [isSl, Bool.false_eq_true] at h <;> simp only [lenC, Option.some.injEq] at hk <;> subst hk
  · simp only [Den] at hd; obtain ⟨_, _, _, _, h1, rfl⟩ := hd; exact ⟨_, _, rfl⟩
  · simp only [Den] at hd; obtain ⟨_, _, _, _, rfl⟩ := hd; exact ⟨_, _, rfl⟩
  · simp only [Den] at hd; subst hd; exact ⟨_, _, rfl⟩

theorem app_zero {t t2 ty e e2 : TypeId} {i : TypeInfo} {x : Value} {A : Option Addr} {n cap : Nat} (ht : P.underlying t = some (.slice e)) (ht2 : P.underlying t2 = some (.slice e2)) (hi : P.info? e = some i)
    (hlen : ∃ ob c, x = .slice ob 0 c) (hnews : (Builtin.firstCells i.size 0 x).run P w = .ok #[] w) (hroom : n ≤ cap) :
    (Builtin.append_ #[t, t2] ty #[.slice A n cap, x]).run P w = .ok (.slice A n cap) w := by
  obtain ⟨ob, c, rfl⟩ := hlen
  cases A <;> simp [Builtin.append_, run_underlying ht, run_underlying ht2, sizeOf, typeInfo, hi, Builtin.lenOf, hroom, hnews, storeCells]
theorem app_zeroI {t t2 ty e : TypeId} {ik ik2 : IntKind} {i : TypeInfo} {A : Option Addr} {n cap : Nat} (ht : P.underlying t = some (.slice e)) (ht2 : P.underlying t2 = some (.int ik)) (hi : P.info? e = some i) (hroom : n ≤ cap) :
    (Builtin.append_ #[t, t2] ty #[.slice A n cap, .int ik2 0]).run P w = .ok (.slice A n cap) w := by
  have e1 : IntKind.i64.wrap 0 = 0 := by decide
  cases A <;> simp [Builtin.append_, run_underlying ht, run_underlying ht2, sizeOf, typeInfo, hi, asInt, asIntOf, e1, hroom, storeCells]

theorem nth_repC (l : List CV) : ∀ (n j : Nat), nth (repC n l) j = if j < n * l.length then nth l (j % l.length) else none
  | 0, j => by simp [repC, CE.nth]
  | n + 1, j => by
    simp only [repC]
    rw [nth_eq, List.getElem?_append]
    by_cases hj : j < l.length
    · rw [if_pos hj, if_pos (by rw [Nat.add_mul]; omega), Nat.mod_eq_of_lt hj, nth_eq]
    · rw [if_neg hj, ← nth_eq, nth_repC l n]
      have e1 : (n + 1) * l.length = n * l.length + l.length := by rw [Nat.add_mul]; omega
      have e2 : (j - l.length) % l.length = j % l.length := by rw [Nat.mod_eq_sub_mod (a := j) (by omega)]
      rw [e2, e1]
      by_cases h : j - l.length < n * l.length
      · rw [if_pos h, if_pos (by omega)]
      · rw [if_neg h, if_neg (by omega)]
theorem repC_len (l : List CV) : ∀ n, (repC n l).length = n * l.length
  | 0 => by simp [repC]
  | n + 1 => by simp only [repC, List.length_append, repC_len l n, Nat.add_mul]; omega
theorem repC_ok {l : List CV} {zs : Array Value} (h : DenL r l zs.toList) (n : Nat) : DenL r (repC n l) (Builtin.zeroCells zs n).toList := by
  have e : (Builtin.zeroCells zs n).toList = (List.replicate n zs.toList).flatten := by
    have hz : zs.toList.length = zs.size := by simp
    induction n with
    | zero => simp [Builtin.zeroCells]
    | succ n ih =>
      rw [List.replicate_succ, List.flatten_cons, ← ih]
      apply List.ext_getElem?
      intro j
      simp only [Builtin.zeroCells, Array.toList_map, Array.toList_range, List.getElem?_map, List.getElem?_append, hz]
      by_cases h0 : zs.size = 0
      · simp [h0]
      · by_cases hj : j < zs.size
        · rw [if_pos hj, List.getElem?_range (by rw [Nat.add_mul]; omega)]
          simp [Nat.mod_eq_of_lt hj, hj]
        · rw [if_neg hj]
          have e2 : (j - zs.size) % zs.size = j % zs.size := by rw [Nat.mod_eq_sub_mod (a := j) (by omega)]
          by_cases h : j - zs.size < n * zs.size
          · rw [List.getElem?_range (by rw [Nat.add_mul]; omega), List.getElem?_range h]
            simp [e2]
          · rw [List.getElem?_eq_none (by simp only [List.length_range]; rw [Nat.add_mul]; omega), List.getElem?_eq_none (by simp; omega)]
  rw [e]
  clear e
  induction n with
  | zero => simp [repC, DenL]
  | succ n ih =>
    rw [List.replicate_succ, List.flatten_cons]
    exact h.append ih

theorem l_append (hT : TbOk P b) (hm : MemR P w0 S r M nx w) (hro : ro ≤ nx) {args : Array Operand} {tys : Array TypeId} {ty : TypeId} {c : CV} {M' : T AObj} {nx' : Nat} (hρ : OpsR r E ρ args.toList) (h : lAppend b ro E M nx args tys = .ok c M' nx') :
    ARun P w0 w S ro r M nx (Builtin.append_ tys ty (args.map ρ)) c M' nx' := by
  unfold lAppend at h
  split at h
  · rename_i s x t t2 hev htys
    have hd := evs_ok hρ hev
    simp only [DenL] at hd
    obtain ⟨u, ur, hs, ⟨v, vr, hx, rfl, rfl⟩, hargs⟩ := hd
    have hargs : args.map ρ = #[u, v] := by apply Array.toList_inj.1; simpa using hargs
    have htys : tys = #[t, t2] := by apply Array.toList_inj.1; simpa using htys
    rw [hargs, htys]
    split at h
    · rename_i e n1 b1 z1 q1 ht
      have htt := (hT.ty t _ ht).slice rfl
      split at h
      · rename_i ti hti
        have hty := hT.ty e ti hti
        obtain ⟨i, hi, _, hc, hb, _⟩ := hty.ex
        obtain ⟨inf, z, g1, g2, g3, g4, g5⟩ := zeroOf hi
        obtain ⟨z2, zs, hz1, hz2, hz3⟩ := hty.zero (P := P) (w := w) r
        have hzz : z2 = z := by
          have : (zeroValue e).run P w = .ok z w := by simp [zeroValue, typeInfo, g1, g2]
          rw [this] at hz1; injection hz1 with hz1; exact hz1.symm
        subst hzz
        have hsz : inf.size = ti.cells := by rw [g3, hc]
        have hby : inf.bytes = ti.bytes := by rw [g4, hb]
        have hzs : z2.cells.size = ti.cells := by rw [hz2]; simp [hz3.len, hty.len]
        split at h
        · rename_i n2 b2 z3 q2 hpos ht2
          have hpos := blt_t hpos
          have htt2 := (hT.ty t2 _ ht2).int rfl
          split at h
          · rename_i ik k
            split at h
            · rename_i hk1 hk2
              have hk1 := ble_t hk1
              have hk2 := ble_t hk2
              simp only [Den] at hx; subst hx
              cases k with
              | zero =>
                simp only [appendC] at h
                split at h
                · rename_i hsl
                  injection h with e1 e2 e3
                  subst e1 e2 e3
                  obtain ⟨A, n, cp, rfl, hle⟩ := isSl_ok hsl hs
                  exact ⟨_, w, r, app_zeroI htt htt2 g1 hle, hs, StepR.refl hm⟩
                · cases h
              | succ k =>
                refine append1_ok (news := (Builtin.zeroCells z2.cells (k + 1)).toList) hT hm hro hti hsz hby hzs ⟨fun a n cap w' h1 h2 => ?_, fun base n cap olds h1 h2 h3 h4 => ?_⟩ (repC_ok (by rw [hz2]; simpa using hz3) (k + 1)) ?_ (Nat.succ_pos _) hs h
                · exact app_roomI htt htt2 g1 g2 (Nat.succ_pos _) hk1 (by rw [hby]; exact hk2) (by omega) h1 h2
                · have := app_growI (ty := ty) (ik2 := ik) htt htt2 g1 g2 (Nat.succ_pos _) hk1 (by rw [hby]; exact hk2) (by omega) h4 h1 h2 h3
                  refine this.trans ?_
                  rw [← toArr_append]
                · rw [Array.length_toList, size_zeroCells, hzs]
            · cases h
          · cases h
        · rename_i e2 n2 b2 z3 q2 hpos ht2
          have hpos := blt_t hpos
          have htt2 := (hT.ty t2 _ ht2).slice rfl
          split at h
          · rename_i k hk hsx
            split at h
            · rename_i l hl
              obtain ⟨ob, cc, rfl⟩ := slLen hsx hk hx
              cases k with
              | zero =>
                simp only [appendC] at h
                split at h
                · rename_i hsl
                  injection h with e1 e2 e3
                  subst e1 e2 e3
                  obtain ⟨A, n, cp, rfl, hle⟩ := isSl_ok hsl hs
                  exact ⟨_, w, r, app_zero htt htt2 g1 ⟨_, _, rfl⟩ (by cases ob <;> simp [Builtin.firstCells, loadCells, loadCellsFrom]) hle, hs, StepR.refl hm⟩
                · cases h
              | succ k =>
                obtain ⟨us, h1, h2, h3, _⟩ := cells_ok' (P := P) hm hl hx (fun m e => by rw [hk] at e; cases e; exact Nat.le_refl _)
                refine append1_ok (news := us) hT hm hro hti hsz hby hzs ⟨fun a n cap w' h5 h6 => ?_, fun base n cap olds h5 h6 h7 h8 => ?_⟩ h2 ?_ (Nat.succ_pos _) hs h
                · exact app_room htt htt2 g1 ⟨_, _, rfl⟩ (by rw [hsz]; exact h1 w rfl) h5 h6
                · have := app_grow (ty := ty) htt htt2 g1 g2 ⟨_, _, rfl⟩ h8 (by rw [hsz]; exact h1 w.drew rfl) h5 h6 h7
                  refine this.trans ?_
                  rw [← toArr_append]
                · cases x <;> simp only [isSl, Bool.false_eq_true] at hsx <;> simp only [lenC, Option.some.injEq, reduceCtorEq] at hk
                  subst hk; exact h3 _ _ _ _ rfl
            · cases h
          · cases h
        · cases h
      · cases h
    · cases h
  · cases h

/-! ## copy, clear -/
theorem l_copy (hT : TbOk P b) (hm : MemR P w0 S r M nx w) {args : Array Operand} {tys : Array TypeId} {ty : TypeId} {c : CV} {M' : T AObj} {nx' : Nat} (hρ : OpsR r E ρ args.toList) (h : lCopy b ro E M nx args tys = .ok c M' nx') :
    ARun P w0 w S ro r M nx (Builtin.copy_ tys ty (args.map ρ)) c M' nx' := by
  unfold lCopy at h
  split at h
  · rename_i i off dn dc x t t2 hev htys
    have hd := evs_ok hρ hev
    simp only [DenL] at hd
    obtain ⟨u, ur, hs, ⟨v, vr, hx, rfl, rfl⟩, hargs⟩ := hd
    have hargs : args.map ρ = #[u, v] := by apply Array.toList_inj.1; simpa using hargs
    have htys : tys = #[t, t2] := by apply Array.toList_inj.1; simpa using htys
    rw [hargs, htys]
    split at h
    · rename_i e n1 b1 z1 q1 ht
      have htt := (hT.ty t _ ht).slice rfl
      split at h
      · rename_i ti xn hti hxn
        have hsize := (hT.ty e ti hti).size (P := P) (w := w)
        split at h
        · rename_i l hl
          split at h
          · rename_i M2 hp
            injection h with e1 e2 e3
            subst e1 e2 e3
            simp only [Den] at hs
            obtain ⟨bk, cap, hs, hc, hn, rfl⟩ := hs
            obtain ⟨us, h1, h2, _⟩ := cells_ok (P := P) hm hl hx (fun m e => by rw [hxn] at e; cases e; exact Nat.min_le_left _ _)
            obtain ⟨w', hrun, hst⟩ := puts_run hm hs hp h2
            have hlen := lenC_ok (P := P) (w := w) hxn hx
            refine ⟨goInt (Nat.min xn dn), w', r, ?_, by rw [mkI_eq]; simp only [Den]; rfl, hst⟩
            simp [Builtin.copy_, run_underlying htt, hlen, hsize, h1, hrun]
          · cases h
        · cases h
      · cases h
    · cases h
  · cases h

theorem l_clear (hT : TbOk P b) (hm : MemR P w0 S r M nx w) {args : Array Operand} {tys : Array TypeId} {ty : TypeId} {c : CV} {M' : T AObj} {nx' : Nat} (hρ : OpsR r E ρ args.toList) (h : lClear b ro E M nx args tys = .ok c M' nx') :
    ARun P w0 w S ro r M nx (Builtin.clear_ tys ty (args.map ρ)) c M' nx' := by
  unfold lClear at h
  split at h
  · rename_i i off n dc t hev htys
    have hd := evs_ok hρ hev
    simp only [DenL] at hd
    obtain ⟨u, ur, hs, rfl, hargs⟩ := hd
    have hargs : args.map ρ = #[u] := by apply Array.toList_inj.1; simpa using hargs
    have htys : tys = #[t] := by apply Array.toList_inj.1; simpa using htys
    rw [hargs, htys]
    split at h
    · rename_i e n1 b1 z1 q1 ht
      have htt := (hT.ty t _ ht).slice rfl
      split at h
      · rename_i ti hti
        obtain ⟨z, zs, hz1, hz2, hz3⟩ := (hT.ty e ti hti).zero (P := P) (w := w) r
        split at h
        · rename_i M2 hp
          injection h with e1 e2 e3
          subst e1 e2 e3
          simp only [Den] at hs
          obtain ⟨bk, cap, hs, hc, hn, rfl⟩ := hs
          obtain ⟨w', hrun, hst⟩ := puts_run hm hs hp (repC_ok (zs := z.cells) (by rw [hz2]; simpa using hz3) (n + 1))
          refine ⟨.tuple #[], w', r, ?_, den_undef, hst⟩
          simp [Builtin.clear_, run_underlying htt, hz1, hrun]
        · cases h
      · cases h
    · cases h
  · cases h
end a
end Go.Proofs.YtaodejbcmaeaaaaGreat.CE
