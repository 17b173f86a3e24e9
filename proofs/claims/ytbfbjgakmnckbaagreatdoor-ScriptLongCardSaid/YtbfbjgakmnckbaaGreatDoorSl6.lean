/- The script's kinds, told: what each function over an act says of it. Written by program (gen/gentel.py). No statement of the seat is proved here. -/
import Derived.Test.YtbfbjgakmnckbaaGreatDoorSl5
namespace Go.Proofs.YtbfbjgakmnckbaaGreatDoor
open Go Go.RowKit Eng
attribute [local irreducible] Br Rn RnU Cl RdG CpG Ld Rd Lp Dr Oth Cut fin Fits Eng.Enters Md NA

/-- All numbers of an act have Go's numerals. -/
structure NumAct (w : World) (x : PAct) : Prop where
 at_ : NumOk w x.at_
 n : NumOk w x.n
 bits : NumOk w x.bits
 order : NumOk w x.order
 keep : NumOk w x.keep
 picks : ∀ p ∈ x.picks, NumOk w p
/-- What the teller says at a letter, and what it leaves. -/
def telL (c : UInt8) (x : PAct) : Option (ByteArray × PAct) :=
 if c = 97 then (if nameB x.name then some (x.name, { x with name := Str [] }) else none)
 else if c = 111 then (if nameB x.other then some (x.other, { x with other := Str [] }) else none)
 else if c = 79 then (if x.other = Str [] then some (Str [45], x) else if nameB x.other then some (x.other, { x with other := Str [] }) else none)
 else if c = 116 then (if nameB x.third then some (x.third, { x with third := Str [] }) else none)
 else if c = 65 then some (Str (Lib.itoa x.at_), { x with at_ := 0 })
 else if c = 78 then some (Str (Lib.itoa x.n), { x with n := 0 })
 else if c = 66 then some (Str (Lib.itoa x.bits), { x with bits := 0 })
 else if c = 82 then some (Str (Lib.itoa x.order), { x with order := 0 })
 else if c = 120 then (if x.bytes.length ≤ 524288 then some (Str (hexF x.bytes), { x with bytes := [] }) else none)
 else some (Str (flagW (c.toNat : Int) x.on), { x with on := false })
def telF : List UInt8 → PAct → Option (List ByteArray × PAct)
 | [], x => some ([], x)
 | c :: f, x => match telL c x with
  | none => none
  | some (s, x') => match telF f x' with
   | none => none
   | some (ws, x'') => some (s :: ws, x'')
theorem telF_append : ∀ (f g : List UInt8) (x : PAct), telF (f ++ g) x = match telF f x with
  | none => none
  | some (ws, x') => match telF g x' with
   | none => none
   | some (vs, x'') => some (ws ++ vs, x'')
 | [], g, x => by
  simp only [List.nil_append, telF]
  cases telF g x <;> rfl
 | c :: f, g, x => by
  simp only [List.cons_append, telF]
  cases telL c x with
  | none => rfl
  | some p =>
   simp only [telF_append f g p.2]
   cases telF f p.2 with
   | none => rfl
   | some q =>
    simp only
    cases telF g q.2 <;> rfl
theorem telF_len : ∀ {f : List UInt8} {x : PAct} {ws : List ByteArray} {x' : PAct}, telF f x = some (ws, x') → ws.length = f.length
 | [], x, ws, x', h => by simp only [telF, Option.some.injEq, Prod.mk.injEq] at h; rw [← h.1]; rfl
 | c :: f, x, ws, x', h => by
  simp only [telF] at h
  cases h1 : telL c x with
  | none => rw [h1] at h; cases h
  | some p =>
   rw [h1] at h
   simp only at h
   cases h2 : telF f p.2 with
   | none => rw [h2] at h; cases h
   | some q =>
    rw [h2] at h
    simp only [Option.some.injEq, Prod.mk.injEq] at h
    rw [← h.1, List.length_cons, List.length_cons, telF_len h2]
/-- What becomes of one letter. -/
def LetR (c : UInt8) (tB n : Nat) (xs : List Value) (aB : Nat) (x : PAct) (bA pA : Option Addr) (pc : Nat) (e : Ending) (m' : Mem) : Prop :=
 (telL c x = none ∧ e = .panicked (refusal 2)) ∨ ∃ s x' A' cap' bA' bc', telL c x = some (s, x') ∧ e = .returned (.tuple #[]) ∧ x'.Ok ∧ (∀ w, NumAct w x → NumAct w x') ∧ (∀ w, BytsIn w bA x.bytes → BytsIn w bA' x'.bytes) ∧ x'.picks = x.picks ∧ m' = TM tB A' cap' (n + 1) (xs ++ [.string s]) aB x' bA' pA bc' pc
/-- What becomes of an act that is told. -/
def OverR (r : Option (List ByteArray × PAct)) (tB n : Nat) (xs : List Value) (aB : Nat) (x : PAct) (bA pA : Option Addr) (e : Ending) (m' : Mem) : Prop :=
 (r = none ∧ e = .panicked (refusal 2)) ∨ ∃ ws x' A' cap' bA' bc' pA' pc' N XS, r = some (ws, x') ∧ e = .returned (.tuple #[]) ∧ x'.Ok ∧ (∀ w, NumAct w x → NumAct w x') ∧ (∀ w, BytsIn w bA x.bytes → BytsIn w bA' x'.bytes) ∧ (∀ w, IntsIn .i64 w pA x.picks → IntsIn .i64 w pA' x'.picks) ∧ N = n + ws.length ∧ XS = xs ++ ws.map Value.string ∧ m' = TM tB A' cap' N XS aB x' bA' pA' bc' pc'
theorem zero_ok {w : World} {n : Int} (_ : NumOk w n) : NumOk w 0 := ⟨by omega, .inr (by omega)⟩
theorem tname_enters : Eng.Enters Tryz.prog 189 := enters_mk fun _ _ => by kernel_rfl
theorem mdT_name (cx : Cx) (hP : cx.P = Tryz.prog) (tB : Nat) : Md cx 124 (.pointer (some ⟨tB, 0, none⟩)) "palimpsest/script.name" 189 (.pointer (some ⟨tB, 0, none⟩)) := by
 unfold Md; intro W; rw [hP]; kernel_rfl
theorem naT_name (cx : Cx) (hP : cx.P = Tryz.prog) (tB : Nat) : NA cx 124 (.pointer (some ⟨tB, 0, none⟩)) "palimpsest/script.name" := by
 unfold NA; intro W; rw [hP]; kernel_rfl
theorem tlong_enters : Eng.Enters Tryz.prog 188 := enters_mk fun _ _ => by kernel_rfl
theorem mdT_long (cx : Cx) (hP : cx.P = Tryz.prog) (tB : Nat) : Md cx 124 (.pointer (some ⟨tB, 0, none⟩)) "palimpsest/script.long" 188 (.pointer (some ⟨tB, 0, none⟩)) := by
 unfold Md; intro W; rw [hP]; kernel_rfl
theorem naT_long (cx : Cx) (hP : cx.P = Tryz.prog) (tB : Nat) : NA cx 124 (.pointer (some ⟨tB, 0, none⟩)) "palimpsest/script.long" := by
 unfold NA; intro W; rw [hP]; kernel_rfl
theorem twhole_enters : Eng.Enters Tryz.prog 192 := enters_mk fun _ _ => by kernel_rfl
theorem mdT_whole (cx : Cx) (hP : cx.P = Tryz.prog) (tB : Nat) : Md cx 124 (.pointer (some ⟨tB, 0, none⟩)) "palimpsest/script.whole" 192 (.pointer (some ⟨tB, 0, none⟩)) := by
 unfold Md; intro W; rw [hP]; kernel_rfl
theorem naT_whole (cx : Cx) (hP : cx.P = Tryz.prog) (tB : Nat) : NA cx 124 (.pointer (some ⟨tB, 0, none⟩)) "palimpsest/script.whole" := by
 unfold NA; intro W; rw [hP]; kernel_rfl
theorem tflag_enters : Eng.Enters Tryz.prog 187 := enters_mk fun _ _ => by kernel_rfl
theorem mdT_flag (cx : Cx) (hP : cx.P = Tryz.prog) (tB : Nat) : Md cx 124 (.pointer (some ⟨tB, 0, none⟩)) "palimpsest/script.flag" 187 (.pointer (some ⟨tB, 0, none⟩)) := by
 unfold Md; intro W; rw [hP]; kernel_rfl
theorem naT_flag (cx : Cx) (hP : cx.P = Tryz.prog) (tB : Nat) : NA cx 124 (.pointer (some ⟨tB, 0, none⟩)) "palimpsest/script.flag" := by
 unfold NA; intro W; rw [hP]; kernel_rfl
theorem tdata_enters : Eng.Enters Tryz.prog 185 := enters_mk fun _ _ => by kernel_rfl
theorem mdT_data (cx : Cx) (hP : cx.P = Tryz.prog) (tB : Nat) : Md cx 124 (.pointer (some ⟨tB, 0, none⟩)) "palimpsest/script.data" 185 (.pointer (some ⟨tB, 0, none⟩)) := by
 unfold Md; intro W; rw [hP]; kernel_rfl
theorem naT_data (cx : Cx) (hP : cx.P = Tryz.prog) (tB : Nat) : NA cx 124 (.pointer (some ⟨tB, 0, none⟩)) "palimpsest/script.data" := by
 unfold NA; intro W; rw [hP]; kernel_rfl
theorem tfate_enters : Eng.Enters Tryz.prog 186 := enters_mk fun _ _ => by kernel_rfl
theorem mdT_fate (cx : Cx) (hP : cx.P = Tryz.prog) (tB : Nat) : Md cx 124 (.pointer (some ⟨tB, 0, none⟩)) "palimpsest/script.fate" 186 (.pointer (some ⟨tB, 0, none⟩)) := by
 unfold Md; intro W; rw [hP]; kernel_rfl
theorem naT_fate (cx : Cx) (hP : cx.P = Tryz.prog) (tB : Nat) : NA cx 124 (.pointer (some ⟨tB, 0, none⟩)) "palimpsest/script.fate" := by
 unfold NA; intro W; rw [hP]; kernel_rfl
theorem tpicks_enters : Eng.Enters Tryz.prog 190 := enters_mk fun _ _ => by kernel_rfl
theorem mdT_picks (cx : Cx) (hP : cx.P = Tryz.prog) (tB : Nat) : Md cx 124 (.pointer (some ⟨tB, 0, none⟩)) "palimpsest/script.picks" 190 (.pointer (some ⟨tB, 0, none⟩)) := by
 unfold Md; intro W; rw [hP]; kernel_rfl
theorem naT_picks (cx : Cx) (hP : cx.P = Tryz.prog) (tB : Nat) : NA cx 124 (.pointer (some ⟨tB, 0, none⟩)) "palimpsest/script.picks" := by
 unfold NA; intro W; rw [hP]; kernel_rfl
section
variable (tB : Nat) (A : Option Addr) (cap n : Nat) (xs : List Value) (aB : Nat) (x : PAct) (bA pA : Option Addr) (bc pc : Nat) (w : World) (hn : n ≤ 1000000000) (hm : MemOk w (Foot (TM tB A cap n xs aB x bA pA bc pc)) (TM tB A cap n xs aB x bA pA bc pc) w) (hx : x.Ok)
include hn hm hx
theorem lN_any :
  Ctr Tryz.prog 189 [.pointer (some ⟨tB, 0, none⟩), .pointer (some ⟨aB, 1, none⟩), .bool false] (TM tB A cap n xs aB x bA pA bc pc) (LetR 97 tB n xs aB x bA pA pc) w := by
 refine (tname_any tB A cap n xs aB x bA pA bc pc w hn hm 1 (by decide) hx.name).mono ?_
 rintro e w' ⟨m', h, hm⟩
 refine ⟨m', ?_, hm⟩
 rcases h with ⟨h, rfl⟩ | ⟨h, rfl, A', cap', rfl⟩
 ·have h : nameB x.name = false := h
  exact .inl ⟨by show (if nameB x.name = true then _ else _) = _; rw [if_neg (by rw [h]; decide)], rfl⟩
 ·have h : nameB x.name = true := h
  exact .inr ⟨x.name, { x with name := Str [] }, A', cap', bA, bc, by show (if nameB x.name = true then _ else _) = _; rw [if_pos h], rfl, { hx with name := by show 0 ≤ _; omega }, fun w h => ⟨h.at_, h.n, h.bits, h.order, h.keep, h.picks⟩, fun _ h => h, rfl, rfl⟩
theorem lO_any :
  Ctr Tryz.prog 189 [.pointer (some ⟨tB, 0, none⟩), .pointer (some ⟨aB, 2, none⟩), .bool false] (TM tB A cap n xs aB x bA pA bc pc) (LetR 111 tB n xs aB x bA pA pc) w := by
 refine (tname_any tB A cap n xs aB x bA pA bc pc w hn hm 2 (by decide) hx.other).mono ?_
 rintro e w' ⟨m', h, hm⟩
 refine ⟨m', ?_, hm⟩
 rcases h with ⟨h, rfl⟩ | ⟨h, rfl, A', cap', rfl⟩
 ·have h : nameB x.other = false := h
  exact .inl ⟨by show (if nameB x.other = true then _ else _) = _; rw [if_neg (by rw [h]; decide)], rfl⟩
 ·have h : nameB x.other = true := h
  exact .inr ⟨x.other, { x with other := Str [] }, A', cap', bA, bc, by show (if nameB x.other = true then _ else _) = _; rw [if_pos h], rfl, { hx with other := by show 0 ≤ _; omega }, fun w h => ⟨h.at_, h.n, h.bits, h.order, h.keep, h.picks⟩, fun _ h => h, rfl, rfl⟩
theorem lT_any :
  Ctr Tryz.prog 189 [.pointer (some ⟨tB, 0, none⟩), .pointer (some ⟨aB, 3, none⟩), .bool false] (TM tB A cap n xs aB x bA pA bc pc) (LetR 116 tB n xs aB x bA pA pc) w := by
 refine (tname_any tB A cap n xs aB x bA pA bc pc w hn hm 3 (by decide) hx.third).mono ?_
 rintro e w' ⟨m', h, hm⟩
 refine ⟨m', ?_, hm⟩
 rcases h with ⟨h, rfl⟩ | ⟨h, rfl, A', cap', rfl⟩
 ·have h : nameB x.third = false := h
  exact .inl ⟨by show (if nameB x.third = true then _ else _) = _; rw [if_neg (by rw [h]; decide)], rfl⟩
 ·have h : nameB x.third = true := h
  exact .inr ⟨x.third, { x with third := Str [] }, A', cap', bA, bc, by show (if nameB x.third = true then _ else _) = _; rw [if_pos h], rfl, { hx with third := by show 0 ≤ _; omega }, fun w h => ⟨h.at_, h.n, h.bits, h.order, h.keep, h.picks⟩, fun _ h => h, rfl, rfl⟩
theorem lE_any :
  Ctr Tryz.prog 189 [.pointer (some ⟨tB, 0, none⟩), .pointer (some ⟨aB, 2, none⟩), .bool true] (TM tB A cap n xs aB x bA pA bc pc) (LetR 79 tB n xs aB x bA pA pc) w := by
 refine (toname_any tB A cap n xs aB x bA pA bc pc w hn hm hx.other).mono ?_
 rintro e w' ⟨m', h, hm⟩
 refine ⟨m', ?_, hm⟩
 rcases h with ⟨h1, h2, rfl⟩ | ⟨h, rfl, A', cap', rfl⟩
 ·exact .inl ⟨by show (if x.other = Str [] then _ else if nameB x.other = true then _ else _) = _; rw [if_neg h1, if_neg (by rw [h2]; decide)], rfl⟩
 ·by_cases h0 : x.other = Str []
  ·have hx0 : { x with other := Str [] } = x := by rw [← h0]
   exact .inr ⟨Str [45], x, A', cap', bA, bc, by show (if x.other = Str [] then _ else if nameB x.other = true then _ else _) = _; rw [if_pos h0], rfl, hx, fun _ h => h, fun _ h => h, rfl, by rw [if_pos h0, hx0]⟩
  ·exact .inr ⟨x.other, { x with other := Str [] }, A', cap', bA, bc, by show (if x.other = Str [] then _ else if nameB x.other = true then _ else _) = _; rw [if_neg h0, if_pos (h.resolve_left h0)], rfl, { hx with other := by show 0 ≤ _; omega }, fun w h => ⟨h.at_, h.n, h.bits, h.order, h.keep, h.picks⟩, fun _ h => h, rfl, by rw [if_neg h0]⟩
theorem lA_any (hv : Stb (TM tB A cap n xs aB x bA pA bc pc) w (fun w => NumAct w x)) :
  Ctr Tryz.prog 188 [.pointer (some ⟨tB, 0, none⟩), .pointer (some ⟨aB, 4, none⟩)] (TM tB A cap n xs aB x bA pA bc pc) (LetR 65 tB n xs aB x bA pA pc) w := by
 refine (tlong_any tB A cap n xs aB x bA pA bc pc w hn hm 4 (by decide) (fun w hf => (hv w hf).at_)).mono ?_
 rintro e w' ⟨m', h, hm⟩
 refine ⟨m', ?_, hm⟩
 obtain ⟨rfl, A', cap', rfl⟩ := h
 exact .inr ⟨Str (Lib.itoa x.at_), { x with at_ := 0 }, A', cap', bA, bc, rfl, rfl, { hx with at_ := by show (-9223372036854775808 : Int) ≤ 0 ∧ (0 : Int) ≤ 9223372036854775807; omega }, fun w h => ⟨zero_ok h.at_, h.n, h.bits, h.order, h.keep, h.picks⟩, fun _ h => h, rfl, rfl⟩
theorem lM_any (hv : Stb (TM tB A cap n xs aB x bA pA bc pc) w (fun w => NumAct w x)) :
  Ctr Tryz.prog 188 [.pointer (some ⟨tB, 0, none⟩), .pointer (some ⟨aB, 5, none⟩)] (TM tB A cap n xs aB x bA pA bc pc) (LetR 78 tB n xs aB x bA pA pc) w := by
 refine (tlong_any tB A cap n xs aB x bA pA bc pc w hn hm 5 (by decide) (fun w hf => (hv w hf).n)).mono ?_
 rintro e w' ⟨m', h, hm⟩
 refine ⟨m', ?_, hm⟩
 obtain ⟨rfl, A', cap', rfl⟩ := h
 exact .inr ⟨Str (Lib.itoa x.n), { x with n := 0 }, A', cap', bA, bc, rfl, rfl, { hx with n := by show (-9223372036854775808 : Int) ≤ 0 ∧ (0 : Int) ≤ 9223372036854775807; omega }, fun w h => ⟨h.at_, zero_ok h.n, h.bits, h.order, h.keep, h.picks⟩, fun _ h => h, rfl, rfl⟩
theorem lB_any (hv : Stb (TM tB A cap n xs aB x bA pA bc pc) w (fun w => NumAct w x)) :
  Ctr Tryz.prog 192 [.pointer (some ⟨tB, 0, none⟩), .pointer (some ⟨aB, 7, none⟩)] (TM tB A cap n xs aB x bA pA bc pc) (LetR 66 tB n xs aB x bA pA pc) w := by
 refine (twhole_any tB A cap n xs aB x bA pA bc pc w hn hm 7 (by decide) (fun w hf => (hv w hf).bits)).mono ?_
 rintro e w' ⟨m', h, hm⟩
 refine ⟨m', ?_, hm⟩
 obtain ⟨rfl, A', cap', rfl⟩ := h
 exact .inr ⟨Str (Lib.itoa x.bits), { x with bits := 0 }, A', cap', bA, bc, rfl, rfl, { hx with bits := by show (-9223372036854775808 : Int) ≤ 0 ∧ (0 : Int) ≤ 9223372036854775807; omega }, fun w h => ⟨h.at_, h.n, zero_ok h.bits, h.order, h.keep, h.picks⟩, fun _ h => h, rfl, rfl⟩
theorem lR_any (hv : Stb (TM tB A cap n xs aB x bA pA bc pc) w (fun w => NumAct w x)) :
  Ctr Tryz.prog 192 [.pointer (some ⟨tB, 0, none⟩), .pointer (some ⟨aB, 8, none⟩)] (TM tB A cap n xs aB x bA pA bc pc) (LetR 82 tB n xs aB x bA pA pc) w := by
 refine (twhole_any tB A cap n xs aB x bA pA bc pc w hn hm 8 (by decide) (fun w hf => (hv w hf).order)).mono ?_
 rintro e w' ⟨m', h, hm⟩
 refine ⟨m', ?_, hm⟩
 obtain ⟨rfl, A', cap', rfl⟩ := h
 exact .inr ⟨Str (Lib.itoa x.order), { x with order := 0 }, A', cap', bA, bc, rfl, rfl, { hx with order := by show (-9223372036854775808 : Int) ≤ 0 ∧ (0 : Int) ≤ 9223372036854775807; omega }, fun w h => ⟨h.at_, h.n, h.bits, zero_ok h.order, h.keep, h.picks⟩, fun _ h => h, rfl, rfl⟩
theorem lX_any (hb : Stb (TM tB A cap n xs aB x bA pA bc pc) w (fun w => BytsIn w bA x.bytes)) :
  Ctr Tryz.prog 185 [.pointer (some ⟨tB, 0, none⟩), .pointer (some ⟨aB, 6, none⟩)] (TM tB A cap n xs aB x bA pA bc pc) (LetR 120 tB n xs aB x bA pA pc) w := by
 refine (tdata_any tB A cap n xs aB x bA pA bc pc w hn hm hb).mono ?_
 rintro e w' ⟨m', h, hm⟩
 refine ⟨m', ?_, hm⟩
 rcases h with ⟨h, rfl⟩ | ⟨h, rfl, A', cap', rfl⟩
 ·exact .inl ⟨by show (if x.bytes.length ≤ 524288 then _ else _) = _; rw [if_neg (by omega)], rfl⟩
 ·exact .inr ⟨Str (hexF x.bytes), { x with bytes := [] }, A', cap', none, 0, by show (if x.bytes.length ≤ 524288 then _ else _) = _; rw [if_pos h], rfl, { hx with bytes := by show 0 ≤ _; omega }, fun w h => ⟨h.at_, h.n, h.bits, h.order, h.keep, h.picks⟩, fun _ _ => BytsIn.nil _ _, rfl, rfl⟩
theorem lFw_any :
  Ctr Tryz.prog 187 [.pointer (some ⟨tB, 0, none⟩), .pointer (some ⟨aB, 9, none⟩), .string (Str [114, 119]), .string (Str [114, 111])] (TM tB A cap n xs aB x bA pA bc pc) (LetR 119 tB n xs aB x bA pA pc) w := by
 refine (tflag_any tB A cap n xs aB x bA pA bc pc w hn hm (Str [114, 119]) (Str [114, 111])).mono ?_
 rintro e w' ⟨m', h, hm⟩
 refine ⟨m', ?_, hm⟩
 obtain ⟨rfl, A', cap', rfl⟩ := h
 refine .inr ⟨Str (flagW 119 x.on), { x with on := false }, A', cap', bA, bc, rfl, rfl, { hx with kind := hx.kind }, fun w h => ⟨h.at_, h.n, h.bits, h.order, h.keep, h.picks⟩, fun _ h => h, rfl, ?_⟩
 cases x.on <;> rfl
theorem lFs_any :
  Ctr Tryz.prog 187 [.pointer (some ⟨tB, 0, none⟩), .pointer (some ⟨aB, 9, none⟩), .string (Str [115, 97, 102, 101]), .string (Str [117, 110, 115, 97, 102, 101])] (TM tB A cap n xs aB x bA pA bc pc) (LetR 115 tB n xs aB x bA pA pc) w := by
 refine (tflag_any tB A cap n xs aB x bA pA bc pc w hn hm (Str [115, 97, 102, 101]) (Str [117, 110, 115, 97, 102, 101])).mono ?_
 rintro e w' ⟨m', h, hm⟩
 refine ⟨m', ?_, hm⟩
 obtain ⟨rfl, A', cap', rfl⟩ := h
 refine .inr ⟨Str (flagW 115 x.on), { x with on := false }, A', cap', bA, bc, rfl, rfl, { hx with kind := hx.kind }, fun w h => ⟨h.at_, h.n, h.bits, h.order, h.keep, h.picks⟩, fun _ h => h, rfl, ?_⟩
 cases x.on <;> rfl
theorem lFp_any :
  Ctr Tryz.prog 187 [.pointer (some ⟨tB, 0, none⟩), .pointer (some ⟨aB, 9, none⟩), .string (Str [112, 97, 99, 107, 101, 100]), .string (Str [112, 108, 97, 105, 110])] (TM tB A cap n xs aB x bA pA bc pc) (LetR 112 tB n xs aB x bA pA pc) w := by
 refine (tflag_any tB A cap n xs aB x bA pA bc pc w hn hm (Str [112, 97, 99, 107, 101, 100]) (Str [112, 108, 97, 105, 110])).mono ?_
 rintro e w' ⟨m', h, hm⟩
 refine ⟨m', ?_, hm⟩
 obtain ⟨rfl, A', cap', rfl⟩ := h
 refine .inr ⟨Str (flagW 112 x.on), { x with on := false }, A', cap', bA, bc, rfl, rfl, { hx with kind := hx.kind }, fun w h => ⟨h.at_, h.n, h.bits, h.order, h.keep, h.picks⟩, fun _ h => h, rfl, ?_⟩
 cases x.on <;> rfl
theorem lFb_any :
  Ctr Tryz.prog 187 [.pointer (some ⟨tB, 0, none⟩), .pointer (some ⟨aB, 9, none⟩), .string (Str [111, 110]), .string (Str [111, 102, 102])] (TM tB A cap n xs aB x bA pA bc pc) (LetR 98 tB n xs aB x bA pA pc) w := by
 refine (tflag_any tB A cap n xs aB x bA pA bc pc w hn hm (Str [111, 110]) (Str [111, 102, 102])).mono ?_
 rintro e w' ⟨m', h, hm⟩
 refine ⟨m', ?_, hm⟩
 obtain ⟨rfl, A', cap', rfl⟩ := h
 refine .inr ⟨Str (flagW 98 x.on), { x with on := false }, A', cap', bA, bc, rfl, rfl, { hx with kind := hx.kind }, fun w h => ⟨h.at_, h.n, h.bits, h.order, h.keep, h.picks⟩, fun _ h => h, rfl, ?_⟩
 cases x.on <;> rfl
end
section
variable (tB : Nat) (A : Option Addr) (cap n : Nat) (xs : List Value) (aB : Nat) (x : PAct) (bA pA : Option Addr) (bc pc : Nat) (w : World) (hn : n ≤ 900000000) (hm : MemOk w (Foot (TM tB A cap n xs aB x bA pA bc pc)) (TM tB A cap n xs aB x bA pA bc pc) w) (hx : x.Ok)
include hn hm hx
set_option maxRecDepth 100000 in
set_option maxHeartbeats 1000000 in
theorem two_any (hv : Stb (TM tB A cap n xs aB x bA pA bc pc) w (fun w => NumAct w x)) (hb : Stb (TM tB A cap n xs aB x bA pA bc pc) w (fun w => BytsIn w bA x.bytes)) :
  Ctr Tryz.prog 79 [.pointer (some ⟨aB, 0, none⟩), .iface 124 (.pointer (some ⟨tB, 0, none⟩))] (TM tB A cap n xs aB x bA pA bc pc) (OverR (telF [97, 111] x) tB n xs aB x bA pA) w := by
 refine enter (cx := CXS 20 [] w (Foot (TM tB A cap n xs aB x bA pA bc pc))) [(0, .pointer (some ⟨aB, 0, none⟩)), (1, .iface 124 (.pointer (some ⟨tB, 0, none⟩)))] tab_ok Tryz.func79 rfl rfl rfl rfl hm ?_
 have HN : ∀ w, NumAct w x → NumAct w x := fun _ h => h
 have HB : ∀ w, BytsIn w bA x.bytes → BytsIn w bA x.bytes := fun _ h => h
 have HP : ∀ w, IntsIn .i64 w pA x.picks → IntsIn .i64 w pA x.picks := fun _ h => h
 conv => whnf
 (repeat ((first | (refine dr_tail 7 tab_ok mixed (by kernel_rfl) rfl rfl ?_) | refine stp (by (repeat constructor); first | done | fail) ?_ | refine stn (by (repeat constructor); first | done | fail) ?_ | refine sto (by (repeat constructor); first | done | fail) (by first | omega | (simp only; omega)) ?_ | refine .mk fun Ap capp => ?_ | refine ⟨?_, trivial⟩ | intro _); conv => whnf))
 refine ⟨naT_name _ rfl _, ?_⟩
 conv => whnf
 (repeat ((first | refine stp (by (repeat constructor); first | done | fail) ?_ | refine stn (by (repeat constructor); first | done | fail) ?_ | refine sto (by (repeat constructor); first | done | fail) (by first | omega | (simp only; omega)) ?_ | refine .mk fun Ap capp => ?_ | refine ⟨?_, trivial⟩ | intro _); conv => whnf))
 (refine ⟨_, _, mdT_name _ rfl _, tname_enters, cl_mem (.cons .here (.cons .here (.cons .here .nil))) (fun w' hm' => lN_any _ _ _ _ _ _ _ _ _ _ _ w' (by omega) hm'.part hx ) ?_⟩)
 rintro e m' (⟨h1, rfl⟩ | ⟨s1, x1, A1, cap1, bA1, bc1, h1, rfl, hx, hN, hB, hP, rfl⟩)
 ·exact fin_panic (fun w' hm => ⟨_, .inl ⟨by simp only [telF, h1], rfl⟩, hm⟩)
 replace hv := fun w'' hf => hN _ (hv w'' hf)
 replace hb := fun w'' hf => hB _ (hb w'' hf)
 replace HN := fun w'' h => hN _ (HN w'' h)
 replace HB := fun w'' h => hB _ (HB w'' h)
 replace HP : ∀ w, IntsIn .i64 w pA x.picks → IntsIn .i64 w pA x1.picks := fun w h => hP.symm ▸ HP w h
 clear hN hB hP
 conv => whnf
 (repeat ((first | (refine dr_tail 7 tab_ok mixed (by kernel_rfl) rfl rfl ?_) | refine stp (by (repeat constructor); first | done | fail) ?_ | refine stn (by (repeat constructor); first | done | fail) ?_ | refine sto (by (repeat constructor); first | done | fail) (by first | omega | (simp only; omega)) ?_ | refine .mk fun Ap capp => ?_ | refine ⟨?_, trivial⟩ | intro _); conv => whnf))
 refine ⟨naT_name _ rfl _, ?_⟩
 conv => whnf
 (repeat ((first | refine stp (by (repeat constructor); first | done | fail) ?_ | refine stn (by (repeat constructor); first | done | fail) ?_ | refine sto (by (repeat constructor); first | done | fail) (by first | omega | (simp only; omega)) ?_ | refine .mk fun Ap capp => ?_ | refine ⟨?_, trivial⟩ | intro _); conv => whnf))
 (refine ⟨_, _, mdT_name _ rfl _, tname_enters, cl_mem (.cons .here (.cons .here (.cons .here .nil))) (fun w' hm' => lO_any _ _ _ _ _ _ _ _ _ _ _ w' (by omega) hm'.part hx ) ?_⟩)
 rintro e m' (⟨h2, rfl⟩ | ⟨s2, x2, A2, cap2, bA2, bc2, h2, rfl, hx, hN, hB, hP, rfl⟩)
 ·exact fin_panic (fun w' hm => ⟨_, .inl ⟨by simp only [telF, h1, h2], rfl⟩, hm⟩)
 replace hv := fun w'' hf => hN _ (hv w'' hf)
 replace hb := fun w'' hf => hB _ (hb w'' hf)
 replace HN := fun w'' h => hN _ (HN w'' h)
 replace HB := fun w'' h => hB _ (HB w'' h)
 replace HP : ∀ w, IntsIn .i64 w pA x.picks → IntsIn .i64 w pA x2.picks := fun w h => hP.symm ▸ HP w h
 clear hN hB hP
 conv => whnf
 have eX : xs ++ [Value.string s1] ++ [Value.string s2] = xs ++ ([s1, s2]).map Value.string := by simp
 rw [eX]
 refine fin0 rfl (fun w' hm => ?_) (by first | exact .inr rfl | exact .inl rfl)
 exact ⟨_, .inr ⟨[s1, s2], x2, A2, cap2, bA2, bc2, pA, pc, n + 1 + 1, _, by simp only [telF, h1, h2], rfl, hx, HN, HB, HP, rfl, rfl, rfl⟩, hm.sel (by (repeat constructor); first | done | fail)⟩
omit hn hm hx in
theorem two_enters : Eng.Enters Tryz.prog 79 := enters_mk fun _ _ => by kernel_rfl
set_option maxRecDepth 100000 in
set_option maxHeartbeats 1000000 in
theorem one_any (hv : Stb (TM tB A cap n xs aB x bA pA bc pc) w (fun w => NumAct w x)) (hb : Stb (TM tB A cap n xs aB x bA pA bc pc) w (fun w => BytsIn w bA x.bytes)) :
  Ctr Tryz.prog 75 [.pointer (some ⟨aB, 0, none⟩), .iface 124 (.pointer (some ⟨tB, 0, none⟩))] (TM tB A cap n xs aB x bA pA bc pc) (OverR (telF [97] x) tB n xs aB x bA pA) w := by
 refine enter (cx := CXS 12 [] w (Foot (TM tB A cap n xs aB x bA pA bc pc))) [(0, .pointer (some ⟨aB, 0, none⟩)), (1, .iface 124 (.pointer (some ⟨tB, 0, none⟩)))] tab_ok Tryz.func75 rfl rfl rfl rfl hm ?_
 have HN : ∀ w, NumAct w x → NumAct w x := fun _ h => h
 have HB : ∀ w, BytsIn w bA x.bytes → BytsIn w bA x.bytes := fun _ h => h
 have HP : ∀ w, IntsIn .i64 w pA x.picks → IntsIn .i64 w pA x.picks := fun _ h => h
 conv => whnf
 (repeat ((first | (refine dr_tail 7 tab_ok mixed (by kernel_rfl) rfl rfl ?_) | refine stp (by (repeat constructor); first | done | fail) ?_ | refine stn (by (repeat constructor); first | done | fail) ?_ | refine sto (by (repeat constructor); first | done | fail) (by first | omega | (simp only; omega)) ?_ | refine .mk fun Ap capp => ?_ | refine ⟨?_, trivial⟩ | intro _); conv => whnf))
 refine ⟨naT_name _ rfl _, ?_⟩
 conv => whnf
 (repeat ((first | refine stp (by (repeat constructor); first | done | fail) ?_ | refine stn (by (repeat constructor); first | done | fail) ?_ | refine sto (by (repeat constructor); first | done | fail) (by first | omega | (simp only; omega)) ?_ | refine .mk fun Ap capp => ?_ | refine ⟨?_, trivial⟩ | intro _); conv => whnf))
 (refine ⟨_, _, mdT_name _ rfl _, tname_enters, cl_mem (.cons .here (.cons .here (.cons .here .nil))) (fun w' hm' => lN_any _ _ _ _ _ _ _ _ _ _ _ w' (by omega) hm'.part hx ) ?_⟩)
 rintro e m' (⟨h1, rfl⟩ | ⟨s1, x1, A1, cap1, bA1, bc1, h1, rfl, hx, hN, hB, hP, rfl⟩)
 ·exact fin_panic (fun w' hm => ⟨_, .inl ⟨by simp only [telF, h1], rfl⟩, hm⟩)
 replace hv := fun w'' hf => hN _ (hv w'' hf)
 replace hb := fun w'' hf => hB _ (hb w'' hf)
 replace HN := fun w'' h => hN _ (HN w'' h)
 replace HB := fun w'' h => hB _ (HB w'' h)
 replace HP : ∀ w, IntsIn .i64 w pA x.picks → IntsIn .i64 w pA x1.picks := fun w h => hP.symm ▸ HP w h
 clear hN hB hP
 conv => whnf
 have eX : xs ++ [Value.string s1] = xs ++ ([s1]).map Value.string := by simp
 rw [eX]
 refine fin0 rfl (fun w' hm => ?_) (by first | exact .inr rfl | exact .inl rfl)
 exact ⟨_, .inr ⟨[s1], x1, A1, cap1, bA1, bc1, pA, pc, n + 1, _, by simp only [telF, h1], rfl, hx, HN, HB, HP, rfl, rfl, rfl⟩, hm.sel (by (repeat constructor); first | done | fail)⟩
set_option maxRecDepth 100000 in
set_option maxHeartbeats 1000000 in
theorem span_any (hv : Stb (TM tB A cap n xs aB x bA pA bc pc) w (fun w => NumAct w x)) (hb : Stb (TM tB A cap n xs aB x bA pA bc pc) w (fun w => BytsIn w bA x.bytes)) :
  Ctr Tryz.prog 76 [.pointer (some ⟨aB, 0, none⟩), .iface 124 (.pointer (some ⟨tB, 0, none⟩))] (TM tB A cap n xs aB x bA pA bc pc) (OverR (telF [97, 65, 78] x) tB n xs aB x bA pA) w := by
 refine enter (cx := CXS 28 [] w (Foot (TM tB A cap n xs aB x bA pA bc pc))) [(0, .pointer (some ⟨aB, 0, none⟩)), (1, .iface 124 (.pointer (some ⟨tB, 0, none⟩)))] tab_ok Tryz.func76 rfl rfl rfl rfl hm ?_
 have HN : ∀ w, NumAct w x → NumAct w x := fun _ h => h
 have HB : ∀ w, BytsIn w bA x.bytes → BytsIn w bA x.bytes := fun _ h => h
 have HP : ∀ w, IntsIn .i64 w pA x.picks → IntsIn .i64 w pA x.picks := fun _ h => h
 conv => whnf
 (repeat ((first | (refine dr_tail 7 tab_ok mixed (by kernel_rfl) rfl rfl ?_) | refine stp (by (repeat constructor); first | done | fail) ?_ | refine stn (by (repeat constructor); first | done | fail) ?_ | refine sto (by (repeat constructor); first | done | fail) (by first | omega | (simp only; omega)) ?_ | refine .mk fun Ap capp => ?_ | refine ⟨?_, trivial⟩ | intro _); conv => whnf))
 refine ⟨naT_name _ rfl _, ?_⟩
 conv => whnf
 (repeat ((first | refine stp (by (repeat constructor); first | done | fail) ?_ | refine stn (by (repeat constructor); first | done | fail) ?_ | refine sto (by (repeat constructor); first | done | fail) (by first | omega | (simp only; omega)) ?_ | refine .mk fun Ap capp => ?_ | refine ⟨?_, trivial⟩ | intro _); conv => whnf))
 (refine ⟨_, _, mdT_name _ rfl _, tname_enters, cl_mem (.cons .here (.cons .here (.cons .here .nil))) (fun w' hm' => lN_any _ _ _ _ _ _ _ _ _ _ _ w' (by omega) hm'.part hx ) ?_⟩)
 rintro e m' (⟨h1, rfl⟩ | ⟨s1, x1, A1, cap1, bA1, bc1, h1, rfl, hx, hN, hB, hP, rfl⟩)
 ·exact fin_panic (fun w' hm => ⟨_, .inl ⟨by simp only [telF, h1], rfl⟩, hm⟩)
 replace hv := fun w'' hf => hN _ (hv w'' hf)
 replace hb := fun w'' hf => hB _ (hb w'' hf)
 replace HN := fun w'' h => hN _ (HN w'' h)
 replace HB := fun w'' h => hB _ (HB w'' h)
 replace HP : ∀ w, IntsIn .i64 w pA x.picks → IntsIn .i64 w pA x1.picks := fun w h => hP.symm ▸ HP w h
 clear hN hB hP
 conv => whnf
 (repeat ((first | (refine dr_tail 7 tab_ok mixed (by kernel_rfl) rfl rfl ?_) | refine stp (by (repeat constructor); first | done | fail) ?_ | refine stn (by (repeat constructor); first | done | fail) ?_ | refine sto (by (repeat constructor); first | done | fail) (by first | omega | (simp only; omega)) ?_ | refine .mk fun Ap capp => ?_ | refine ⟨?_, trivial⟩ | intro _); conv => whnf))
 refine ⟨naT_long _ rfl _, ?_⟩
 conv => whnf
 (repeat ((first | refine stp (by (repeat constructor); first | done | fail) ?_ | refine stn (by (repeat constructor); first | done | fail) ?_ | refine sto (by (repeat constructor); first | done | fail) (by first | omega | (simp only; omega)) ?_ | refine .mk fun Ap capp => ?_ | refine ⟨?_, trivial⟩ | intro _); conv => whnf))
 (refine ⟨_, _, mdT_long _ rfl _, tlong_enters, cl_mem (.cons .here (.cons .here (.cons .here .nil))) (fun w' hm' => lA_any _ _ _ _ _ _ _ _ _ _ _ w' (by omega) hm'.part hx (stb hm' (fun w'' hm'' => hv w'' hm''.fr))) ?_⟩)
 rintro e m' (⟨h2, rfl⟩ | ⟨s2, x2, A2, cap2, bA2, bc2, h2, rfl, hx, hN, hB, hP, rfl⟩)
 ·exact fin_panic (fun w' hm => ⟨_, .inl ⟨by simp only [telF, h1, h2], rfl⟩, hm⟩)
 replace hv := fun w'' hf => hN _ (hv w'' hf)
 replace hb := fun w'' hf => hB _ (hb w'' hf)
 replace HN := fun w'' h => hN _ (HN w'' h)
 replace HB := fun w'' h => hB _ (HB w'' h)
 replace HP : ∀ w, IntsIn .i64 w pA x.picks → IntsIn .i64 w pA x2.picks := fun w h => hP.symm ▸ HP w h
 clear hN hB hP
 conv => whnf
 (repeat ((first | (refine dr_tail 7 tab_ok mixed (by kernel_rfl) rfl rfl ?_) | refine stp (by (repeat constructor); first | done | fail) ?_ | refine stn (by (repeat constructor); first | done | fail) ?_ | refine sto (by (repeat constructor); first | done | fail) (by first | omega | (simp only; omega)) ?_ | refine .mk fun Ap capp => ?_ | refine ⟨?_, trivial⟩ | intro _); conv => whnf))
 refine ⟨naT_long _ rfl _, ?_⟩
 conv => whnf
 (repeat ((first | refine stp (by (repeat constructor); first | done | fail) ?_ | refine stn (by (repeat constructor); first | done | fail) ?_ | refine sto (by (repeat constructor); first | done | fail) (by first | omega | (simp only; omega)) ?_ | refine .mk fun Ap capp => ?_ | refine ⟨?_, trivial⟩ | intro _); conv => whnf))
 (refine ⟨_, _, mdT_long _ rfl _, tlong_enters, cl_mem (.cons .here (.cons .here (.cons .here .nil))) (fun w' hm' => lM_any _ _ _ _ _ _ _ _ _ _ _ w' (by omega) hm'.part hx (stb hm' (fun w'' hm'' => hv w'' hm''.fr))) ?_⟩)
 rintro e m' (⟨h3, rfl⟩ | ⟨s3, x3, A3, cap3, bA3, bc3, h3, rfl, hx, hN, hB, hP, rfl⟩)
 ·exact fin_panic (fun w' hm => ⟨_, .inl ⟨by simp only [telF, h1, h2, h3], rfl⟩, hm⟩)
 replace hv := fun w'' hf => hN _ (hv w'' hf)
 replace hb := fun w'' hf => hB _ (hb w'' hf)
 replace HN := fun w'' h => hN _ (HN w'' h)
 replace HB := fun w'' h => hB _ (HB w'' h)
 replace HP : ∀ w, IntsIn .i64 w pA x.picks → IntsIn .i64 w pA x3.picks := fun w h => hP.symm ▸ HP w h
 clear hN hB hP
 conv => whnf
 have eX : xs ++ [Value.string s1] ++ [Value.string s2] ++ [Value.string s3] = xs ++ ([s1, s2, s3]).map Value.string := by simp
 rw [eX]
 refine fin0 rfl (fun w' hm => ?_) (by first | exact .inr rfl | exact .inl rfl)
 exact ⟨_, .inr ⟨[s1, s2, s3], x3, A3, cap3, bA3, bc3, pA, pc, n + 1 + 1 + 1, _, by simp only [telF, h1, h2, h3], rfl, hx, HN, HB, HP, rfl, rfl, rfl⟩, hm.sel (by (repeat constructor); first | done | fail)⟩
set_option maxRecDepth 100000 in
set_option maxHeartbeats 1000000 in
theorem k1_any (hv : Stb (TM tB A cap n xs aB x bA pA bc pc) w (fun w => NumAct w x)) (hb : Stb (TM tB A cap n xs aB x bA pA bc pc) w (fun w => BytsIn w bA x.bytes)) :
  Ctr Tryz.prog 73 [.pointer (some ⟨aB, 0, none⟩), .iface 124 (.pointer (some ⟨tB, 0, none⟩))] (TM tB A cap n xs aB x bA pA bc pc) (OverR (telF [97, 78, 66, 82, 79] x) tB n xs aB x bA pA) w := by
 refine enter (cx := CXS 44 [] w (Foot (TM tB A cap n xs aB x bA pA bc pc))) [(0, .pointer (some ⟨aB, 0, none⟩)), (1, .iface 124 (.pointer (some ⟨tB, 0, none⟩)))] tab_ok Tryz.func73 rfl rfl rfl rfl hm ?_
 have HN : ∀ w, NumAct w x → NumAct w x := fun _ h => h
 have HB : ∀ w, BytsIn w bA x.bytes → BytsIn w bA x.bytes := fun _ h => h
 have HP : ∀ w, IntsIn .i64 w pA x.picks → IntsIn .i64 w pA x.picks := fun _ h => h
 conv => whnf
 (repeat ((first | (refine dr_tail 7 tab_ok mixed (by kernel_rfl) rfl rfl ?_) | refine stp (by (repeat constructor); first | done | fail) ?_ | refine stn (by (repeat constructor); first | done | fail) ?_ | refine sto (by (repeat constructor); first | done | fail) (by first | omega | (simp only; omega)) ?_ | refine .mk fun Ap capp => ?_ | refine ⟨?_, trivial⟩ | intro _); conv => whnf))
 refine ⟨naT_name _ rfl _, ?_⟩
 conv => whnf
 (repeat ((first | refine stp (by (repeat constructor); first | done | fail) ?_ | refine stn (by (repeat constructor); first | done | fail) ?_ | refine sto (by (repeat constructor); first | done | fail) (by first | omega | (simp only; omega)) ?_ | refine .mk fun Ap capp => ?_ | refine ⟨?_, trivial⟩ | intro _); conv => whnf))
 (refine ⟨_, _, mdT_name _ rfl _, tname_enters, cl_mem (.cons .here (.cons .here (.cons .here .nil))) (fun w' hm' => lN_any _ _ _ _ _ _ _ _ _ _ _ w' (by omega) hm'.part hx ) ?_⟩)
 rintro e m' (⟨h1, rfl⟩ | ⟨s1, x1, A1, cap1, bA1, bc1, h1, rfl, hx, hN, hB, hP, rfl⟩)
 ·exact fin_panic (fun w' hm => ⟨_, .inl ⟨by simp only [telF, h1], rfl⟩, hm⟩)
 replace hv := fun w'' hf => hN _ (hv w'' hf)
 replace hb := fun w'' hf => hB _ (hb w'' hf)
 replace HN := fun w'' h => hN _ (HN w'' h)
 replace HB := fun w'' h => hB _ (HB w'' h)
 replace HP : ∀ w, IntsIn .i64 w pA x.picks → IntsIn .i64 w pA x1.picks := fun w h => hP.symm ▸ HP w h
 clear hN hB hP
 conv => whnf
 (repeat ((first | (refine dr_tail 7 tab_ok mixed (by kernel_rfl) rfl rfl ?_) | refine stp (by (repeat constructor); first | done | fail) ?_ | refine stn (by (repeat constructor); first | done | fail) ?_ | refine sto (by (repeat constructor); first | done | fail) (by first | omega | (simp only; omega)) ?_ | refine .mk fun Ap capp => ?_ | refine ⟨?_, trivial⟩ | intro _); conv => whnf))
 refine ⟨naT_long _ rfl _, ?_⟩
 conv => whnf
 (repeat ((first | refine stp (by (repeat constructor); first | done | fail) ?_ | refine stn (by (repeat constructor); first | done | fail) ?_ | refine sto (by (repeat constructor); first | done | fail) (by first | omega | (simp only; omega)) ?_ | refine .mk fun Ap capp => ?_ | refine ⟨?_, trivial⟩ | intro _); conv => whnf))
 (refine ⟨_, _, mdT_long _ rfl _, tlong_enters, cl_mem (.cons .here (.cons .here (.cons .here .nil))) (fun w' hm' => lM_any _ _ _ _ _ _ _ _ _ _ _ w' (by omega) hm'.part hx (stb hm' (fun w'' hm'' => hv w'' hm''.fr))) ?_⟩)
 rintro e m' (⟨h2, rfl⟩ | ⟨s2, x2, A2, cap2, bA2, bc2, h2, rfl, hx, hN, hB, hP, rfl⟩)
 ·exact fin_panic (fun w' hm => ⟨_, .inl ⟨by simp only [telF, h1, h2], rfl⟩, hm⟩)
 replace hv := fun w'' hf => hN _ (hv w'' hf)
 replace hb := fun w'' hf => hB _ (hb w'' hf)
 replace HN := fun w'' h => hN _ (HN w'' h)
 replace HB := fun w'' h => hB _ (HB w'' h)
 replace HP : ∀ w, IntsIn .i64 w pA x.picks → IntsIn .i64 w pA x2.picks := fun w h => hP.symm ▸ HP w h
 clear hN hB hP
 conv => whnf
 (repeat ((first | (refine dr_tail 7 tab_ok mixed (by kernel_rfl) rfl rfl ?_) | refine stp (by (repeat constructor); first | done | fail) ?_ | refine stn (by (repeat constructor); first | done | fail) ?_ | refine sto (by (repeat constructor); first | done | fail) (by first | omega | (simp only; omega)) ?_ | refine .mk fun Ap capp => ?_ | refine ⟨?_, trivial⟩ | intro _); conv => whnf))
 refine ⟨naT_whole _ rfl _, ?_⟩
 conv => whnf
 (repeat ((first | refine stp (by (repeat constructor); first | done | fail) ?_ | refine stn (by (repeat constructor); first | done | fail) ?_ | refine sto (by (repeat constructor); first | done | fail) (by first | omega | (simp only; omega)) ?_ | refine .mk fun Ap capp => ?_ | refine ⟨?_, trivial⟩ | intro _); conv => whnf))
 (refine ⟨_, _, mdT_whole _ rfl _, twhole_enters, cl_mem (.cons .here (.cons .here (.cons .here .nil))) (fun w' hm' => lB_any _ _ _ _ _ _ _ _ _ _ _ w' (by omega) hm'.part hx (stb hm' (fun w'' hm'' => hv w'' hm''.fr))) ?_⟩)
 rintro e m' (⟨h3, rfl⟩ | ⟨s3, x3, A3, cap3, bA3, bc3, h3, rfl, hx, hN, hB, hP, rfl⟩)
 ·exact fin_panic (fun w' hm => ⟨_, .inl ⟨by simp only [telF, h1, h2, h3], rfl⟩, hm⟩)
 replace hv := fun w'' hf => hN _ (hv w'' hf)
 replace hb := fun w'' hf => hB _ (hb w'' hf)
 replace HN := fun w'' h => hN _ (HN w'' h)
 replace HB := fun w'' h => hB _ (HB w'' h)
 replace HP : ∀ w, IntsIn .i64 w pA x.picks → IntsIn .i64 w pA x3.picks := fun w h => hP.symm ▸ HP w h
 clear hN hB hP
 conv => whnf
 (repeat ((first | (refine dr_tail 7 tab_ok mixed (by kernel_rfl) rfl rfl ?_) | refine stp (by (repeat constructor); first | done | fail) ?_ | refine stn (by (repeat constructor); first | done | fail) ?_ | refine sto (by (repeat constructor); first | done | fail) (by first | omega | (simp only; omega)) ?_ | refine .mk fun Ap capp => ?_ | refine ⟨?_, trivial⟩ | intro _); conv => whnf))
 refine ⟨naT_whole _ rfl _, ?_⟩
 conv => whnf
 (repeat ((first | refine stp (by (repeat constructor); first | done | fail) ?_ | refine stn (by (repeat constructor); first | done | fail) ?_ | refine sto (by (repeat constructor); first | done | fail) (by first | omega | (simp only; omega)) ?_ | refine .mk fun Ap capp => ?_ | refine ⟨?_, trivial⟩ | intro _); conv => whnf))
 (refine ⟨_, _, mdT_whole _ rfl _, twhole_enters, cl_mem (.cons .here (.cons .here (.cons .here .nil))) (fun w' hm' => lR_any _ _ _ _ _ _ _ _ _ _ _ w' (by omega) hm'.part hx (stb hm' (fun w'' hm'' => hv w'' hm''.fr))) ?_⟩)
 rintro e m' (⟨h4, rfl⟩ | ⟨s4, x4, A4, cap4, bA4, bc4, h4, rfl, hx, hN, hB, hP, rfl⟩)
 ·exact fin_panic (fun w' hm => ⟨_, .inl ⟨by simp only [telF, h1, h2, h3, h4], rfl⟩, hm⟩)
 replace hv := fun w'' hf => hN _ (hv w'' hf)
 replace hb := fun w'' hf => hB _ (hb w'' hf)
 replace HN := fun w'' h => hN _ (HN w'' h)
 replace HB := fun w'' h => hB _ (HB w'' h)
 replace HP : ∀ w, IntsIn .i64 w pA x.picks → IntsIn .i64 w pA x4.picks := fun w h => hP.symm ▸ HP w h
 clear hN hB hP
 conv => whnf
 (repeat ((first | (refine dr_tail 7 tab_ok mixed (by kernel_rfl) rfl rfl ?_) | refine stp (by (repeat constructor); first | done | fail) ?_ | refine stn (by (repeat constructor); first | done | fail) ?_ | refine sto (by (repeat constructor); first | done | fail) (by first | omega | (simp only; omega)) ?_ | refine .mk fun Ap capp => ?_ | refine ⟨?_, trivial⟩ | intro _); conv => whnf))
 refine ⟨naT_name _ rfl _, ?_⟩
 conv => whnf
 (repeat ((first | refine stp (by (repeat constructor); first | done | fail) ?_ | refine stn (by (repeat constructor); first | done | fail) ?_ | refine sto (by (repeat constructor); first | done | fail) (by first | omega | (simp only; omega)) ?_ | refine .mk fun Ap capp => ?_ | refine ⟨?_, trivial⟩ | intro _); conv => whnf))
 (refine ⟨_, _, mdT_name _ rfl _, tname_enters, cl_mem (.cons .here (.cons .here (.cons .here .nil))) (fun w' hm' => lE_any _ _ _ _ _ _ _ _ _ _ _ w' (by omega) hm'.part hx ) ?_⟩)
 rintro e m' (⟨h5, rfl⟩ | ⟨s5, x5, A5, cap5, bA5, bc5, h5, rfl, hx, hN, hB, hP, rfl⟩)
 ·exact fin_panic (fun w' hm => ⟨_, .inl ⟨by simp only [telF, h1, h2, h3, h4, h5], rfl⟩, hm⟩)
 replace hv := fun w'' hf => hN _ (hv w'' hf)
 replace hb := fun w'' hf => hB _ (hb w'' hf)
 replace HN := fun w'' h => hN _ (HN w'' h)
 replace HB := fun w'' h => hB _ (HB w'' h)
 replace HP : ∀ w, IntsIn .i64 w pA x.picks → IntsIn .i64 w pA x5.picks := fun w h => hP.symm ▸ HP w h
 clear hN hB hP
 conv => whnf
 have eX : xs ++ [Value.string s1] ++ [Value.string s2] ++ [Value.string s3] ++ [Value.string s4] ++ [Value.string s5] = xs ++ ([s1, s2, s3, s4, s5]).map Value.string := by simp
 rw [eX]
 refine fin0 rfl (fun w' hm => ?_) (by first | exact .inr rfl | exact .inl rfl)
 exact ⟨_, .inr ⟨[s1, s2, s3, s4, s5], x5, A5, cap5, bA5, bc5, pA, pc, n + 1 + 1 + 1 + 1 + 1, _, by simp only [telF, h1, h2, h3, h4, h5], rfl, hx, HN, HB, HP, rfl, rfl, rfl⟩, hm.sel (by (repeat constructor); first | done | fail)⟩
set_option maxRecDepth 100000 in
set_option maxHeartbeats 1000000 in
theorem k2_any (hv : Stb (TM tB A cap n xs aB x bA pA bc pc) w (fun w => NumAct w x)) (hb : Stb (TM tB A cap n xs aB x bA pA bc pc) w (fun w => BytsIn w bA x.bytes)) :
  Ctr Tryz.prog 74 [.pointer (some ⟨aB, 0, none⟩), .iface 124 (.pointer (some ⟨tB, 0, none⟩))] (TM tB A cap n xs aB x bA pA bc pc) (OverR (telF [97, 119] x) tB n xs aB x bA pA) w := by
 refine enter (cx := CXS 20 [] w (Foot (TM tB A cap n xs aB x bA pA bc pc))) [(0, .pointer (some ⟨aB, 0, none⟩)), (1, .iface 124 (.pointer (some ⟨tB, 0, none⟩)))] tab_ok Tryz.func74 rfl rfl rfl rfl hm ?_
 have HN : ∀ w, NumAct w x → NumAct w x := fun _ h => h
 have HB : ∀ w, BytsIn w bA x.bytes → BytsIn w bA x.bytes := fun _ h => h
 have HP : ∀ w, IntsIn .i64 w pA x.picks → IntsIn .i64 w pA x.picks := fun _ h => h
 conv => whnf
 (repeat ((first | (refine dr_tail 7 tab_ok mixed (by kernel_rfl) rfl rfl ?_) | refine stp (by (repeat constructor); first | done | fail) ?_ | refine stn (by (repeat constructor); first | done | fail) ?_ | refine sto (by (repeat constructor); first | done | fail) (by first | omega | (simp only; omega)) ?_ | refine .mk fun Ap capp => ?_ | refine ⟨?_, trivial⟩ | intro _); conv => whnf))
 refine ⟨naT_name _ rfl _, ?_⟩
 conv => whnf
 (repeat ((first | refine stp (by (repeat constructor); first | done | fail) ?_ | refine stn (by (repeat constructor); first | done | fail) ?_ | refine sto (by (repeat constructor); first | done | fail) (by first | omega | (simp only; omega)) ?_ | refine .mk fun Ap capp => ?_ | refine ⟨?_, trivial⟩ | intro _); conv => whnf))
 (refine ⟨_, _, mdT_name _ rfl _, tname_enters, cl_mem (.cons .here (.cons .here (.cons .here .nil))) (fun w' hm' => lN_any _ _ _ _ _ _ _ _ _ _ _ w' (by omega) hm'.part hx ) ?_⟩)
 rintro e m' (⟨h1, rfl⟩ | ⟨s1, x1, A1, cap1, bA1, bc1, h1, rfl, hx, hN, hB, hP, rfl⟩)
 ·exact fin_panic (fun w' hm => ⟨_, .inl ⟨by simp only [telF, h1], rfl⟩, hm⟩)
 replace hv := fun w'' hf => hN _ (hv w'' hf)
 replace hb := fun w'' hf => hB _ (hb w'' hf)
 replace HN := fun w'' h => hN _ (HN w'' h)
 replace HB := fun w'' h => hB _ (HB w'' h)
 replace HP : ∀ w, IntsIn .i64 w pA x.picks → IntsIn .i64 w pA x1.picks := fun w h => hP.symm ▸ HP w h
 clear hN hB hP
 conv => whnf
 (repeat ((first | (refine dr_tail 7 tab_ok mixed (by kernel_rfl) rfl rfl ?_) | refine stp (by (repeat constructor); first | done | fail) ?_ | refine stn (by (repeat constructor); first | done | fail) ?_ | refine sto (by (repeat constructor); first | done | fail) (by first | omega | (simp only; omega)) ?_ | refine .mk fun Ap capp => ?_ | refine ⟨?_, trivial⟩ | intro _); conv => whnf))
 refine ⟨naT_flag _ rfl _, ?_⟩
 conv => whnf
 (repeat ((first | refine stp (by (repeat constructor); first | done | fail) ?_ | refine stn (by (repeat constructor); first | done | fail) ?_ | refine sto (by (repeat constructor); first | done | fail) (by first | omega | (simp only; omega)) ?_ | refine .mk fun Ap capp => ?_ | refine ⟨?_, trivial⟩ | intro _); conv => whnf))
 (refine ⟨_, _, mdT_flag _ rfl _, tflag_enters, cl_mem (.cons .here (.cons .here (.cons .here .nil))) (fun w' hm' => lFw_any _ _ _ _ _ _ _ _ _ _ _ w' (by omega) hm'.part hx ) ?_⟩)
 rintro e m' (⟨h2, rfl⟩ | ⟨s2, x2, A2, cap2, bA2, bc2, h2, rfl, hx, hN, hB, hP, rfl⟩)
 ·exact fin_panic (fun w' hm => ⟨_, .inl ⟨by simp only [telF, h1, h2], rfl⟩, hm⟩)
 replace hv := fun w'' hf => hN _ (hv w'' hf)
 replace hb := fun w'' hf => hB _ (hb w'' hf)
 replace HN := fun w'' h => hN _ (HN w'' h)
 replace HB := fun w'' h => hB _ (HB w'' h)
 replace HP : ∀ w, IntsIn .i64 w pA x.picks → IntsIn .i64 w pA x2.picks := fun w h => hP.symm ▸ HP w h
 clear hN hB hP
 conv => whnf
 have eX : xs ++ [Value.string s1] ++ [Value.string s2] = xs ++ ([s1, s2]).map Value.string := by simp
 rw [eX]
 refine fin0 rfl (fun w' hm => ?_) (by first | exact .inr rfl | exact .inl rfl)
 exact ⟨_, .inr ⟨[s1, s2], x2, A2, cap2, bA2, bc2, pA, pc, n + 1 + 1, _, by simp only [telF, h1, h2], rfl, hx, HN, HB, HP, rfl, rfl, rfl⟩, hm.sel (by (repeat constructor); first | done | fail)⟩
set_option maxRecDepth 100000 in
set_option maxHeartbeats 1000000 in
theorem k3_any (hv : Stb (TM tB A cap n xs aB x bA pA bc pc) w (fun w => NumAct w x)) (hb : Stb (TM tB A cap n xs aB x bA pA bc pc) w (fun w => BytsIn w bA x.bytes)) :
  Ctr Tryz.prog 77 [.pointer (some ⟨aB, 0, none⟩), .iface 124 (.pointer (some ⟨tB, 0, none⟩))] (TM tB A cap n xs aB x bA pA bc pc) (OverR (telF [97, 65, 120] x) tB n xs aB x bA pA) w := by
 refine enter (cx := CXS 28 [] w (Foot (TM tB A cap n xs aB x bA pA bc pc))) [(0, .pointer (some ⟨aB, 0, none⟩)), (1, .iface 124 (.pointer (some ⟨tB, 0, none⟩)))] tab_ok Tryz.func77 rfl rfl rfl rfl hm ?_
 have HN : ∀ w, NumAct w x → NumAct w x := fun _ h => h
 have HB : ∀ w, BytsIn w bA x.bytes → BytsIn w bA x.bytes := fun _ h => h
 have HP : ∀ w, IntsIn .i64 w pA x.picks → IntsIn .i64 w pA x.picks := fun _ h => h
 conv => whnf
 (repeat ((first | (refine dr_tail 7 tab_ok mixed (by kernel_rfl) rfl rfl ?_) | refine stp (by (repeat constructor); first | done | fail) ?_ | refine stn (by (repeat constructor); first | done | fail) ?_ | refine sto (by (repeat constructor); first | done | fail) (by first | omega | (simp only; omega)) ?_ | refine .mk fun Ap capp => ?_ | refine ⟨?_, trivial⟩ | intro _); conv => whnf))
 refine ⟨naT_name _ rfl _, ?_⟩
 conv => whnf
 (repeat ((first | refine stp (by (repeat constructor); first | done | fail) ?_ | refine stn (by (repeat constructor); first | done | fail) ?_ | refine sto (by (repeat constructor); first | done | fail) (by first | omega | (simp only; omega)) ?_ | refine .mk fun Ap capp => ?_ | refine ⟨?_, trivial⟩ | intro _); conv => whnf))
 (refine ⟨_, _, mdT_name _ rfl _, tname_enters, cl_mem (.cons .here (.cons .here (.cons .here .nil))) (fun w' hm' => lN_any _ _ _ _ _ _ _ _ _ _ _ w' (by omega) hm'.part hx ) ?_⟩)
 rintro e m' (⟨h1, rfl⟩ | ⟨s1, x1, A1, cap1, bA1, bc1, h1, rfl, hx, hN, hB, hP, rfl⟩)
 ·exact fin_panic (fun w' hm => ⟨_, .inl ⟨by simp only [telF, h1], rfl⟩, hm⟩)
 replace hv := fun w'' hf => hN _ (hv w'' hf)
 replace hb := fun w'' hf => hB _ (hb w'' hf)
 replace HN := fun w'' h => hN _ (HN w'' h)
 replace HB := fun w'' h => hB _ (HB w'' h)
 replace HP : ∀ w, IntsIn .i64 w pA x.picks → IntsIn .i64 w pA x1.picks := fun w h => hP.symm ▸ HP w h
 clear hN hB hP
 conv => whnf
 (repeat ((first | (refine dr_tail 7 tab_ok mixed (by kernel_rfl) rfl rfl ?_) | refine stp (by (repeat constructor); first | done | fail) ?_ | refine stn (by (repeat constructor); first | done | fail) ?_ | refine sto (by (repeat constructor); first | done | fail) (by first | omega | (simp only; omega)) ?_ | refine .mk fun Ap capp => ?_ | refine ⟨?_, trivial⟩ | intro _); conv => whnf))
 refine ⟨naT_long _ rfl _, ?_⟩
 conv => whnf
 (repeat ((first | refine stp (by (repeat constructor); first | done | fail) ?_ | refine stn (by (repeat constructor); first | done | fail) ?_ | refine sto (by (repeat constructor); first | done | fail) (by first | omega | (simp only; omega)) ?_ | refine .mk fun Ap capp => ?_ | refine ⟨?_, trivial⟩ | intro _); conv => whnf))
 (refine ⟨_, _, mdT_long _ rfl _, tlong_enters, cl_mem (.cons .here (.cons .here (.cons .here .nil))) (fun w' hm' => lA_any _ _ _ _ _ _ _ _ _ _ _ w' (by omega) hm'.part hx (stb hm' (fun w'' hm'' => hv w'' hm''.fr))) ?_⟩)
 rintro e m' (⟨h2, rfl⟩ | ⟨s2, x2, A2, cap2, bA2, bc2, h2, rfl, hx, hN, hB, hP, rfl⟩)
 ·exact fin_panic (fun w' hm => ⟨_, .inl ⟨by simp only [telF, h1, h2], rfl⟩, hm⟩)
 replace hv := fun w'' hf => hN _ (hv w'' hf)
 replace hb := fun w'' hf => hB _ (hb w'' hf)
 replace HN := fun w'' h => hN _ (HN w'' h)
 replace HB := fun w'' h => hB _ (HB w'' h)
 replace HP : ∀ w, IntsIn .i64 w pA x.picks → IntsIn .i64 w pA x2.picks := fun w h => hP.symm ▸ HP w h
 clear hN hB hP
 conv => whnf
 (repeat ((first | (refine dr_tail 7 tab_ok mixed (by kernel_rfl) rfl rfl ?_) | refine stp (by (repeat constructor); first | done | fail) ?_ | refine stn (by (repeat constructor); first | done | fail) ?_ | refine sto (by (repeat constructor); first | done | fail) (by first | omega | (simp only; omega)) ?_ | refine .mk fun Ap capp => ?_ | refine ⟨?_, trivial⟩ | intro _); conv => whnf))
 refine ⟨naT_data _ rfl _, ?_⟩
 conv => whnf
 (repeat ((first | refine stp (by (repeat constructor); first | done | fail) ?_ | refine stn (by (repeat constructor); first | done | fail) ?_ | refine sto (by (repeat constructor); first | done | fail) (by first | omega | (simp only; omega)) ?_ | refine .mk fun Ap capp => ?_ | refine ⟨?_, trivial⟩ | intro _); conv => whnf))
 (refine ⟨_, _, mdT_data _ rfl _, tdata_enters, cl_mem (.cons .here (.cons .here (.cons .here .nil))) (fun w' hm' => lX_any _ _ _ _ _ _ _ _ _ _ _ w' (by omega) hm'.part hx (stb hm' (fun w'' hm'' => hb w'' hm''.fr))) ?_⟩)
 rintro e m' (⟨h3, rfl⟩ | ⟨s3, x3, A3, cap3, bA3, bc3, h3, rfl, hx, hN, hB, hP, rfl⟩)
 ·exact fin_panic (fun w' hm => ⟨_, .inl ⟨by simp only [telF, h1, h2, h3], rfl⟩, hm⟩)
 replace hv := fun w'' hf => hN _ (hv w'' hf)
 replace hb := fun w'' hf => hB _ (hb w'' hf)
 replace HN := fun w'' h => hN _ (HN w'' h)
 replace HB := fun w'' h => hB _ (HB w'' h)
 replace HP : ∀ w, IntsIn .i64 w pA x.picks → IntsIn .i64 w pA x3.picks := fun w h => hP.symm ▸ HP w h
 clear hN hB hP
 conv => whnf
 have eX : xs ++ [Value.string s1] ++ [Value.string s2] ++ [Value.string s3] = xs ++ ([s1, s2, s3]).map Value.string := by simp
 rw [eX]
 refine fin0 rfl (fun w' hm => ?_) (by first | exact .inr rfl | exact .inl rfl)
 exact ⟨_, .inr ⟨[s1, s2, s3], x3, A3, cap3, bA3, bc3, pA, pc, n + 1 + 1 + 1, _, by simp only [telF, h1, h2, h3], rfl, hx, HN, HB, HP, rfl, rfl, rfl⟩, hm.sel (by (repeat constructor); first | done | fail)⟩
set_option maxRecDepth 100000 in
set_option maxHeartbeats 1000000 in
theorem k4_any (hv : Stb (TM tB A cap n xs aB x bA pA bc pc) w (fun w => NumAct w x)) (hb : Stb (TM tB A cap n xs aB x bA pA bc pc) w (fun w => BytsIn w bA x.bytes)) :
  Ctr Tryz.prog 78 [.pointer (some ⟨aB, 0, none⟩), .iface 124 (.pointer (some ⟨tB, 0, none⟩))] (TM tB A cap n xs aB x bA pA bc pc) (OverR (telF [97, 65, 120, 66] x) tB n xs aB x bA pA) w := by
 refine enter (cx := CXS 36 [] w (Foot (TM tB A cap n xs aB x bA pA bc pc))) [(0, .pointer (some ⟨aB, 0, none⟩)), (1, .iface 124 (.pointer (some ⟨tB, 0, none⟩)))] tab_ok Tryz.func78 rfl rfl rfl rfl hm ?_
 have HN : ∀ w, NumAct w x → NumAct w x := fun _ h => h
 have HB : ∀ w, BytsIn w bA x.bytes → BytsIn w bA x.bytes := fun _ h => h
 have HP : ∀ w, IntsIn .i64 w pA x.picks → IntsIn .i64 w pA x.picks := fun _ h => h
 conv => whnf
 (repeat ((first | (refine dr_tail 7 tab_ok mixed (by kernel_rfl) rfl rfl ?_) | refine stp (by (repeat constructor); first | done | fail) ?_ | refine stn (by (repeat constructor); first | done | fail) ?_ | refine sto (by (repeat constructor); first | done | fail) (by first | omega | (simp only; omega)) ?_ | refine .mk fun Ap capp => ?_ | refine ⟨?_, trivial⟩ | intro _); conv => whnf))
 refine ⟨naT_name _ rfl _, ?_⟩
 conv => whnf
 (repeat ((first | refine stp (by (repeat constructor); first | done | fail) ?_ | refine stn (by (repeat constructor); first | done | fail) ?_ | refine sto (by (repeat constructor); first | done | fail) (by first | omega | (simp only; omega)) ?_ | refine .mk fun Ap capp => ?_ | refine ⟨?_, trivial⟩ | intro _); conv => whnf))
 (refine ⟨_, _, mdT_name _ rfl _, tname_enters, cl_mem (.cons .here (.cons .here (.cons .here .nil))) (fun w' hm' => lN_any _ _ _ _ _ _ _ _ _ _ _ w' (by omega) hm'.part hx ) ?_⟩)
 rintro e m' (⟨h1, rfl⟩ | ⟨s1, x1, A1, cap1, bA1, bc1, h1, rfl, hx, hN, hB, hP, rfl⟩)
 ·exact fin_panic (fun w' hm => ⟨_, .inl ⟨by simp only [telF, h1], rfl⟩, hm⟩)
 replace hv := fun w'' hf => hN _ (hv w'' hf)
 replace hb := fun w'' hf => hB _ (hb w'' hf)
 replace HN := fun w'' h => hN _ (HN w'' h)
 replace HB := fun w'' h => hB _ (HB w'' h)
 replace HP : ∀ w, IntsIn .i64 w pA x.picks → IntsIn .i64 w pA x1.picks := fun w h => hP.symm ▸ HP w h
 clear hN hB hP
 conv => whnf
 (repeat ((first | (refine dr_tail 7 tab_ok mixed (by kernel_rfl) rfl rfl ?_) | refine stp (by (repeat constructor); first | done | fail) ?_ | refine stn (by (repeat constructor); first | done | fail) ?_ | refine sto (by (repeat constructor); first | done | fail) (by first | omega | (simp only; omega)) ?_ | refine .mk fun Ap capp => ?_ | refine ⟨?_, trivial⟩ | intro _); conv => whnf))
 refine ⟨naT_long _ rfl _, ?_⟩
 conv => whnf
 (repeat ((first | refine stp (by (repeat constructor); first | done | fail) ?_ | refine stn (by (repeat constructor); first | done | fail) ?_ | refine sto (by (repeat constructor); first | done | fail) (by first | omega | (simp only; omega)) ?_ | refine .mk fun Ap capp => ?_ | refine ⟨?_, trivial⟩ | intro _); conv => whnf))
 (refine ⟨_, _, mdT_long _ rfl _, tlong_enters, cl_mem (.cons .here (.cons .here (.cons .here .nil))) (fun w' hm' => lA_any _ _ _ _ _ _ _ _ _ _ _ w' (by omega) hm'.part hx (stb hm' (fun w'' hm'' => hv w'' hm''.fr))) ?_⟩)
 rintro e m' (⟨h2, rfl⟩ | ⟨s2, x2, A2, cap2, bA2, bc2, h2, rfl, hx, hN, hB, hP, rfl⟩)
 ·exact fin_panic (fun w' hm => ⟨_, .inl ⟨by simp only [telF, h1, h2], rfl⟩, hm⟩)
 replace hv := fun w'' hf => hN _ (hv w'' hf)
 replace hb := fun w'' hf => hB _ (hb w'' hf)
 replace HN := fun w'' h => hN _ (HN w'' h)
 replace HB := fun w'' h => hB _ (HB w'' h)
 replace HP : ∀ w, IntsIn .i64 w pA x.picks → IntsIn .i64 w pA x2.picks := fun w h => hP.symm ▸ HP w h
 clear hN hB hP
 conv => whnf
 (repeat ((first | (refine dr_tail 7 tab_ok mixed (by kernel_rfl) rfl rfl ?_) | refine stp (by (repeat constructor); first | done | fail) ?_ | refine stn (by (repeat constructor); first | done | fail) ?_ | refine sto (by (repeat constructor); first | done | fail) (by first | omega | (simp only; omega)) ?_ | refine .mk fun Ap capp => ?_ | refine ⟨?_, trivial⟩ | intro _); conv => whnf))
 refine ⟨naT_data _ rfl _, ?_⟩
 conv => whnf
 (repeat ((first | refine stp (by (repeat constructor); first | done | fail) ?_ | refine stn (by (repeat constructor); first | done | fail) ?_ | refine sto (by (repeat constructor); first | done | fail) (by first | omega | (simp only; omega)) ?_ | refine .mk fun Ap capp => ?_ | refine ⟨?_, trivial⟩ | intro _); conv => whnf))
 (refine ⟨_, _, mdT_data _ rfl _, tdata_enters, cl_mem (.cons .here (.cons .here (.cons .here .nil))) (fun w' hm' => lX_any _ _ _ _ _ _ _ _ _ _ _ w' (by omega) hm'.part hx (stb hm' (fun w'' hm'' => hb w'' hm''.fr))) ?_⟩)
 rintro e m' (⟨h3, rfl⟩ | ⟨s3, x3, A3, cap3, bA3, bc3, h3, rfl, hx, hN, hB, hP, rfl⟩)
 ·exact fin_panic (fun w' hm => ⟨_, .inl ⟨by simp only [telF, h1, h2, h3], rfl⟩, hm⟩)
 replace hv := fun w'' hf => hN _ (hv w'' hf)
 replace hb := fun w'' hf => hB _ (hb w'' hf)
 replace HN := fun w'' h => hN _ (HN w'' h)
 replace HB := fun w'' h => hB _ (HB w'' h)
 replace HP : ∀ w, IntsIn .i64 w pA x.picks → IntsIn .i64 w pA x3.picks := fun w h => hP.symm ▸ HP w h
 clear hN hB hP
 conv => whnf
 (repeat ((first | (refine dr_tail 7 tab_ok mixed (by kernel_rfl) rfl rfl ?_) | refine stp (by (repeat constructor); first | done | fail) ?_ | refine stn (by (repeat constructor); first | done | fail) ?_ | refine sto (by (repeat constructor); first | done | fail) (by first | omega | (simp only; omega)) ?_ | refine .mk fun Ap capp => ?_ | refine ⟨?_, trivial⟩ | intro _); conv => whnf))
 refine ⟨naT_whole _ rfl _, ?_⟩
 conv => whnf
 (repeat ((first | refine stp (by (repeat constructor); first | done | fail) ?_ | refine stn (by (repeat constructor); first | done | fail) ?_ | refine sto (by (repeat constructor); first | done | fail) (by first | omega | (simp only; omega)) ?_ | refine .mk fun Ap capp => ?_ | refine ⟨?_, trivial⟩ | intro _); conv => whnf))
 (refine ⟨_, _, mdT_whole _ rfl _, twhole_enters, cl_mem (.cons .here (.cons .here (.cons .here .nil))) (fun w' hm' => lB_any _ _ _ _ _ _ _ _ _ _ _ w' (by omega) hm'.part hx (stb hm' (fun w'' hm'' => hv w'' hm''.fr))) ?_⟩)
 rintro e m' (⟨h4, rfl⟩ | ⟨s4, x4, A4, cap4, bA4, bc4, h4, rfl, hx, hN, hB, hP, rfl⟩)
 ·exact fin_panic (fun w' hm => ⟨_, .inl ⟨by simp only [telF, h1, h2, h3, h4], rfl⟩, hm⟩)
 replace hv := fun w'' hf => hN _ (hv w'' hf)
 replace hb := fun w'' hf => hB _ (hb w'' hf)
 replace HN := fun w'' h => hN _ (HN w'' h)
 replace HB := fun w'' h => hB _ (HB w'' h)
 replace HP : ∀ w, IntsIn .i64 w pA x.picks → IntsIn .i64 w pA x4.picks := fun w h => hP.symm ▸ HP w h
 clear hN hB hP
 conv => whnf
 have eX : xs ++ [Value.string s1] ++ [Value.string s2] ++ [Value.string s3] ++ [Value.string s4] = xs ++ ([s1, s2, s3, s4]).map Value.string := by simp
 rw [eX]
 refine fin0 rfl (fun w' hm => ?_) (by first | exact .inr rfl | exact .inl rfl)
 exact ⟨_, .inr ⟨[s1, s2, s3, s4], x4, A4, cap4, bA4, bc4, pA, pc, n + 1 + 1 + 1 + 1, _, by simp only [telF, h1, h2, h3, h4], rfl, hx, HN, HB, HP, rfl, rfl, rfl⟩, hm.sel (by (repeat constructor); first | done | fail)⟩
set_option maxRecDepth 100000 in
set_option maxHeartbeats 1000000 in
theorem k5_any (hv : Stb (TM tB A cap n xs aB x bA pA bc pc) w (fun w => NumAct w x)) (hb : Stb (TM tB A cap n xs aB x bA pA bc pc) w (fun w => BytsIn w bA x.bytes)) :
  Ctr Tryz.prog 80 [.pointer (some ⟨aB, 0, none⟩), .iface 124 (.pointer (some ⟨tB, 0, none⟩))] (TM tB A cap n xs aB x bA pA bc pc) (OverR (telF [97, 111, 66, 98] x) tB n xs aB x bA pA) w := by
 refine enter (cx := CXS 23 [] w (Foot (TM tB A cap n xs aB x bA pA bc pc))) [(0, .pointer (some ⟨aB, 0, none⟩)), (1, .iface 124 (.pointer (some ⟨tB, 0, none⟩)))] tab_ok Tryz.func80 rfl rfl rfl rfl hm ?_
 have HN : ∀ w, NumAct w x → NumAct w x := fun _ h => h
 have HB : ∀ w, BytsIn w bA x.bytes → BytsIn w bA x.bytes := fun _ h => h
 have HP : ∀ w, IntsIn .i64 w pA x.picks → IntsIn .i64 w pA x.picks := fun _ h => h
 conv => whnf
 (repeat ((first | refine stp (by (repeat constructor); first | done | fail) ?_ | refine stn (by (repeat constructor); first | done | fail) ?_ | refine sto (by (repeat constructor); first | done | fail) (by first | omega | (simp only; omega)) ?_ | refine .mk fun Ap capp => ?_ | refine ⟨?_, trivial⟩ | intro _); conv => whnf))
 refine ⟨two_enters, cl_mem (.cons .here (.cons .here (.cons .here .nil))) (fun w' hm' => two_any _ _ _ _ _ _ _ _ _ _ _ w' (by omega) hm'.part hx (stb hm' (fun w'' hm'' => hv w'' hm''.fr)) (stb hm' (fun w'' hm'' => hb w'' hm''.fr))) ?_⟩
 rintro e m' (⟨g0, rfl⟩ | ⟨ws0, x0, A0, cap0, bA0, bc0, pA0, pc0, N, XS, g0, rfl, hx, hN, hB, hP, hN0, hX0, rfl⟩)
 ·exact fin_panic (fun w' hm => ⟨_, .inl ⟨by rw [show ([97, 111, 66, 98] : List UInt8) = [97, 111] ++ [66, 98] from rfl, telF_append, g0], rfl⟩, hm⟩)
 have hl0 : ws0.length = 2 := telF_len g0
 replace hv := fun w'' hf => hN _ (hv w'' hf)
 replace hb := fun w'' hf => hB _ (hb w'' hf)
 replace HN := fun w'' h => hN _ (HN w'' h)
 replace HB := fun w'' h => hB _ (HB w'' h)
 replace HP := fun w'' h => hP _ (HP w'' h)
 rw [hl0] at hN0
 subst hN0 hX0
 conv => whnf
 (repeat ((first | (refine dr_tail 7 tab_ok mixed (by kernel_rfl) rfl rfl ?_) | refine stp (by (repeat constructor); first | done | fail) ?_ | refine stn (by (repeat constructor); first | done | fail) ?_ | refine sto (by (repeat constructor); first | done | fail) (by first | omega | (simp only; omega)) ?_ | refine .mk fun Ap capp => ?_ | refine ⟨?_, trivial⟩ | intro _); conv => whnf))
 refine ⟨naT_whole _ rfl _, ?_⟩
 conv => whnf
 (repeat ((first | refine stp (by (repeat constructor); first | done | fail) ?_ | refine stn (by (repeat constructor); first | done | fail) ?_ | refine sto (by (repeat constructor); first | done | fail) (by first | omega | (simp only; omega)) ?_ | refine .mk fun Ap capp => ?_ | refine ⟨?_, trivial⟩ | intro _); conv => whnf))
 (refine ⟨_, _, mdT_whole _ rfl _, twhole_enters, cl_mem (.cons .here (.cons .here (.cons .here .nil))) (fun w' hm' => lB_any _ _ _ _ _ _ _ _ _ _ _ w' (by omega) hm'.part hx (stb hm' (fun w'' hm'' => hv w'' hm''.fr))) ?_⟩)
 rintro e m' (⟨h1, rfl⟩ | ⟨s1, x1, A1, cap1, bA1, bc1, h1, rfl, hx, hN, hB, hP, rfl⟩)
 ·exact fin_panic (fun w' hm => ⟨_, .inl ⟨by rw [show ([97, 111, 66, 98] : List UInt8) = [97, 111] ++ [66, 98] from rfl, telF_append, g0]; simp only [telF, h1], rfl⟩, hm⟩)
 replace hv := fun w'' hf => hN _ (hv w'' hf)
 replace hb := fun w'' hf => hB _ (hb w'' hf)
 replace HN := fun w'' h => hN _ (HN w'' h)
 replace HB := fun w'' h => hB _ (HB w'' h)
 replace HP : ∀ w, IntsIn .i64 w pA x.picks → IntsIn .i64 w pA0 x1.picks := fun w h => hP.symm ▸ HP w h
 clear hN hB hP
 conv => whnf
 (repeat ((first | (refine dr_tail 7 tab_ok mixed (by kernel_rfl) rfl rfl ?_) | refine stp (by (repeat constructor); first | done | fail) ?_ | refine stn (by (repeat constructor); first | done | fail) ?_ | refine sto (by (repeat constructor); first | done | fail) (by first | omega | (simp only; omega)) ?_ | refine .mk fun Ap capp => ?_ | refine ⟨?_, trivial⟩ | intro _); conv => whnf))
 refine ⟨naT_flag _ rfl _, ?_⟩
 conv => whnf
 (repeat ((first | refine stp (by (repeat constructor); first | done | fail) ?_ | refine stn (by (repeat constructor); first | done | fail) ?_ | refine sto (by (repeat constructor); first | done | fail) (by first | omega | (simp only; omega)) ?_ | refine .mk fun Ap capp => ?_ | refine ⟨?_, trivial⟩ | intro _); conv => whnf))
 (refine ⟨_, _, mdT_flag _ rfl _, tflag_enters, cl_mem (.cons .here (.cons .here (.cons .here .nil))) (fun w' hm' => lFb_any _ _ _ _ _ _ _ _ _ _ _ w' (by omega) hm'.part hx ) ?_⟩)
 rintro e m' (⟨h2, rfl⟩ | ⟨s2, x2, A2, cap2, bA2, bc2, h2, rfl, hx, hN, hB, hP, rfl⟩)
 ·exact fin_panic (fun w' hm => ⟨_, .inl ⟨by rw [show ([97, 111, 66, 98] : List UInt8) = [97, 111] ++ [66, 98] from rfl, telF_append, g0]; simp only [telF, h1, h2], rfl⟩, hm⟩)
 replace hv := fun w'' hf => hN _ (hv w'' hf)
 replace hb := fun w'' hf => hB _ (hb w'' hf)
 replace HN := fun w'' h => hN _ (HN w'' h)
 replace HB := fun w'' h => hB _ (HB w'' h)
 replace HP : ∀ w, IntsIn .i64 w pA x.picks → IntsIn .i64 w pA0 x2.picks := fun w h => hP.symm ▸ HP w h
 clear hN hB hP
 conv => whnf
 have eX : xs ++ ws0.map Value.string ++ [Value.string s1] ++ [Value.string s2] = xs ++ (ws0 ++ [s1, s2]).map Value.string := by simp
 rw [eX]
 refine fin0 rfl (fun w' hm => ?_) (by first | exact .inr rfl | exact .inl rfl)
 exact ⟨_, .inr ⟨ws0 ++ [s1, s2], x2, A2, cap2, bA2, bc2, pA0, pc0, n + 2 + 1 + 1, _, by rw [show ([97, 111, 66, 98] : List UInt8) = [97, 111] ++ [66, 98] from rfl, telF_append, g0]; simp only [telF, h1, h2], rfl, hx, HN, HB, HP, by rw [List.length_append, hl0]; rfl, rfl, rfl⟩, hm.sel (by (repeat constructor); first | done | fail)⟩
set_option maxRecDepth 100000 in
set_option maxHeartbeats 1000000 in
theorem k6_any (hv : Stb (TM tB A cap n xs aB x bA pA bc pc) w (fun w => NumAct w x)) (hb : Stb (TM tB A cap n xs aB x bA pA bc pc) w (fun w => BytsIn w bA x.bytes)) :
  Ctr Tryz.prog 81 [.pointer (some ⟨aB, 0, none⟩), .iface 124 (.pointer (some ⟨tB, 0, none⟩))] (TM tB A cap n xs aB x bA pA bc pc) (OverR (telF [97, 111, 98] x) tB n xs aB x bA pA) w := by
 refine enter (cx := CXS 15 [] w (Foot (TM tB A cap n xs aB x bA pA bc pc))) [(0, .pointer (some ⟨aB, 0, none⟩)), (1, .iface 124 (.pointer (some ⟨tB, 0, none⟩)))] tab_ok Tryz.func81 rfl rfl rfl rfl hm ?_
 have HN : ∀ w, NumAct w x → NumAct w x := fun _ h => h
 have HB : ∀ w, BytsIn w bA x.bytes → BytsIn w bA x.bytes := fun _ h => h
 have HP : ∀ w, IntsIn .i64 w pA x.picks → IntsIn .i64 w pA x.picks := fun _ h => h
 conv => whnf
 (repeat ((first | refine stp (by (repeat constructor); first | done | fail) ?_ | refine stn (by (repeat constructor); first | done | fail) ?_ | refine sto (by (repeat constructor); first | done | fail) (by first | omega | (simp only; omega)) ?_ | refine .mk fun Ap capp => ?_ | refine ⟨?_, trivial⟩ | intro _); conv => whnf))
 refine ⟨two_enters, cl_mem (.cons .here (.cons .here (.cons .here .nil))) (fun w' hm' => two_any _ _ _ _ _ _ _ _ _ _ _ w' (by omega) hm'.part hx (stb hm' (fun w'' hm'' => hv w'' hm''.fr)) (stb hm' (fun w'' hm'' => hb w'' hm''.fr))) ?_⟩
 rintro e m' (⟨g0, rfl⟩ | ⟨ws0, x0, A0, cap0, bA0, bc0, pA0, pc0, N, XS, g0, rfl, hx, hN, hB, hP, hN0, hX0, rfl⟩)
 ·exact fin_panic (fun w' hm => ⟨_, .inl ⟨by rw [show ([97, 111, 98] : List UInt8) = [97, 111] ++ [98] from rfl, telF_append, g0], rfl⟩, hm⟩)
 have hl0 : ws0.length = 2 := telF_len g0
 replace hv := fun w'' hf => hN _ (hv w'' hf)
 replace hb := fun w'' hf => hB _ (hb w'' hf)
 replace HN := fun w'' h => hN _ (HN w'' h)
 replace HB := fun w'' h => hB _ (HB w'' h)
 replace HP := fun w'' h => hP _ (HP w'' h)
 rw [hl0] at hN0
 subst hN0 hX0
 conv => whnf
 (repeat ((first | (refine dr_tail 7 tab_ok mixed (by kernel_rfl) rfl rfl ?_) | refine stp (by (repeat constructor); first | done | fail) ?_ | refine stn (by (repeat constructor); first | done | fail) ?_ | refine sto (by (repeat constructor); first | done | fail) (by first | omega | (simp only; omega)) ?_ | refine .mk fun Ap capp => ?_ | refine ⟨?_, trivial⟩ | intro _); conv => whnf))
 refine ⟨naT_flag _ rfl _, ?_⟩
 conv => whnf
 (repeat ((first | refine stp (by (repeat constructor); first | done | fail) ?_ | refine stn (by (repeat constructor); first | done | fail) ?_ | refine sto (by (repeat constructor); first | done | fail) (by first | omega | (simp only; omega)) ?_ | refine .mk fun Ap capp => ?_ | refine ⟨?_, trivial⟩ | intro _); conv => whnf))
 (refine ⟨_, _, mdT_flag _ rfl _, tflag_enters, cl_mem (.cons .here (.cons .here (.cons .here .nil))) (fun w' hm' => lFb_any _ _ _ _ _ _ _ _ _ _ _ w' (by omega) hm'.part hx ) ?_⟩)
 rintro e m' (⟨h1, rfl⟩ | ⟨s1, x1, A1, cap1, bA1, bc1, h1, rfl, hx, hN, hB, hP, rfl⟩)
 ·exact fin_panic (fun w' hm => ⟨_, .inl ⟨by rw [show ([97, 111, 98] : List UInt8) = [97, 111] ++ [98] from rfl, telF_append, g0]; simp only [telF, h1], rfl⟩, hm⟩)
 replace hv := fun w'' hf => hN _ (hv w'' hf)
 replace hb := fun w'' hf => hB _ (hb w'' hf)
 replace HN := fun w'' h => hN _ (HN w'' h)
 replace HB := fun w'' h => hB _ (HB w'' h)
 replace HP : ∀ w, IntsIn .i64 w pA x.picks → IntsIn .i64 w pA0 x1.picks := fun w h => hP.symm ▸ HP w h
 clear hN hB hP
 conv => whnf
 have eX : xs ++ ws0.map Value.string ++ [Value.string s1] = xs ++ (ws0 ++ [s1]).map Value.string := by simp
 rw [eX]
 refine fin0 rfl (fun w' hm => ?_) (by first | exact .inr rfl | exact .inl rfl)
 exact ⟨_, .inr ⟨ws0 ++ [s1], x1, A1, cap1, bA1, bc1, pA0, pc0, n + 2 + 1, _, by rw [show ([97, 111, 98] : List UInt8) = [97, 111] ++ [98] from rfl, telF_append, g0]; simp only [telF, h1], rfl, hx, HN, HB, HP, by rw [List.length_append, hl0]; rfl, rfl, rfl⟩, hm.sel (by (repeat constructor); first | done | fail)⟩
set_option maxRecDepth 100000 in
set_option maxHeartbeats 1000000 in
theorem k7_any (hv : Stb (TM tB A cap n xs aB x bA pA bc pc) w (fun w => NumAct w x)) (hb : Stb (TM tB A cap n xs aB x bA pA bc pc) w (fun w => BytsIn w bA x.bytes)) :
  Ctr Tryz.prog 82 [.pointer (some ⟨aB, 0, none⟩), .iface 124 (.pointer (some ⟨tB, 0, none⟩))] (TM tB A cap n xs aB x bA pA bc pc) (OverR (telF [97, 111, 116] x) tB n xs aB x bA pA) w := by
 refine enter (cx := CXS 15 [] w (Foot (TM tB A cap n xs aB x bA pA bc pc))) [(0, .pointer (some ⟨aB, 0, none⟩)), (1, .iface 124 (.pointer (some ⟨tB, 0, none⟩)))] tab_ok Tryz.func82 rfl rfl rfl rfl hm ?_
 have HN : ∀ w, NumAct w x → NumAct w x := fun _ h => h
 have HB : ∀ w, BytsIn w bA x.bytes → BytsIn w bA x.bytes := fun _ h => h
 have HP : ∀ w, IntsIn .i64 w pA x.picks → IntsIn .i64 w pA x.picks := fun _ h => h
 conv => whnf
 (repeat ((first | refine stp (by (repeat constructor); first | done | fail) ?_ | refine stn (by (repeat constructor); first | done | fail) ?_ | refine sto (by (repeat constructor); first | done | fail) (by first | omega | (simp only; omega)) ?_ | refine .mk fun Ap capp => ?_ | refine ⟨?_, trivial⟩ | intro _); conv => whnf))
 refine ⟨two_enters, cl_mem (.cons .here (.cons .here (.cons .here .nil))) (fun w' hm' => two_any _ _ _ _ _ _ _ _ _ _ _ w' (by omega) hm'.part hx (stb hm' (fun w'' hm'' => hv w'' hm''.fr)) (stb hm' (fun w'' hm'' => hb w'' hm''.fr))) ?_⟩
 rintro e m' (⟨g0, rfl⟩ | ⟨ws0, x0, A0, cap0, bA0, bc0, pA0, pc0, N, XS, g0, rfl, hx, hN, hB, hP, hN0, hX0, rfl⟩)
 ·exact fin_panic (fun w' hm => ⟨_, .inl ⟨by rw [show ([97, 111, 116] : List UInt8) = [97, 111] ++ [116] from rfl, telF_append, g0], rfl⟩, hm⟩)
 have hl0 : ws0.length = 2 := telF_len g0
 replace hv := fun w'' hf => hN _ (hv w'' hf)
 replace hb := fun w'' hf => hB _ (hb w'' hf)
 replace HN := fun w'' h => hN _ (HN w'' h)
 replace HB := fun w'' h => hB _ (HB w'' h)
 replace HP := fun w'' h => hP _ (HP w'' h)
 rw [hl0] at hN0
 subst hN0 hX0
 conv => whnf
 (repeat ((first | (refine dr_tail 7 tab_ok mixed (by kernel_rfl) rfl rfl ?_) | refine stp (by (repeat constructor); first | done | fail) ?_ | refine stn (by (repeat constructor); first | done | fail) ?_ | refine sto (by (repeat constructor); first | done | fail) (by first | omega | (simp only; omega)) ?_ | refine .mk fun Ap capp => ?_ | refine ⟨?_, trivial⟩ | intro _); conv => whnf))
 refine ⟨naT_name _ rfl _, ?_⟩
 conv => whnf
 (repeat ((first | refine stp (by (repeat constructor); first | done | fail) ?_ | refine stn (by (repeat constructor); first | done | fail) ?_ | refine sto (by (repeat constructor); first | done | fail) (by first | omega | (simp only; omega)) ?_ | refine .mk fun Ap capp => ?_ | refine ⟨?_, trivial⟩ | intro _); conv => whnf))
 (refine ⟨_, _, mdT_name _ rfl _, tname_enters, cl_mem (.cons .here (.cons .here (.cons .here .nil))) (fun w' hm' => lT_any _ _ _ _ _ _ _ _ _ _ _ w' (by omega) hm'.part hx ) ?_⟩)
 rintro e m' (⟨h1, rfl⟩ | ⟨s1, x1, A1, cap1, bA1, bc1, h1, rfl, hx, hN, hB, hP, rfl⟩)
 ·exact fin_panic (fun w' hm => ⟨_, .inl ⟨by rw [show ([97, 111, 116] : List UInt8) = [97, 111] ++ [116] from rfl, telF_append, g0]; simp only [telF, h1], rfl⟩, hm⟩)
 replace hv := fun w'' hf => hN _ (hv w'' hf)
 replace hb := fun w'' hf => hB _ (hb w'' hf)
 replace HN := fun w'' h => hN _ (HN w'' h)
 replace HB := fun w'' h => hB _ (HB w'' h)
 replace HP : ∀ w, IntsIn .i64 w pA x.picks → IntsIn .i64 w pA0 x1.picks := fun w h => hP.symm ▸ HP w h
 clear hN hB hP
 conv => whnf
 have eX : xs ++ ws0.map Value.string ++ [Value.string s1] = xs ++ (ws0 ++ [s1]).map Value.string := by simp
 rw [eX]
 refine fin0 rfl (fun w' hm => ?_) (by first | exact .inr rfl | exact .inl rfl)
 exact ⟨_, .inr ⟨ws0 ++ [s1], x1, A1, cap1, bA1, bc1, pA0, pc0, n + 2 + 1, _, by rw [show ([97, 111, 116] : List UInt8) = [97, 111] ++ [116] from rfl, telF_append, g0]; simp only [telF, h1], rfl, hx, HN, HB, HP, by rw [List.length_append, hl0]; rfl, rfl, rfl⟩, hm.sel (by (repeat constructor); first | done | fail)⟩
set_option maxRecDepth 100000 in
set_option maxHeartbeats 1000000 in
theorem k8_any (hv : Stb (TM tB A cap n xs aB x bA pA bc pc) w (fun w => NumAct w x)) (hb : Stb (TM tB A cap n xs aB x bA pA bc pc) w (fun w => BytsIn w bA x.bytes)) :
  Ctr Tryz.prog 83 [.pointer (some ⟨aB, 0, none⟩), .iface 124 (.pointer (some ⟨tB, 0, none⟩))] (TM tB A cap n xs aB x bA pA bc pc) (OverR (telF [97, 78] x) tB n xs aB x bA pA) w := by
 refine enter (cx := CXS 20 [] w (Foot (TM tB A cap n xs aB x bA pA bc pc))) [(0, .pointer (some ⟨aB, 0, none⟩)), (1, .iface 124 (.pointer (some ⟨tB, 0, none⟩)))] tab_ok Tryz.func83 rfl rfl rfl rfl hm ?_
 have HN : ∀ w, NumAct w x → NumAct w x := fun _ h => h
 have HB : ∀ w, BytsIn w bA x.bytes → BytsIn w bA x.bytes := fun _ h => h
 have HP : ∀ w, IntsIn .i64 w pA x.picks → IntsIn .i64 w pA x.picks := fun _ h => h
 conv => whnf
 (repeat ((first | (refine dr_tail 7 tab_ok mixed (by kernel_rfl) rfl rfl ?_) | refine stp (by (repeat constructor); first | done | fail) ?_ | refine stn (by (repeat constructor); first | done | fail) ?_ | refine sto (by (repeat constructor); first | done | fail) (by first | omega | (simp only; omega)) ?_ | refine .mk fun Ap capp => ?_ | refine ⟨?_, trivial⟩ | intro _); conv => whnf))
 refine ⟨naT_name _ rfl _, ?_⟩
 conv => whnf
 (repeat ((first | refine stp (by (repeat constructor); first | done | fail) ?_ | refine stn (by (repeat constructor); first | done | fail) ?_ | refine sto (by (repeat constructor); first | done | fail) (by first | omega | (simp only; omega)) ?_ | refine .mk fun Ap capp => ?_ | refine ⟨?_, trivial⟩ | intro _); conv => whnf))
 (refine ⟨_, _, mdT_name _ rfl _, tname_enters, cl_mem (.cons .here (.cons .here (.cons .here .nil))) (fun w' hm' => lN_any _ _ _ _ _ _ _ _ _ _ _ w' (by omega) hm'.part hx ) ?_⟩)
 rintro e m' (⟨h1, rfl⟩ | ⟨s1, x1, A1, cap1, bA1, bc1, h1, rfl, hx, hN, hB, hP, rfl⟩)
 ·exact fin_panic (fun w' hm => ⟨_, .inl ⟨by simp only [telF, h1], rfl⟩, hm⟩)
 replace hv := fun w'' hf => hN _ (hv w'' hf)
 replace hb := fun w'' hf => hB _ (hb w'' hf)
 replace HN := fun w'' h => hN _ (HN w'' h)
 replace HB := fun w'' h => hB _ (HB w'' h)
 replace HP : ∀ w, IntsIn .i64 w pA x.picks → IntsIn .i64 w pA x1.picks := fun w h => hP.symm ▸ HP w h
 clear hN hB hP
 conv => whnf
 (repeat ((first | (refine dr_tail 7 tab_ok mixed (by kernel_rfl) rfl rfl ?_) | refine stp (by (repeat constructor); first | done | fail) ?_ | refine stn (by (repeat constructor); first | done | fail) ?_ | refine sto (by (repeat constructor); first | done | fail) (by first | omega | (simp only; omega)) ?_ | refine .mk fun Ap capp => ?_ | refine ⟨?_, trivial⟩ | intro _); conv => whnf))
 refine ⟨naT_long _ rfl _, ?_⟩
 conv => whnf
 (repeat ((first | refine stp (by (repeat constructor); first | done | fail) ?_ | refine stn (by (repeat constructor); first | done | fail) ?_ | refine sto (by (repeat constructor); first | done | fail) (by first | omega | (simp only; omega)) ?_ | refine .mk fun Ap capp => ?_ | refine ⟨?_, trivial⟩ | intro _); conv => whnf))
 (refine ⟨_, _, mdT_long _ rfl _, tlong_enters, cl_mem (.cons .here (.cons .here (.cons .here .nil))) (fun w' hm' => lM_any _ _ _ _ _ _ _ _ _ _ _ w' (by omega) hm'.part hx (stb hm' (fun w'' hm'' => hv w'' hm''.fr))) ?_⟩)
 rintro e m' (⟨h2, rfl⟩ | ⟨s2, x2, A2, cap2, bA2, bc2, h2, rfl, hx, hN, hB, hP, rfl⟩)
 ·exact fin_panic (fun w' hm => ⟨_, .inl ⟨by simp only [telF, h1, h2], rfl⟩, hm⟩)
 replace hv := fun w'' hf => hN _ (hv w'' hf)
 replace hb := fun w'' hf => hB _ (hb w'' hf)
 replace HN := fun w'' h => hN _ (HN w'' h)
 replace HB := fun w'' h => hB _ (HB w'' h)
 replace HP : ∀ w, IntsIn .i64 w pA x.picks → IntsIn .i64 w pA x2.picks := fun w h => hP.symm ▸ HP w h
 clear hN hB hP
 conv => whnf
 have eX : xs ++ [Value.string s1] ++ [Value.string s2] = xs ++ ([s1, s2]).map Value.string := by simp
 rw [eX]
 refine fin0 rfl (fun w' hm => ?_) (by first | exact .inr rfl | exact .inl rfl)
 exact ⟨_, .inr ⟨[s1, s2], x2, A2, cap2, bA2, bc2, pA, pc, n + 1 + 1, _, by simp only [telF, h1, h2], rfl, hx, HN, HB, HP, rfl, rfl, rfl⟩, hm.sel (by (repeat constructor); first | done | fail)⟩
set_option maxRecDepth 100000 in
set_option maxHeartbeats 1000000 in
theorem k9_any (hv : Stb (TM tB A cap n xs aB x bA pA bc pc) w (fun w => NumAct w x)) (hb : Stb (TM tB A cap n xs aB x bA pA bc pc) w (fun w => BytsIn w bA x.bytes)) :
  Ctr Tryz.prog 84 [.pointer (some ⟨aB, 0, none⟩), .iface 124 (.pointer (some ⟨tB, 0, none⟩))] (TM tB A cap n xs aB x bA pA bc pc) (OverR (telF [97, 79, 115] x) tB n xs aB x bA pA) w := by
 refine enter (cx := CXS 28 [] w (Foot (TM tB A cap n xs aB x bA pA bc pc))) [(0, .pointer (some ⟨aB, 0, none⟩)), (1, .iface 124 (.pointer (some ⟨tB, 0, none⟩)))] tab_ok Tryz.func84 rfl rfl rfl rfl hm ?_
 have HN : ∀ w, NumAct w x → NumAct w x := fun _ h => h
 have HB : ∀ w, BytsIn w bA x.bytes → BytsIn w bA x.bytes := fun _ h => h
 have HP : ∀ w, IntsIn .i64 w pA x.picks → IntsIn .i64 w pA x.picks := fun _ h => h
 conv => whnf
 (repeat ((first | (refine dr_tail 7 tab_ok mixed (by kernel_rfl) rfl rfl ?_) | refine stp (by (repeat constructor); first | done | fail) ?_ | refine stn (by (repeat constructor); first | done | fail) ?_ | refine sto (by (repeat constructor); first | done | fail) (by first | omega | (simp only; omega)) ?_ | refine .mk fun Ap capp => ?_ | refine ⟨?_, trivial⟩ | intro _); conv => whnf))
 refine ⟨naT_name _ rfl _, ?_⟩
 conv => whnf
 (repeat ((first | refine stp (by (repeat constructor); first | done | fail) ?_ | refine stn (by (repeat constructor); first | done | fail) ?_ | refine sto (by (repeat constructor); first | done | fail) (by first | omega | (simp only; omega)) ?_ | refine .mk fun Ap capp => ?_ | refine ⟨?_, trivial⟩ | intro _); conv => whnf))
 (refine ⟨_, _, mdT_name _ rfl _, tname_enters, cl_mem (.cons .here (.cons .here (.cons .here .nil))) (fun w' hm' => lN_any _ _ _ _ _ _ _ _ _ _ _ w' (by omega) hm'.part hx ) ?_⟩)
 rintro e m' (⟨h1, rfl⟩ | ⟨s1, x1, A1, cap1, bA1, bc1, h1, rfl, hx, hN, hB, hP, rfl⟩)
 ·exact fin_panic (fun w' hm => ⟨_, .inl ⟨by simp only [telF, h1], rfl⟩, hm⟩)
 replace hv := fun w'' hf => hN _ (hv w'' hf)
 replace hb := fun w'' hf => hB _ (hb w'' hf)
 replace HN := fun w'' h => hN _ (HN w'' h)
 replace HB := fun w'' h => hB _ (HB w'' h)
 replace HP : ∀ w, IntsIn .i64 w pA x.picks → IntsIn .i64 w pA x1.picks := fun w h => hP.symm ▸ HP w h
 clear hN hB hP
 conv => whnf
 (repeat ((first | (refine dr_tail 7 tab_ok mixed (by kernel_rfl) rfl rfl ?_) | refine stp (by (repeat constructor); first | done | fail) ?_ | refine stn (by (repeat constructor); first | done | fail) ?_ | refine sto (by (repeat constructor); first | done | fail) (by first | omega | (simp only; omega)) ?_ | refine .mk fun Ap capp => ?_ | refine ⟨?_, trivial⟩ | intro _); conv => whnf))
 refine ⟨naT_name _ rfl _, ?_⟩
 conv => whnf
 (repeat ((first | refine stp (by (repeat constructor); first | done | fail) ?_ | refine stn (by (repeat constructor); first | done | fail) ?_ | refine sto (by (repeat constructor); first | done | fail) (by first | omega | (simp only; omega)) ?_ | refine .mk fun Ap capp => ?_ | refine ⟨?_, trivial⟩ | intro _); conv => whnf))
 (refine ⟨_, _, mdT_name _ rfl _, tname_enters, cl_mem (.cons .here (.cons .here (.cons .here .nil))) (fun w' hm' => lE_any _ _ _ _ _ _ _ _ _ _ _ w' (by omega) hm'.part hx ) ?_⟩)
 rintro e m' (⟨h2, rfl⟩ | ⟨s2, x2, A2, cap2, bA2, bc2, h2, rfl, hx, hN, hB, hP, rfl⟩)
 ·exact fin_panic (fun w' hm => ⟨_, .inl ⟨by simp only [telF, h1, h2], rfl⟩, hm⟩)
 replace hv := fun w'' hf => hN _ (hv w'' hf)
 replace hb := fun w'' hf => hB _ (hb w'' hf)
 replace HN := fun w'' h => hN _ (HN w'' h)
 replace HB := fun w'' h => hB _ (HB w'' h)
 replace HP : ∀ w, IntsIn .i64 w pA x.picks → IntsIn .i64 w pA x2.picks := fun w h => hP.symm ▸ HP w h
 clear hN hB hP
 conv => whnf
 (repeat ((first | (refine dr_tail 7 tab_ok mixed (by kernel_rfl) rfl rfl ?_) | refine stp (by (repeat constructor); first | done | fail) ?_ | refine stn (by (repeat constructor); first | done | fail) ?_ | refine sto (by (repeat constructor); first | done | fail) (by first | omega | (simp only; omega)) ?_ | refine .mk fun Ap capp => ?_ | refine ⟨?_, trivial⟩ | intro _); conv => whnf))
 refine ⟨naT_flag _ rfl _, ?_⟩
 conv => whnf
 (repeat ((first | refine stp (by (repeat constructor); first | done | fail) ?_ | refine stn (by (repeat constructor); first | done | fail) ?_ | refine sto (by (repeat constructor); first | done | fail) (by first | omega | (simp only; omega)) ?_ | refine .mk fun Ap capp => ?_ | refine ⟨?_, trivial⟩ | intro _); conv => whnf))
 (refine ⟨_, _, mdT_flag _ rfl _, tflag_enters, cl_mem (.cons .here (.cons .here (.cons .here .nil))) (fun w' hm' => lFs_any _ _ _ _ _ _ _ _ _ _ _ w' (by omega) hm'.part hx ) ?_⟩)
 rintro e m' (⟨h3, rfl⟩ | ⟨s3, x3, A3, cap3, bA3, bc3, h3, rfl, hx, hN, hB, hP, rfl⟩)
 ·exact fin_panic (fun w' hm => ⟨_, .inl ⟨by simp only [telF, h1, h2, h3], rfl⟩, hm⟩)
 replace hv := fun w'' hf => hN _ (hv w'' hf)
 replace hb := fun w'' hf => hB _ (hb w'' hf)
 replace HN := fun w'' h => hN _ (HN w'' h)
 replace HB := fun w'' h => hB _ (HB w'' h)
 replace HP : ∀ w, IntsIn .i64 w pA x.picks → IntsIn .i64 w pA x3.picks := fun w h => hP.symm ▸ HP w h
 clear hN hB hP
 conv => whnf
 have eX : xs ++ [Value.string s1] ++ [Value.string s2] ++ [Value.string s3] = xs ++ ([s1, s2, s3]).map Value.string := by simp
 rw [eX]
 refine fin0 rfl (fun w' hm => ?_) (by first | exact .inr rfl | exact .inl rfl)
 exact ⟨_, .inr ⟨[s1, s2, s3], x3, A3, cap3, bA3, bc3, pA, pc, n + 1 + 1 + 1, _, by simp only [telF, h1, h2, h3], rfl, hx, HN, HB, HP, rfl, rfl, rfl⟩, hm.sel (by (repeat constructor); first | done | fail)⟩
set_option maxRecDepth 100000 in
set_option maxHeartbeats 1000000 in
theorem k10_any (hv : Stb (TM tB A cap n xs aB x bA pA bc pc) w (fun w => NumAct w x)) (hb : Stb (TM tB A cap n xs aB x bA pA bc pc) w (fun w => BytsIn w bA x.bytes)) :
  Ctr Tryz.prog 85 [.pointer (some ⟨aB, 0, none⟩), .iface 124 (.pointer (some ⟨tB, 0, none⟩))] (TM tB A cap n xs aB x bA pA bc pc) (OverR (telF [97, 111, 66, 82, 112] x) tB n xs aB x bA pA) w := by
 refine enter (cx := CXS 31 [] w (Foot (TM tB A cap n xs aB x bA pA bc pc))) [(0, .pointer (some ⟨aB, 0, none⟩)), (1, .iface 124 (.pointer (some ⟨tB, 0, none⟩)))] tab_ok Tryz.func85 rfl rfl rfl rfl hm ?_
 have HN : ∀ w, NumAct w x → NumAct w x := fun _ h => h
 have HB : ∀ w, BytsIn w bA x.bytes → BytsIn w bA x.bytes := fun _ h => h
 have HP : ∀ w, IntsIn .i64 w pA x.picks → IntsIn .i64 w pA x.picks := fun _ h => h
 conv => whnf
 (repeat ((first | refine stp (by (repeat constructor); first | done | fail) ?_ | refine stn (by (repeat constructor); first | done | fail) ?_ | refine sto (by (repeat constructor); first | done | fail) (by first | omega | (simp only; omega)) ?_ | refine .mk fun Ap capp => ?_ | refine ⟨?_, trivial⟩ | intro _); conv => whnf))
 refine ⟨two_enters, cl_mem (.cons .here (.cons .here (.cons .here .nil))) (fun w' hm' => two_any _ _ _ _ _ _ _ _ _ _ _ w' (by omega) hm'.part hx (stb hm' (fun w'' hm'' => hv w'' hm''.fr)) (stb hm' (fun w'' hm'' => hb w'' hm''.fr))) ?_⟩
 rintro e m' (⟨g0, rfl⟩ | ⟨ws0, x0, A0, cap0, bA0, bc0, pA0, pc0, N, XS, g0, rfl, hx, hN, hB, hP, hN0, hX0, rfl⟩)
 ·exact fin_panic (fun w' hm => ⟨_, .inl ⟨by rw [show ([97, 111, 66, 82, 112] : List UInt8) = [97, 111] ++ [66, 82, 112] from rfl, telF_append, g0], rfl⟩, hm⟩)
 have hl0 : ws0.length = 2 := telF_len g0
 replace hv := fun w'' hf => hN _ (hv w'' hf)
 replace hb := fun w'' hf => hB _ (hb w'' hf)
 replace HN := fun w'' h => hN _ (HN w'' h)
 replace HB := fun w'' h => hB _ (HB w'' h)
 replace HP := fun w'' h => hP _ (HP w'' h)
 rw [hl0] at hN0
 subst hN0 hX0
 conv => whnf
 (repeat ((first | (refine dr_tail 7 tab_ok mixed (by kernel_rfl) rfl rfl ?_) | refine stp (by (repeat constructor); first | done | fail) ?_ | refine stn (by (repeat constructor); first | done | fail) ?_ | refine sto (by (repeat constructor); first | done | fail) (by first | omega | (simp only; omega)) ?_ | refine .mk fun Ap capp => ?_ | refine ⟨?_, trivial⟩ | intro _); conv => whnf))
 refine ⟨naT_whole _ rfl _, ?_⟩
 conv => whnf
 (repeat ((first | refine stp (by (repeat constructor); first | done | fail) ?_ | refine stn (by (repeat constructor); first | done | fail) ?_ | refine sto (by (repeat constructor); first | done | fail) (by first | omega | (simp only; omega)) ?_ | refine .mk fun Ap capp => ?_ | refine ⟨?_, trivial⟩ | intro _); conv => whnf))
 (refine ⟨_, _, mdT_whole _ rfl _, twhole_enters, cl_mem (.cons .here (.cons .here (.cons .here .nil))) (fun w' hm' => lB_any _ _ _ _ _ _ _ _ _ _ _ w' (by omega) hm'.part hx (stb hm' (fun w'' hm'' => hv w'' hm''.fr))) ?_⟩)
 rintro e m' (⟨h1, rfl⟩ | ⟨s1, x1, A1, cap1, bA1, bc1, h1, rfl, hx, hN, hB, hP, rfl⟩)
 ·exact fin_panic (fun w' hm => ⟨_, .inl ⟨by rw [show ([97, 111, 66, 82, 112] : List UInt8) = [97, 111] ++ [66, 82, 112] from rfl, telF_append, g0]; simp only [telF, h1], rfl⟩, hm⟩)
 replace hv := fun w'' hf => hN _ (hv w'' hf)
 replace hb := fun w'' hf => hB _ (hb w'' hf)
 replace HN := fun w'' h => hN _ (HN w'' h)
 replace HB := fun w'' h => hB _ (HB w'' h)
 replace HP : ∀ w, IntsIn .i64 w pA x.picks → IntsIn .i64 w pA0 x1.picks := fun w h => hP.symm ▸ HP w h
 clear hN hB hP
 conv => whnf
 (repeat ((first | (refine dr_tail 7 tab_ok mixed (by kernel_rfl) rfl rfl ?_) | refine stp (by (repeat constructor); first | done | fail) ?_ | refine stn (by (repeat constructor); first | done | fail) ?_ | refine sto (by (repeat constructor); first | done | fail) (by first | omega | (simp only; omega)) ?_ | refine .mk fun Ap capp => ?_ | refine ⟨?_, trivial⟩ | intro _); conv => whnf))
 refine ⟨naT_whole _ rfl _, ?_⟩
 conv => whnf
 (repeat ((first | refine stp (by (repeat constructor); first | done | fail) ?_ | refine stn (by (repeat constructor); first | done | fail) ?_ | refine sto (by (repeat constructor); first | done | fail) (by first | omega | (simp only; omega)) ?_ | refine .mk fun Ap capp => ?_ | refine ⟨?_, trivial⟩ | intro _); conv => whnf))
 (refine ⟨_, _, mdT_whole _ rfl _, twhole_enters, cl_mem (.cons .here (.cons .here (.cons .here .nil))) (fun w' hm' => lR_any _ _ _ _ _ _ _ _ _ _ _ w' (by omega) hm'.part hx (stb hm' (fun w'' hm'' => hv w'' hm''.fr))) ?_⟩)
 rintro e m' (⟨h2, rfl⟩ | ⟨s2, x2, A2, cap2, bA2, bc2, h2, rfl, hx, hN, hB, hP, rfl⟩)
 ·exact fin_panic (fun w' hm => ⟨_, .inl ⟨by rw [show ([97, 111, 66, 82, 112] : List UInt8) = [97, 111] ++ [66, 82, 112] from rfl, telF_append, g0]; simp only [telF, h1, h2], rfl⟩, hm⟩)
 replace hv := fun w'' hf => hN _ (hv w'' hf)
 replace hb := fun w'' hf => hB _ (hb w'' hf)
 replace HN := fun w'' h => hN _ (HN w'' h)
 replace HB := fun w'' h => hB _ (HB w'' h)
 replace HP : ∀ w, IntsIn .i64 w pA x.picks → IntsIn .i64 w pA0 x2.picks := fun w h => hP.symm ▸ HP w h
 clear hN hB hP
 conv => whnf
 (repeat ((first | (refine dr_tail 7 tab_ok mixed (by kernel_rfl) rfl rfl ?_) | refine stp (by (repeat constructor); first | done | fail) ?_ | refine stn (by (repeat constructor); first | done | fail) ?_ | refine sto (by (repeat constructor); first | done | fail) (by first | omega | (simp only; omega)) ?_ | refine .mk fun Ap capp => ?_ | refine ⟨?_, trivial⟩ | intro _); conv => whnf))
 refine ⟨naT_flag _ rfl _, ?_⟩
 conv => whnf
 (repeat ((first | refine stp (by (repeat constructor); first | done | fail) ?_ | refine stn (by (repeat constructor); first | done | fail) ?_ | refine sto (by (repeat constructor); first | done | fail) (by first | omega | (simp only; omega)) ?_ | refine .mk fun Ap capp => ?_ | refine ⟨?_, trivial⟩ | intro _); conv => whnf))
 (refine ⟨_, _, mdT_flag _ rfl _, tflag_enters, cl_mem (.cons .here (.cons .here (.cons .here .nil))) (fun w' hm' => lFp_any _ _ _ _ _ _ _ _ _ _ _ w' (by omega) hm'.part hx ) ?_⟩)
 rintro e m' (⟨h3, rfl⟩ | ⟨s3, x3, A3, cap3, bA3, bc3, h3, rfl, hx, hN, hB, hP, rfl⟩)
 ·exact fin_panic (fun w' hm => ⟨_, .inl ⟨by rw [show ([97, 111, 66, 82, 112] : List UInt8) = [97, 111] ++ [66, 82, 112] from rfl, telF_append, g0]; simp only [telF, h1, h2, h3], rfl⟩, hm⟩)
 replace hv := fun w'' hf => hN _ (hv w'' hf)
 replace hb := fun w'' hf => hB _ (hb w'' hf)
 replace HN := fun w'' h => hN _ (HN w'' h)
 replace HB := fun w'' h => hB _ (HB w'' h)
 replace HP : ∀ w, IntsIn .i64 w pA x.picks → IntsIn .i64 w pA0 x3.picks := fun w h => hP.symm ▸ HP w h
 clear hN hB hP
 conv => whnf
 have eX : xs ++ ws0.map Value.string ++ [Value.string s1] ++ [Value.string s2] ++ [Value.string s3] = xs ++ (ws0 ++ [s1, s2, s3]).map Value.string := by simp
 rw [eX]
 refine fin0 rfl (fun w' hm => ?_) (by first | exact .inr rfl | exact .inl rfl)
 exact ⟨_, .inr ⟨ws0 ++ [s1, s2, s3], x3, A3, cap3, bA3, bc3, pA0, pc0, n + 2 + 1 + 1 + 1, _, by rw [show ([97, 111, 66, 82, 112] : List UInt8) = [97, 111] ++ [66, 82, 112] from rfl, telF_append, g0]; simp only [telF, h1, h2, h3], rfl, hx, HN, HB, HP, by rw [List.length_append, hl0]; rfl, rfl, rfl⟩, hm.sel (by (repeat constructor); first | done | fail)⟩
end
end Go.Proofs.YtbfbjgakmnckbaaGreatDoor
namespace Go.Proofs.YtbfbjgakmnckbaaGreatDoor
open Go Go.RowKit Eng

theorem eqS_nil (ox : Nat) (w : World) : (eqSem .eql 20 (.tmp ox) (.const .nilIface) .nilIface .nilIface).run Tryz.prog w = .ok (.bool true) w := by kernel_rfl
theorem eqS_ref (ox : Operand) (n : Int) (w : World) : (eqSem .eql 20 ox (.const .nilIface) (.iface 145 (.agg #[.int .i64 n])) .nilIface).run Tryz.prog w = .ok (.bool false) w := by kernel_rfl
theorem asS_ref (n : Int) (w : World) : (Instr.typeAssert (.iface 145 (.agg #[.int .i64 n])) 20 145 true).run Tryz.prog w = .ok (.tuple #[.agg #[.int .i64 n], .bool true]) w := by kernel_rfl
attribute [local irreducible] Br Rn RnU Cl RdG CpG Ld Rd Lp Dr Oth Cut fin Fits Eng.Enters Md NA
attribute [local irreducible] finD WD
abbrev EM (E : Nat) (n : Int) : Mem := [.blk E (.cells #[.int .i64 n] 33)]
set_option maxRecDepth 100000 in
theorem face1_ret (E : Nat) (n : Int) (w : World) (hm : MemOk w (Foot (EM E n)) (EM E n) w) : CtrD Tryz.prog 88 [.pointer (some ⟨E, 0, none⟩)] .returning (EM E n) (fun e u' m' => e = .returned (.tuple #[]) ∧ u' = .returning ∧ m' = EM E n) w := by
 refine (enter_rec (cx := CXS 12 [] w (Foot (EM E n))) (R := fun e w' => ∃ m', (e = .returned (.tuple #[]) ∧ m' = EM E n) ∧ MemOk w (Foot (EM E n)) m' w') [(0, .pointer (some ⟨E, 0, none⟩))] tab_ok Tryz.func88 rfl rfl rfl rfl rfl hm ?_).mono (fun e u' w' hh => ?_)
 ·conv => whnf
  refine Rd.n (rd_all fun w => eqS_nil _ w) ?_
  conv => whnf
  (repeat ((first | refine stp (by (repeat constructor); first | done | fail) ?_ | refine stn (by (repeat constructor); first | done | fail) ?_ | refine sto (by (repeat constructor); first | done | fail) (by first | omega | (simp only; omega)) ?_ | refine .mk fun Ap capp => ?_ | refine ⟨?_, trivial⟩ | intro _); conv => whnf))
  refine br_t rfl ?_
  conv => whnf
  (repeat ((first | refine stp (by (repeat constructor); first | done | fail) ?_ | refine stn (by (repeat constructor); first | done | fail) ?_ | refine sto (by (repeat constructor); first | done | fail) (by first | omega | (simp only; omega)) ?_ | refine .mk fun Ap capp => ?_ | refine ⟨?_, trivial⟩ | intro _); conv => whnf))
  refine fin0 rfl (fun w' hm => ?_) (.inr rfl)
  exact ⟨_, ⟨rfl, rfl⟩, hm.sel (by (repeat constructor); first | done | fail)⟩
 ·obtain ⟨h1, m', ⟨h2, h3⟩, h4⟩ := hh
  exact ⟨m', ⟨h2, h1, h3⟩, h4⟩
set_option maxRecDepth 100000 in
theorem face1_pan (E : Nat) (n0 n : Int) (w : World) (hm : MemOk w (Foot (EM E n0)) (EM E n0) w) : CtrD Tryz.prog 88 [.pointer (some ⟨E, 0, none⟩)] (.panicking (refusal n)) (EM E n0) (fun e u' m' => e = .returned (.tuple #[]) ∧ settle u' = .returning ∧ m' = EM E n) w := by
 refine (enter_rec (cx := CXS 12 [] w (Foot (EM E n0))) (R := fun e w' => ∃ m', (e = .returned (.tuple #[]) ∧ m' = EM E n) ∧ MemOk w (Foot (EM E n0)) m' w') [(0, .pointer (some ⟨E, 0, none⟩))] tab_ok Tryz.func88 rfl rfl rfl rfl rfl hm ?_).mono (fun e u' w' hh => ?_)
 ·conv => whnf
  refine Rd.n (rd_all fun w => eqS_ref _ n w) ?_
  conv => whnf
  (repeat ((first | refine stp (by (repeat constructor); first | done | fail) ?_ | refine stn (by (repeat constructor); first | done | fail) ?_ | refine sto (by (repeat constructor); first | done | fail) (by first | omega | (simp only; omega)) ?_ | refine .mk fun Ap capp => ?_ | refine ⟨?_, trivial⟩ | intro _); conv => whnf))
  refine br_f rfl ?_
  conv => whnf
  refine Rd.n (rd_all fun w => asS_ref n w) ?_
  conv => whnf
  (repeat ((first | refine stp (by (repeat constructor); first | done | fail) ?_ | refine stn (by (repeat constructor); first | done | fail) ?_ | refine sto (by (repeat constructor); first | done | fail) (by first | omega | (simp only; omega)) ?_ | refine .mk fun Ap capp => ?_ | refine ⟨?_, trivial⟩ | intro _); conv => whnf))
  refine br_t rfl ?_
  conv => whnf
  (repeat ((first | refine stp (by (repeat constructor); first | done | fail) ?_ | refine stn (by (repeat constructor); first | done | fail) ?_ | refine sto (by (repeat constructor); first | done | fail) (by first | omega | (simp only; omega)) ?_ | refine .mk fun Ap capp => ?_ | refine ⟨?_, trivial⟩ | intro _); conv => whnf))
  refine fin0 rfl (fun w' hm => ?_) (.inr rfl)
  exact ⟨_, ⟨rfl, rfl⟩, hm.sel (by (repeat constructor); first | done | fail)⟩
 ·obtain ⟨h1, m', ⟨h2, h3⟩, h4⟩ := hh
  exact ⟨m', ⟨h2, by rw [h1]; rfl, h3⟩, h4⟩

theorem face1_enters : Eng.Enters Tryz.prog 88 := enters_mk fun _ _ => by kernel_rfl
theorem face_enters : Eng.Enters Tryz.prog 39 := enters_mk fun _ _ => by kernel_rfl
/-- What comes of what was done. -/
def FaceR (R : Ending → Mem → Prop) (e : Ending) (m' : Mem) : Prop := ∃ e0, R e0 m' ∧ ((∃ v, e0 = .returned v ∧ e = .returned (.int .i64 0)) ∨ ∃ n, e0 = .panicked (refusal n) ∧ e = .returned (.int .i64 n))
set_option maxRecDepth 100000 in
theorem face_any (g : Nat) (cap : List Value) (m : Mem) (w : World) (R : Ending → Mem → Prop) (hE : Eng.Enters Tryz.prog g) (hm : MemOk w (Foot m) m w) (hc : ∀ w1, Fr (Foot m) w w1 → MemOk w1 (Foot m) m w1 → Ctr Tryz.prog g cap m R w1)
  (hR : ∀ e m', R e m' → (∃ v, e = .returned v) ∨ ∃ n, e = .panicked (refusal n)) :
  Ctr Tryz.prog 39 [.func (.func g) #[] cap.toArray] m (FaceR R) w := by
 refine enter_d (cx := CXS 6 [] w (Foot m)) [(0, .func (.func g) #[] cap.toArray)] tab_ok Tryz.func39 rfl rfl rfl rfl hm ?_
 refine wd_seq (cx := CXS 6 [] w (Foot m)) tab_ok ?_
 conv => whnf
 intro E
 conv => whnf
 refine wd_defer (cx := CXS 6 [] w (Foot m)) tab_ok 1 rfl rfl ?_
 conv => whnf
 refine ⟨_, _, _, _, rfl, rfl, ?_⟩
 refine wd_of (cx := ⟨Tryz.prog, 6, w, Foot m, tab, [], [], [], [{ target := .fn (.func 88) #[.pointer (some ⟨E, 0, none⟩)], args := #[] }]⟩) tab_ok ?_
 conv => whnf
 refine ⟨hE, cl_perm (R := R) (m1 := m) (r := EM E 0) (List.perm_append_comm (l₁ := EM E 0)) (fun w' hm' => ?_) (fun e m' hr => ?_)⟩
 ·have := hc w' (hm'.fr) hm'.part
  simpa using this
 ·rcases hR e m' hr with ⟨v, rfl⟩ | ⟨n, rfl⟩
  ·conv => whnf
   (repeat ((first | refine stp (by (repeat constructor); first | done | fail) ?_ | refine stn (by (repeat constructor); first | done | fail) ?_ | refine sto (by (repeat constructor); first | done | fail) (by first | omega | (simp only; omega)) ?_ | refine .mk fun Ap capp => ?_ | refine ⟨?_, trivial⟩ | intro _); conv => whnf))
   refine finD_r (.inl rfl) (leaves_mem (m1 := EM E 0) (r := m') rfl (by simp) face1_enters rfl (.cons .here .nil) (fun w' hm' => face1_ret E 0 w' hm'.part) ?_)
   rintro en u' m1 ⟨rfl, rfl, rfl⟩
   exact dend_c1 rfl rfl (ld1 tab_ok .here rfl rfl rfl) (fun w' hm' => ⟨m', ⟨_, hr, .inl ⟨v, rfl, rfl⟩⟩, hm'.tail⟩)
  ·conv => whnf
   refine finD_p (leaves_mem (m1 := EM E 0) (r := m') rfl (by simp) face1_enters rfl (.cons .here .nil) (fun w' hm' => face1_pan E 0 n w' hm'.part) ?_)
   rintro en u' m1 ⟨rfl, hu, rfl⟩
   show DEnd _ _ _ _ _ (settle u')
   rw [hu]
   exact dend_c1 rfl rfl (ld1 tab_ok .here rfl rfl rfl) (fun w' hm' => ⟨m', ⟨_, hr, .inr ⟨n, rfl, rfl⟩⟩, hm'.tail⟩)
end Go.Proofs.YtbfbjgakmnckbaaGreatDoor
namespace Go.Proofs.YtbfbjgakmnckbaaGreatDoor
open Go Go.RowKit Eng
attribute [local irreducible] Br Rn RnU Cl RdG CpG Ld Rd Lp Dr Oth Cut fin Fits Eng.Enters Md NA

def fateS (x : PAct) : Option (List ByteArray × PAct) :=
 if x.fk = 0 then some ([Str wGood], x) else if x.fk = 1 ∨ x.fk = 2 then some ([Str (if x.fk = 1 then wFail else wFull), Str (Lib.itoa x.keep)], { x with fk := 0, keep := 0 }) else none
def picksS (x : PAct) : Option (List ByteArray × PAct) :=
 if x.picks.length ≤ 65536 then some (x.picks.map (fun p => Str (Lib.itoa p)), { x with picks := [] }) else none
/-- What is told of an act of a kind, and what is left of it. -/
def telK (k : Int) (x : PAct) : Option (List ByteArray × PAct) := if k = 24 then fateS x else if k = 25 then picksS x else telF (lettersL k) x
def overN : List Nat := [73, 74, 75, 76, 77, 76, 78, 75, 79, 79, 79, 80, 79, 81, 79, 82, 83, 75, 84, 85, 79, 75, 75, 86, 87]
/-- The function of kind n + 1. -/
def overF (n : Nat) : Nat := overN.getD n 0
def kindV (n : Nat) : List Value := [.string (Str (wordL (n + 1 : Nat))), .func (.func (overF n)) #[] #[]]
def kindsV : List Value := (List.range 25).flatMap kindV

section
variable (tB : Nat) (A : Option Addr) (cap n : Nat) (xs : List Value) (aB : Nat) (x : PAct) (bA pA : Option Addr) (bc pc : Nat) (w : World) (hn : n ≤ 900000000) (hm : MemOk w (Foot (TM tB A cap n xs aB x bA pA bc pc)) (TM tB A cap n xs aB x bA pA bc pc) w) (hx : x.Ok)
 (hv : Stb (TM tB A cap n xs aB x bA pA bc pc) w (fun w => NumAct w x)) (hb : Stb (TM tB A cap n xs aB x bA pA bc pc) w (fun w => BytsIn w bA x.bytes)) (hp : Stb (TM tB A cap n xs aB x bA pA bc pc) w (fun w => IntsIn .i64 w pA x.picks))
include hn hm hx hv

set_option maxRecDepth 100000 in
theorem k11_any :
  Ctr Tryz.prog 86 [.pointer (some ⟨aB, 0, none⟩), .iface 124 (.pointer (some ⟨tB, 0, none⟩))] (TM tB A cap n xs aB x bA pA bc pc) (OverR (fateS x) tB n xs aB x bA pA) w := by
 refine enter (cx := CXS 12 [] w (Foot (TM tB A cap n xs aB x bA pA bc pc))) [(0, .pointer (some ⟨aB, 0, none⟩)), (1, .iface 124 (.pointer (some ⟨tB, 0, none⟩)))] tab_ok Tryz.func86 rfl rfl rfl rfl hm ?_
 conv => whnf
 (repeat ((first | (refine dr_tail 7 tab_ok mixed (by kernel_rfl) rfl rfl ?_) | refine stp (by (repeat constructor); first | done | fail) ?_ | refine stn (by (repeat constructor); first | done | fail) ?_ | refine sto (by (repeat constructor); first | done | fail) (by first | omega | (simp only; omega)) ?_ | refine .mk fun Ap capp => ?_ | refine ⟨?_, trivial⟩ | intro _); conv => whnf))
 refine ⟨naT_fate _ rfl _, ?_⟩
 conv => whnf
 (repeat ((first | refine stp (by (repeat constructor); first | done | fail) ?_ | refine stn (by (repeat constructor); first | done | fail) ?_ | refine sto (by (repeat constructor); first | done | fail) (by first | omega | (simp only; omega)) ?_ | refine .mk fun Ap capp => ?_ | refine ⟨?_, trivial⟩ | intro _); conv => whnf))
 refine ⟨_, _, mdT_fate _ rfl _, tfate_enters, cl_mem (.cons .here (.cons .here (.cons .here .nil))) (fun w' hm' => tfate_any _ _ _ _ _ _ _ _ _ _ _ w' (by omega) hm'.part (stb hm' (fun w'' hm'' => (hv w'' hm''.fr).keep))) ?_⟩
 rintro e m' (⟨h1, rfl⟩ | ⟨h1, rfl, A1, cap1, rfl⟩ | ⟨h1, rfl, A1, cap1, rfl⟩)
 ·exact fin_panic (fun w' hm => ⟨_, .inl ⟨by rw [fateS, if_neg (by omega), if_neg (by omega)], rfl⟩, hm⟩)
 ·conv => whnf
  refine fin0 rfl (fun w' hm => ?_) (by first | exact .inr rfl | exact .inl rfl)
  exact ⟨_, .inr ⟨_, _, A1, cap1, bA, bc, pA, pc, n + 1, _, by rw [fateS, if_pos h1], rfl, hx, fun _ h => h, fun _ h => h, fun _ h => h, rfl, rfl, rfl⟩, hm.sel (by (repeat constructor); first | done | fail)⟩
 ·conv => whnf
  refine fin0 rfl (fun w' hm => ?_) (by first | exact .inr rfl | exact .inl rfl)
  exact ⟨_, .inr ⟨[_, _], { x with fk := 0, keep := 0 }, A1, cap1, bA, bc, pA, pc, n + 2, _, by rw [fateS, if_neg (by omega), if_pos h1], rfl, { hx with fk := by show (-9223372036854775808 : Int) ≤ 0 ∧ (0 : Int) ≤ 9223372036854775807; omega, keep := by show (-9223372036854775808 : Int) ≤ 0 ∧ (0 : Int) ≤ 9223372036854775807; omega }, fun _ h => ⟨h.at_, h.n, h.bits, h.order, zero_ok h.keep, h.picks⟩, fun _ h => h, fun _ h => h, rfl, rfl, rfl⟩, hm.sel (by (repeat constructor); first | done | fail)⟩

include hp in
set_option maxRecDepth 100000 in
theorem k12_any :
  Ctr Tryz.prog 87 [.pointer (some ⟨aB, 0, none⟩), .iface 124 (.pointer (some ⟨tB, 0, none⟩))] (TM tB A cap n xs aB x bA pA bc pc) (OverR (picksS x) tB n xs aB x bA pA) w := by
 refine enter (cx := CXS 12 [] w (Foot (TM tB A cap n xs aB x bA pA bc pc))) [(0, .pointer (some ⟨aB, 0, none⟩)), (1, .iface 124 (.pointer (some ⟨tB, 0, none⟩)))] tab_ok Tryz.func87 rfl rfl rfl rfl hm ?_
 conv => whnf
 (repeat ((first | (refine dr_tail 7 tab_ok mixed (by kernel_rfl) rfl rfl ?_) | refine stp (by (repeat constructor); first | done | fail) ?_ | refine stn (by (repeat constructor); first | done | fail) ?_ | refine sto (by (repeat constructor); first | done | fail) (by first | omega | (simp only; omega)) ?_ | refine .mk fun Ap capp => ?_ | refine ⟨?_, trivial⟩ | intro _); conv => whnf))
 refine ⟨naT_picks _ rfl _, ?_⟩
 conv => whnf
 (repeat ((first | refine stp (by (repeat constructor); first | done | fail) ?_ | refine stn (by (repeat constructor); first | done | fail) ?_ | refine sto (by (repeat constructor); first | done | fail) (by first | omega | (simp only; omega)) ?_ | refine .mk fun Ap capp => ?_ | refine ⟨?_, trivial⟩ | intro _); conv => whnf))
 refine ⟨_, _, mdT_picks _ rfl _, tpicks_enters, cl_mem (.cons .here (.cons .here (.cons .here .nil))) (fun w' hm' => tpicks_any _ _ _ _ _ _ _ _ _ _ _ w' (by omega) hm'.part (stb hm' (fun w'' hm'' => hp w'' hm''.fr)) (stb hm' (fun w'' hm'' => (hv w'' hm''.fr).picks))) ?_⟩
 rintro e m' (⟨h1, rfl⟩ | ⟨h1, rfl, A1, cap1, rfl⟩)
 ·exact fin_panic (fun w' hm => ⟨_, .inl ⟨by rw [picksS, if_neg (by omega)], rfl⟩, hm⟩)
 ·conv => whnf
  refine fin0 rfl (fun w' hm => ?_) (by first | exact .inr rfl | exact .inl rfl)
  have e1 : itoas x.picks = (x.picks.map (fun p => Str (Lib.itoa p))).map Value.string := by rw [itoas, List.map_map]; rfl
  rw [e1] at hm
  exact ⟨_, .inr ⟨x.picks.map (fun p => Str (Lib.itoa p)), { x with picks := [] }, A1, cap1, bA, bc, none, 0, _, _, by rw [picksS, if_pos h1], rfl, { hx with picksR := (fun _ h => by cases h), picks := (by show 0 ≤ _; omega) }, fun _ h => ⟨h.at_, h.n, h.bits, h.order, h.keep, (fun _ h => by cases h)⟩, fun _ h => h, fun _ _ => IntsIn.nil _ _ _, by rw [List.length_map], rfl, rfl⟩, hm.sel (by (repeat constructor); first | done | fail)⟩

include hb hp in
theorem over_any (k : Nat) (hk : k < 25) :
  Ctr Tryz.prog (overF k) [.pointer (some ⟨aB, 0, none⟩), .iface 124 (.pointer (some ⟨tB, 0, none⟩))] (TM tB A cap n xs aB x bA pA bc pc) (OverR (telK (k + 1 : Nat) x) tB n xs aB x bA pA) w := by
 match k, hk with
 | 0, _ => exact k1_any tB A cap n xs aB x bA pA bc pc w hn hm hx hv hb
 | 1, _ => exact k2_any tB A cap n xs aB x bA pA bc pc w hn hm hx hv hb
 | 2, _ => exact one_any tB A cap n xs aB x bA pA bc pc w hn hm hx hv hb
 | 3, _ => exact span_any tB A cap n xs aB x bA pA bc pc w hn hm hx hv hb
 | 4, _ => exact k3_any tB A cap n xs aB x bA pA bc pc w hn hm hx hv hb
 | 5, _ => exact span_any tB A cap n xs aB x bA pA bc pc w hn hm hx hv hb
 | 6, _ => exact k4_any tB A cap n xs aB x bA pA bc pc w hn hm hx hv hb
 | 7, _ => exact one_any tB A cap n xs aB x bA pA bc pc w hn hm hx hv hb
 | 8, _ => exact two_any tB A cap n xs aB x bA pA bc pc w hn hm hx hv hb
 | 9, _ => exact two_any tB A cap n xs aB x bA pA bc pc w hn hm hx hv hb
 | 10, _ => exact two_any tB A cap n xs aB x bA pA bc pc w hn hm hx hv hb
 | 11, _ => exact k5_any tB A cap n xs aB x bA pA bc pc w hn hm hx hv hb
 | 12, _ => exact two_any tB A cap n xs aB x bA pA bc pc w hn hm hx hv hb
 | 13, _ => exact k6_any tB A cap n xs aB x bA pA bc pc w hn hm hx hv hb
 | 14, _ => exact two_any tB A cap n xs aB x bA pA bc pc w hn hm hx hv hb
 | 15, _ => exact k7_any tB A cap n xs aB x bA pA bc pc w hn hm hx hv hb
 | 16, _ => exact k8_any tB A cap n xs aB x bA pA bc pc w hn hm hx hv hb
 | 17, _ => exact one_any tB A cap n xs aB x bA pA bc pc w hn hm hx hv hb
 | 18, _ => exact k9_any tB A cap n xs aB x bA pA bc pc w hn hm hx hv hb
 | 19, _ => exact k10_any tB A cap n xs aB x bA pA bc pc w hn hm hx hv hb
 | 20, _ => exact two_any tB A cap n xs aB x bA pA bc pc w hn hm hx hv hb
 | 21, _ => exact one_any tB A cap n xs aB x bA pA bc pc w hn hm hx hv hb
 | 22, _ => exact one_any tB A cap n xs aB x bA pA bc pc w hn hm hx hv hb
 | 23, _ => exact k11_any tB A cap n xs aB x bA pA bc pc w hn hm hx hv
 | 24, _ => exact k12_any tB A cap n xs aB x bA pA bc pc w hn hm hx hv hp
 | k + 25, h => exact absurd h (by omega)
end

set_option maxRecDepth 100000 in
theorem kinds_any (w : World) : Ctr Tryz.prog 37 [] [] (fun e m' => ∃ b, e = .returned (.slice (some ⟨b, 0, none⟩) 25 25) ∧ m' = [.blk b (.cells kindsV.toArray 78)]) w := by
 refine enter (cx := CXS 27 [] w (Foot [])) [] tab_ok Tryz.func37 rfl rfl rfl rfl (MemOk.nil w _) ?_
 conv => whnf
 intro b
 conv => whnf
 refine fin1 rfl rfl (fun w' hm => ⟨_, ⟨b, rfl, rfl⟩, hm.sel (.cons .here .nil)⟩)
theorem kinds_enters : Eng.Enters Tryz.prog 37 := enters_mk fun _ _ => by kernel_rfl

set_option maxRecDepth 100000 in
theorem of_any (k : Int) (w : World) : Ctr Tryz.prog 69 [.int .i64 k] [] (fun e m' => m' = [] ∧ (((k < 1 ∨ 25 < k) ∧ e = .returned (.tuple #[.agg #[.string (Str []), .nilFunc], .bool false])) ∨ (1 ≤ k ∧ k ≤ 25 ∧ e = .returned (.tuple #[.agg (kindV (k - 1).toNat).toArray, .bool true])))) w := by
 refine enter (cx := CXS 20 [] w (Foot [])) [(0, .int .i64 k)] tab_ok Tryz.func69 rfl rfl rfl rfl (MemOk.nil w _) ?_
 conv => whnf
 (repeat ((first | (refine ⟨kinds_enters, cl_mem .nil (fun w' hm' => kinds_any w') ?_⟩; rintro e m' ⟨b, rfl, rfl⟩) | refine stp (by (repeat constructor); first | done | fail) ?_ | refine stn (by (repeat constructor); first | done | fail) ?_ | refine sto (by (repeat constructor); first | done | fail) (by first | omega | (simp only; omega)) ?_ | refine .mk fun Ap capp => ?_ | refine ⟨?_, trivial⟩ | intro _); conv => whnf))
 refine br (fun hb => ?_) (fun hb => ?_)
 ·conv => whnf
  (repeat ((first | refine stp (by (repeat constructor); first | done | fail) ?_ | refine stn (by (repeat constructor); first | done | fail) ?_ | refine sto (by (repeat constructor); first | done | fail) (by first | omega | (simp only; omega)) ?_ | refine .mk fun Ap capp => ?_ | refine ⟨?_, trivial⟩ | intro _); conv => whnf))
  refine finC2 rfl rfl (ldN tab_ok (by (repeat constructor); first | done | fail) rfl rfl rfl rfl) rfl (fun w' hm => ⟨[], ⟨rfl, .inl ⟨?_, rfl⟩⟩, hm.sel .nil⟩)
  rw [Bool.or_eq_true, decide_eq_true_eq, decide_eq_true_eq] at hb
  exact hb
 ·rw [Bool.or_eq_false_iff, decide_eq_false_iff_not, decide_eq_false_iff_not] at hb
  have hb2 : ¬ (25 < k) := hb.2
  conv => whnf
  (repeat ((first | refine stp (by (repeat constructor); first | done | fail) ?_ | refine stn (by (repeat constructor); first | done | fail) ?_ | refine sto (by (repeat constructor); first | done | fail) (by first | omega | (simp only; omega)) ?_ | refine .mk fun Ap capp => ?_ | refine ⟨?_, trivial⟩ | intro _); conv => whnf))
  refine ⟨⟨by omega, by show k - 1 < ((25 : Nat) : Int); omega, Pl.mk _ _⟩, ?_⟩
  conv => whnf
  refine rn_load (v := .agg (kindV (k - 1).toNat).toArray) ?_ ?_
  ·obtain ⟨n, hn⟩ : ∃ n : Nat, n = (k - 1).toNat := ⟨_, rfl⟩
   have hlt : n < 25 := by omega
   rw [← hn]
   match n, hlt with
   | 0, _ | 1, _ | 2, _ | 3, _ | 4, _ | 5, _ | 6, _ | 7, _ | 8, _ | 9, _ | 10, _ | 11, _ | 12, _ | 13, _ | 14, _ | 15, _ | 16, _ | 17, _ | 18, _ | 19, _ | 20, _ | 21, _ | 22, _ | 23, _ | 24, _ => exact ldN tab_ok (by (repeat constructor); first | done | fail) rfl rfl rfl rfl
   | n + 25, h => exact absurd h (by omega)
  ·conv => whnf
   (repeat ((first | refine stp (by (repeat constructor); first | done | fail) ?_ | refine stn (by (repeat constructor); first | done | fail) ?_ | refine sto (by (repeat constructor); first | done | fail) (by first | omega | (simp only; omega)) ?_ | refine .mk fun Ap capp => ?_ | refine ⟨?_, trivial⟩ | intro _); conv => whnf))
   refine finC2 rfl rfl (ldN tab_ok (by (repeat constructor); first | done | fail) rfl rfl rfl rfl) rfl (fun w' hm => ⟨[], ⟨rfl, .inr ⟨by omega, by omega, rfl⟩⟩, hm.sel .nil⟩)
theorem of_enters : Eng.Enters Tryz.prog 69 := enters_mk fun _ _ => by kernel_rfl
end Go.Proofs.YtbfbjgakmnckbaaGreatDoor
