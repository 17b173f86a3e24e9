/- The script's reader: taken, data. No statement of the seat is proved here. -/
import Derived.Test.YtbfbjgakmnckbaaGreatDoorSl7
namespace Go.Proofs.YtbfbjgakmnckbaaGreatDoor
open Go Go.RowKit Eng
attribute [local irreducible] Br Rn RnU Cl RdG CpG Ld Rd Lp Dr Oth Cut fin Fits Eng.Enters Md NA
theorem or_nib : ∀ y : Fin 256, ∀ c : Fin 16, bits .or .u8 (IntKind.u8.wrap ((y.val : Int) * 16)) (c.val : Int) = (((y.val * 16) % 256 + c.val : Nat) : Int) := by decide +kernel
theorem idx_hex : ∀ n : Fin 16, Lib.indexByte sixteenL (hexD n.val) = (n.val : Int) := by decide
theorem idx_range (c : UInt8) : -1 ≤ Lib.indexByte sixteenL c ∧ Lib.indexByte sixteenL c < 16 := by
 have h1 := Lib.indexByte_ge sixteenL c
 refine ⟨h1, ?_⟩
 rcases Classical.em (0 ≤ Lib.indexByte sixteenL c) with h | h
 ·obtain ⟨o, ho⟩ : ∃ o : Nat, Lib.indexByte sixteenL c = o := ⟨_, (Int.toNat_of_nonneg h).symm⟩
  have := (Lib.indexByte_some ho).1
  have := (List.getElem?_eq_some_iff.1 this).1
  rw [ho]
  have h16 : sixteenL.length = 16 := rfl
  omega
 ·omega
theorem index_any (c : Int) (w : World) (hc : 0 ≤ c ∧ c ≤ 255) : Calls Tryz.prog 172 #[.string (Str sixteenL), .int .u8 c] w fun e w' => e = .returned (.int .i64 (Lib.indexByte sixteenL (UInt8.ofNat c.toNat))) ∧ Fr (fun _ => False) w w' := by
 refine (Tryz.strings_IndexByte (Str sixteenL) c w).mono ?_
 rintro e w' ⟨rfl, rfl⟩
 exact ⟨rfl, Fr.refl _ _⟩
theorem index_enters : Eng.Enters Tryz.prog 172 := enters_mk fun _ _ => by kernel_rfl
/-- What is taken of the digits of bytes behind i of them. -/
def partL (bs : List UInt8) (i : Nat) : List UInt8 := (List.range bs.length).map fun j => if j < i / 2 then bs.getD j 0 else if j = i / 2 ∧ i % 2 = 1 then UInt8.ofNat ((bs.getD j 0).toNat / 16) else 0
theorem partL_len (bs : List UInt8) (i : Nat) : (partL bs i).length = bs.length := by simp [partL]
theorem partL_all (bs : List UInt8) : partL bs (2 * bs.length) = bs := by
 apply List.ext_getElem (by simp [partL])
 intro j h1 h2
 simp only [partL, List.getElem_map, List.getElem_range]
 rw [if_pos (by omega)]
 simp [List.getD, List.getElem?_eq_getElem h2]
theorem partL_zero (bs : List UInt8) : partL bs 0 = List.replicate bs.length 0 := by
 apply List.ext_getElem (by simp [partL])
 intro j h1 h2
 simp [partL]
theorem hexs_get : ∀ (bs : List UInt8) (i : Nat), i < 2 * bs.length → (hexs bs).getD i 0 = if i % 2 = 0 then hexD ((bs.getD (i / 2) 0).toNat / 16) else hexD ((bs.getD (i / 2) 0).toNat % 16)
 | [], i, h => absurd h (by simp)
 | b :: r, 0, _ => rfl
 | b :: r, 1, _ => rfl
 | b :: r, i + 2, h => by
  have := hexs_get r i (by simp at h; omega)
  rw [show (i + 2) % 2 = i % 2 by omega, show (i + 2) / 2 = i / 2 + 1 by omega]
  show (hexs r).getD i 0 = _
  rw [this]
  rfl
/-- The byte that is laid at place i. -/
def nextB (y c : UInt8) : UInt8 := UInt8.ofNat ((y.toNat * 16) % 256 + (Lib.indexByte sixteenL c).toNat)
theorem partL_step (bs : List UInt8) (i : Nat) (hi : i < 2 * bs.length) : (partL bs i).set (i / 2) (nextB ((partL bs i).getD (i / 2) 0) ((hexs bs).getD i 0)) = partL bs (i + 1) := by
 apply List.ext_getElem (by simp [partL])
 intro j h1 h2
 have hjl : j < bs.length := by simpa [partL] using h2
 have hil : i / 2 < bs.length := by omega
 rw [List.getElem_set]
 have hp : (partL bs i).getD (i / 2) 0 = if i % 2 = 1 then UInt8.ofNat ((bs.getD (i / 2) 0).toNat / 16) else 0 := by
  rw [List.getD, List.getElem?_eq_getElem (by rw [partL_len]; exact hil), Option.getD_some]
  simp only [partL, List.getElem_map, List.getElem_range]
  rw [if_neg (by omega)]
  by_cases h : i % 2 = 1
  ·simp [h]
  ·simp [h]
 have hb := (bs.getD (i / 2) 0).toNat_lt
 by_cases hj : i / 2 = j
 ·subst hj
  rw [if_pos rfl, hp, hexs_get bs i hi]
  simp only [partL, List.getElem_map, List.getElem_range]
  by_cases h : i % 2 = 1
  ·rw [if_pos h, if_neg (by omega), if_pos (by omega)]
   rw [nextB, idx_hex ⟨(bs.getD (i / 2) 0).toNat % 16, by omega⟩]
   apply UInt8.toNat_inj.1
   rw [UInt8.toNat_ofNat', UInt8.toNat_ofNat', Int.toNat_natCast]
   simp only
   omega
  ·rw [if_neg h, if_pos (by omega), if_neg (by omega), if_pos (by omega)]
   rw [nextB, idx_hex ⟨(bs.getD (i / 2) 0).toNat / 16, by omega⟩]
   rw [Int.toNat_natCast]
   simp
 ·rw [if_neg hj]
  simp only [partL, List.getElem_map, List.getElem_range]
  by_cases h : j < i / 2
  ·rw [if_pos h, if_pos (by omega)]
  ·rw [if_neg h, if_neg (by omega), if_neg (by omega), if_neg (by omega)]
/-- What taken answers: the bytes whose digits these are, or none, or some others. -/
def TakenR (l : List UInt8) (e : Ending) (m' : Mem) : Prop :=
 ((∀ bs, l ≠ hexs bs) ∧ e = .returned (.tuple #[.slice none 0 0, .bool false]) ∧ m' = []) ∨
 ∃ bs A cap, (∀ bs', l = hexs bs' → bs = bs') ∧ bs.length ≤ l.length ∧ e = .returned (.tuple #[.slice A bs.length cap, .bool true]) ∧ m' = [.row A cap bs.length 5 1 ((numsOf bs).map (.int .u8))]
set_option maxRecDepth 100000 in
theorem taken_any (l : List UInt8) (w : World) (hl : l.length ≤ 1099511627776) : Ctr Tryz.prog 169 [.string (Str l)] [] (TakenR l) w := by
 have hsz := Str.size l
 refine enter (cx := ⟨Tryz.prog, 43, w, Foot [], tab, [], [], [], []⟩) [(0, .string (Str l))] tab_ok Tryz.func169 rfl rfl rfl rfl (MemOk.nil w _) ?_
 conv => whnf
 (repeat ((first | refine stp (by (repeat constructor); first | done | fail) ?_ | refine stn (by (repeat constructor); first | done | fail) ?_ | refine sto (by (repeat constructor); first | done | fail) (by first | omega | (simp only; omega)) ?_ | refine .mk fun Ap capp => ?_ | refine ⟨?_, trivial⟩ | intro _); conv => whnf))
 have e2 : IntKind.i64.wrap (((Str l).size : Int).tdiv 2) = ((l.length / 2 : Nat) : Int) := by
  rw [hsz, show ((l.length : Int).tdiv 2) = ((l.length / 2 : Nat) : Int) from rfl]
  exact IntWalk.i64_in _ (by omega)
 rw [e2]
 refine rn_makeN tab_ok rfl rfl rfl rfl rfl (by omega) (by rw [Int.toNat_natCast]; show 1 * _ ≤ _; omega) (by omega) (fun b => ?_)
 rw [Int.toNat_natCast]
 conv => whnf
 (repeat ((first | refine stp (by (repeat constructor); first | done | fail) ?_ | refine stn (by (repeat constructor); first | done | fail) ?_ | refine sto (by (repeat constructor); first | done | fail) (by first | omega | (simp only; omega)) ?_ | refine .mk fun Ap capp => ?_ | refine ⟨?_, trivial⟩ | intro _); conv => whnf))
 have e0 : List.replicate (l.length / 2) (Value.int .u8 0) = (numsOf (List.replicate (l.length / 2) 0)).map (.int .u8) := by simp [numsOf]
 refine lp tab_ok (γ := Nat × List UInt8) (fun g => g.1 ≤ l.length ∧ g.2.length = l.length / 2 ∧ (0 < g.1 → l.length % 2 = 0) ∧ ∀ bs, l = hexs bs → g.2 = partL bs g.1) (fun g => [(13, .int .i64 g.1), (12, .int .i64 l.length), (4, .slice (some ⟨b, 0, none⟩) (l.length / 2) (l.length / 2)), (0, .string (Str l))]) (fun g => [.row (some ⟨b, 0, none⟩) (l.length / 2) (l.length / 2) 5 1 ((numsOf g.2).map (.int .u8))]) (fun g => l.length - g.1) (0, List.replicate (l.length / 2) 0) ⟨by simp, by simp, fun h => absurd h (by simp), fun bs h => ?_⟩ ⟨rfl, congrArg (fun z => some (Value.int .i64 (z : Nat))) hsz, rfl, rfl, trivial⟩ (by rw [e0]; exact SubM.refl _ _) ?_
 ·have hl2 : l.length = 2 * bs.length := by rw [h, hexs_length]
  show List.replicate (l.length / 2) 0 = partL bs 0
  rw [partL_zero, show l.length / 2 = bs.length by omega]
 rintro ⟨i, ys⟩ ⟨hi, hys, hev, hbs⟩
 simp only at hi hys hev hbs
 change XC _ _ _ [(13, .int .i64 (i : Int)), (12, .int .i64 l.length), (4, .slice (some ⟨b, 0, none⟩) (l.length / 2) (l.length / 2)), (0, .string (Str l))] [.row (some ⟨b, 0, none⟩) (l.length / 2) (l.length / 2) 5 1 ((numsOf ys).map (.int .u8))]
 conv => whnf
 (repeat ((first | refine stp (by (repeat constructor); first | done | fail) ?_ | refine stn (by (repeat constructor); first | done | fail) ?_ | refine sto (by (repeat constructor); first | done | fail) (by first | omega | (simp only; omega)) ?_ | refine .mk fun Ap capp => ?_ | refine ⟨?_, trivial⟩ | intro _); conv => whnf))
 refine br_d (fun hlt => ?_) (fun hge => ?_)
 ·have hb1 : 0 ≤ ((l.getD i 0).toNat : Int) ∧ ((l.getD i 0).toNat : Int) ≤ 255 := by have := (l.getD i 0).toNat_lt; omega
  have hr := idx_range (l.getD i 0)
  have eo : UInt8.ofNat ((l.getD i 0).toNat : Int).toNat = l.getD i 0 := by simp
  conv => whnf
  (repeat ((first | refine stp (by (repeat constructor); first | done | fail) ?_ | refine stn (by (repeat constructor); first | done | fail) ?_ | refine sto (by (repeat constructor); first | done | fail) (by first | omega | (simp only; omega)) ?_ | refine .mk fun Ap capp => ?_ | refine ⟨?_, trivial⟩ | intro _); conv => whnf))
  rw [Str.get, Int.toNat_natCast]
  refine ⟨index_enters, cl_same _ (fun w' hm' => index_any _ w' hb1) ?_⟩
  rw [eo]
  conv => whnf
  (repeat ((first | refine stp (by (repeat constructor); first | done | fail) ?_ | refine stn (by (repeat constructor); first | done | fail) ?_ | refine sto (by (repeat constructor); first | done | fail) (by first | omega | (simp only; omega)) ?_ | refine .mk fun Ap capp => ?_ | refine ⟨?_, trivial⟩ | intro _); conv => whnf))
  refine br (fun hb => ?_) (fun hb => ?_)
  ·-- no digit, or an odd number of them
   conv => whnf
   refine fin2 rfl rfl rfl (fun w' hm => ⟨[], .inl ⟨?_, rfl, rfl⟩, hm.sel .nil⟩)
   intro bs h
   have hl2 : l.length = 2 * bs.length := by rw [h, hexs_length]
   have hg := hexs_get bs i (by omega)
   rw [← h] at hg
   have hbl := (bs.getD (i / 2) 0).toNat_lt
   have hnn : 0 ≤ Lib.indexByte sixteenL (l.getD i 0) := by
    rw [hg]
    split
    ·rw [idx_hex ⟨(bs.getD (i / 2) 0).toNat / 16, by omega⟩]; omega
    ·rw [idx_hex ⟨(bs.getD (i / 2) 0).toNat % 16, by omega⟩]; omega
   rw [Bool.or_eq_true, decide_eq_true_eq] at hb
   rcases hb with hb | hb
   ·omega
   ·rw [hsz, hl2] at hb
    have e3 : ((2 * bs.length : Nat) : Int).tmod 2 = 0 := by
     rw [show ((2 * bs.length : Nat) : Int).tmod 2 = ((2 * bs.length % 2 : Nat) : Int) from rfl]; omega
    rw [e3] at hb
    exact absurd hb (by decide)
  ·rw [Bool.or_eq_false_iff, decide_eq_false_iff_not] at hb
   obtain ⟨hb2, hb3⟩ := hb
   have hev2 : l.length % 2 = 0 := by
    rw [hsz, show ((l.length : Int).tmod 2) = ((l.length % 2 : Nat) : Int) from rfl] at hb3
    have : ((l.length % 2 : Nat) : Int) = 0 := by simpa using hb3
    omega
   have hj : i / 2 < l.length / 2 := by omega
   have e4 : IntKind.i64.wrap ((i : Int).tdiv 2) = ((i / 2 : Nat) : Int) := by
    rw [show ((i : Int).tdiv 2) = ((i / 2 : Nat) : Int) from rfl]
    exact IntWalk.i64_in _ (by omega)
   conv => whnf
   (repeat ((first | refine stp (by (repeat constructor); first | done | fail) ?_ | refine stn (by (repeat constructor); first | done | fail) ?_ | refine sto (by (repeat constructor); first | done | fail) (by first | omega | (simp only; omega)) ?_ | refine .mk fun Ap capp => ?_ | refine ⟨?_, trivial⟩ | intro _); conv => whnf))
   rw [e4]
   refine ⟨⟨by omega, by omega, Pl.mk _ _⟩, ?_⟩
   rw [Int.toNat_natCast]
   conv => whnf
   refine rn_load (v := .int .u8 ((ys.getD (i / 2) 0).toNat : Int)) (ldR tab_ok .here rfl rfl ?_) ?_
   ·show ((numsOf ys).map (Value.int .u8))[i / 2]? = _
    rw [List.getElem?_map, numsOf, List.getElem?_map, List.getElem?_eq_getElem (by omega), List.getD, List.getElem?_eq_getElem (by omega)]
    rfl
   conv => whnf
   refine ⟨by show (0 : Int) ≤ 4 ∧ (4 : Int) ≤ 8; omega, ?_⟩
   conv => whnf
   refine ⟨fits_u8 (by omega), ?_⟩
   conv => whnf
   (repeat ((first | refine stp (by (repeat constructor); first | done | fail) ?_ | refine stn (by (repeat constructor); first | done | fail) ?_ | refine sto (by (repeat constructor); first | done | fail) (by first | omega | (simp only; omega)) ?_ | refine .mk fun Ap capp => ?_ | refine ⟨?_, trivial⟩ | intro _); conv => whnf))
   refine ⟨⟨by omega, by omega, Pl.mk _ _⟩, ?_⟩
   conv => whnf
   have hyb := (ys.getD (i / 2) 0).toNat_lt
   have eb : bits .or .u8 (IntKind.u8.wrap (((ys.getD (i / 2) 0).toNat : Int) * 2 ^ (4 : Int).toNat)) (Lib.indexByte sixteenL (l.getD i 0)) = ((nextB (ys.getD (i / 2) 0) (l.getD i 0)).toNat : Int) := by
    have := or_nib ⟨(ys.getD (i / 2) 0).toNat, hyb⟩ ⟨(Lib.indexByte sixteenL (l.getD i 0)).toNat, by omega⟩
    rw [Int.toNat_of_nonneg (by omega)] at this
    rw [show (2 : Int) ^ (4 : Int).toNat = 16 from rfl, this, nextB, UInt8.toNat_ofNat']
    simp only
    omega
   refine rn_storeR (off := i / 2) (xs' := (numsOf (ys.set (i / 2) (nextB (ys.getD (i / 2) 0) (l.getD i 0)))).map (.int .u8)) tab_ok rfl .here rfl rfl (by show i / 2 + 1 ≤ l.length / 2 * 1; omega) (Nat.one_pos) ?_ ?_
   ·show ((numsOf ys).map (Value.int .u8)).set (i / 2) (.int .u8 (bits .or .u8 (IntKind.u8.wrap (((ys.getD (i / 2) 0).toNat : Int) * 2 ^ (4 : Int).toNat)) (Lib.indexByte sixteenL (l.getD i 0)))) = _
    rw [eb, numsOf, numsOf, List.map_set, List.map_set]
   ·conv => whnf
    (repeat ((first | refine stp (by (repeat constructor); first | done | fail) ?_ | refine stn (by (repeat constructor); first | done | fail) ?_ | refine sto (by (repeat constructor); first | done | fail) (by first | omega | (simp only; omega)) ?_ | refine .mk fun Ap capp => ?_ | refine ⟨?_, trivial⟩ | intro _); conv => whnf))
    refine ⟨(i + 1, ys.set (i / 2) (nextB (ys.getD (i / 2) 0) (l.getD i 0))), ⟨by simp; omega, by simp [hys], fun _ => hev2, fun bs h => ?_⟩, by simp; omega, ⟨rfl, rfl, rfl, rfl, trivial⟩, SubM.refl _ _⟩
    have hl2 : l.length = 2 * bs.length := by rw [h, hexs_length]
    have := partL_step bs i (by omega)
    rw [← hbs bs h, ← h] at this
    exact this
 ·have hil : i = l.length := by omega
  conv => whnf
  refine fin2 rfl rfl rfl (fun w' hm => ⟨_, .inr ⟨ys, some ⟨b, 0, none⟩, l.length / 2, fun bs h => ?_, by omega, by rw [hys], rfl⟩, ?_⟩)
  ·have hl2 : l.length = 2 * bs.length := by rw [h, hexs_length]
   have := hbs bs h
   rw [hil, hl2, partL_all] at this
   exact this
  ·rw [hys]; exact hm.sel (by (repeat constructor); first | done | fail)
theorem taken_enters : Eng.Enters Tryz.prog 169 := enters_mk fun _ _ => by kernel_rfl
end Go.Proofs.YtbfbjgakmnckbaaGreatDoor
namespace Go.Proofs.YtbfbjgakmnckbaaGreatDoor
open Go Go.RowKit Eng
attribute [local irreducible] Br Rn RnU Cl RdG CpG Ld Rd Lp Dr Oth Cut fin Fits Eng.Enters Md NA
/-- The row of an act's bytes. -/
abbrev BR (A : Option Addr) (cap : Nat) (bs : List UInt8) : Res := .row A cap bs.length 5 1 ((numsOf bs).map (.int .u8))
/-- What becomes of bytes that are read. -/
def DataRd (rB : Nat) (A : Option Addr) (ws : List (List UInt8)) (aB : Nat) (x : PAct) (pA : Option Addr) (pc : Nat) (e : Ending) (m' : Mem) : Prop :=
 (e = .panicked (refusal 410) ∧ ∀ s ws', ws = s :: ws' → ∀ a : PAct, a.Ok → okL1 120 a = true → s ≠ letS 120 a) ∨
 ∃ s ws' x' A' cap' bA' bc', ws = s :: ws' ∧ e = .returned (.tuple #[]) ∧ ws'.length ≤ cap' ∧ (∀ w, StrsIn w A ws → StrsIn w A' ws') ∧ RdStep 120 s x x' ∧ m' = RM rB A' ws'.length cap' aB x' bA' pA bc' pc ++ [BR bA' bc' x'.bytes]
section
variable (rB : Nat) (A : Option Addr) (cap : Nat) (ws : List (List UInt8)) (aB : Nat) (x : PAct) (pA : Option Addr) (pc : Nat) (w : World) (hc : ws.length ≤ cap) (hx : x.Ok) (hl : ∀ s ∈ ws, s.length ≤ 1099511627776) (hx0 : x.bytes = [])
 (hm : MemOk w (Foot (RM rB A ws.length cap aB x none pA 0 pc)) (RM rB A ws.length cap aB x none pA 0 pc) w) (hs : Stb (RM rB A ws.length cap aB x none pA 0 pc) w (fun w => StrsIn w A ws))
include hc hx hl hm hs hx0
set_option maxRecDepth 100000 in
theorem rX_any :
  Ctr Tryz.prog 161 [.pointer (some ⟨rB, 0, none⟩), .pointer (some ⟨aB, 6, none⟩)] (RM rB A ws.length cap aB x none pA 0 pc) (DataRd rB A ws aB x pA pc) w := by
 refine enter (cx := CXS 22 [] w (Foot (RM rB A ws.length cap aB x none pA 0 pc))) [(0, .pointer (some ⟨rB, 0, none⟩)), (1, .pointer (some ⟨aB, 6, none⟩))] tab_ok Tryz.func161 rfl rfl rfl rfl hm ?_
 conv => whnf
 (repeat ((first | refine stp (by (repeat constructor); first | done | fail) ?_ | refine stn (by (repeat constructor); first | done | fail) ?_ | refine sto (by (repeat constructor); first | done | fail) (by first | omega | (simp only; omega)) ?_ | refine .mk fun Ap capp => ?_ | refine ⟨?_, trivial⟩ | intro _); conv => whnf))
 refine ⟨next_enters, cl_mem (.cons .here .nil) (fun w' hm' => next_any rB A cap ws w' hc hm'.part (stb hm' (fun w'' hm'' => hs w'' hm''.fr))) ?_⟩
 rintro e m' (⟨rfl, rfl⟩ | ⟨s, ws', A', cap', rfl, rfl, hc', hS, rfl⟩)
 ·exact fin_panic (fun w' hm => ⟨_, .inl ⟨rfl, fun s ws' h => by cases h⟩, hm⟩)
 have hsl := hl s (List.mem_cons_self ..)
 conv => whnf
 (repeat ((first | refine stp (by (repeat constructor); first | done | fail) ?_ | refine stn (by (repeat constructor); first | done | fail) ?_ | refine sto (by (repeat constructor); first | done | fail) (by first | omega | (simp only; omega)) ?_ | refine .mk fun Ap capp => ?_ | refine ⟨?_, trivial⟩ | intro _); conv => whnf))
 refine br_d (fun hb => ?_) (fun hb => ?_)
 ·have h45 : s = [45] := Str.inj.1 hb
  conv => whnf
  refine fin0 rfl (fun w' hm => ?_) (by first | exact .inr rfl | exact .inl rfl)
  refine ⟨_, .inr ⟨s, ws', x, A', cap', none, 0, rfl, rfl, hc', hS, ⟨hx, rfl, fun _ _ h => h, fun _ => rfl, rfl, ?_⟩, rfl⟩, ?_⟩
  ·intro a _ _ _ h
   have h : s = hexF a.bytes := h
   have hnil : a.bytes = [] := by
    rw [h45] at h
    unfold hexF at h
    split at h
    ·assumption
    ·rename_i hne
     have := hexs_length a.bytes
     rw [← h] at this
     simp at this
     omega
   show _ = { x with bytes := a.bytes }
   rw [hnil, ← hx0]
  ·have := (hm.nilRow 5 1)
   rw [hx0]
   exact this.sel (by (repeat constructor); first | done | fail)
 ·have h45 : s ≠ [45] := fun h => hb (Str.inj.2 h)
  conv => whnf
  (repeat ((first | refine stp (by (repeat constructor); first | done | fail) ?_ | refine stn (by (repeat constructor); first | done | fail) ?_ | refine sto (by (repeat constructor); first | done | fail) (by first | omega | (simp only; omega)) ?_ | refine .mk fun Ap capp => ?_ | refine ⟨?_, trivial⟩ | intro _); conv => whnf))
  refine ⟨taken_enters, cl_mem .nil (fun w' hm' => taken_any s w' hsl) ?_⟩
  rintro e m' (⟨hno, rfl, rfl⟩ | ⟨bs, B, bcap, hbs, hbl, rfl, rfl⟩)
  ·conv => whnf
   (repeat ((first | refine stp (by (repeat constructor); first | done | fail) ?_ | refine stn (by (repeat constructor); first | done | fail) ?_ | refine sto (by (repeat constructor); first | done | fail) (by first | omega | (simp only; omega)) ?_ | refine .mk fun Ap capp => ?_ | refine ⟨?_, trivial⟩ | intro _); conv => whnf))
   refine br_n (br_f rfl ?_)
   conv => whnf
   refine ⟨wrong_enters, cl_mem .nil (fun w' hm' => wrong_any w') ?_⟩
   rintro e m' ⟨rfl, rfl⟩
   refine fin_panic (fun w' hm => ⟨_, .inl ⟨rfl, ?_⟩, hm⟩)
   intro s' ws'' hss a ha _ h
   cases hss
   have h : s = hexF a.bytes := h
   unfold hexF at h
   split at h
   ·exact h45 h
   ·exact hno _ h
  ·conv => whnf
   (repeat ((first | refine stp (by (repeat constructor); first | done | fail) ?_ | refine stn (by (repeat constructor); first | done | fail) ?_ | refine sto (by (repeat constructor); first | done | fail) (by first | omega | (simp only; omega)) ?_ | refine .mk fun Ap capp => ?_ | refine ⟨?_, trivial⟩ | intro _); conv => whnf))
   refine br_n (br_t rfl ?_)
   conv => whnf
   (repeat ((first | refine stp (by (repeat constructor); first | done | fail) ?_ | refine stn (by (repeat constructor); first | done | fail) ?_ | refine sto (by (repeat constructor); first | done | fail) (by first | omega | (simp only; omega)) ?_ | refine .mk fun Ap capp => ?_ | refine ⟨?_, trivial⟩ | intro _); conv => whnf))
   refine fin0 rfl (fun w' hm => ?_) (by first | exact .inr rfl | exact .inl rfl)
   refine ⟨_, .inr ⟨s, ws', { x with bytes := bs }, A', cap', B, bcap, rfl, rfl, hc', hS, ⟨{ hx with bytes := by show bs.length ≤ _; omega }, rfl, fun _ _ h => ⟨h.at_, h.n, h.bits, h.order, h.keep, h.picks⟩, fun h => absurd rfl h, rfl, ?_⟩, rfl⟩, hm.sel (by (repeat constructor); first | done | fail)⟩
   intro a _ _ _ h
   have h : s = hexF a.bytes := h
   unfold hexF at h
   split at h
   ·exact absurd h h45
   ·show _ = { x with bytes := a.bytes }
    rw [hbs _ h]
end
theorem rwhole_enters : Eng.Enters Tryz.prog 168 := enters_mk fun _ _ => by kernel_rfl
theorem pact_fk (x : PAct) (h0 : x.fk = 0) (h1 : x.keep = 0) : x = { x with fk := 0, keep := 0 } := by
 cases x; simp_all
/-- What becomes of a fate that is read. -/
def FateRd (rB : Nat) (A : Option Addr) (ws : List (List UInt8)) (aB : Nat) (x : PAct) (bA pA : Option Addr) (bc pc : Nat) (e : Ending) (m' : Mem) : Prop :=
 (e = .panicked (refusal 410) ∧ ∀ a : PAct, a.Ok → a.kind = 24 → mayB a = true → ws ≠ fateW a) ∨
 ∃ (ws' : List (List UInt8)) (x' : PAct) (A' : Option Addr) (cap' : Nat), e = .returned (.tuple #[]) ∧ x'.Ok ∧ x'.kind = x.kind ∧ (∀ w, (∀ s ∈ ws, NumW w s) → NumAct w x → NumAct w x') ∧ x'.bytes = x.bytes ∧ x'.picks = x.picks ∧ (∀ a : PAct, a.Ok → a.kind = 24 → mayB a = true → x.fk = 0 → x.keep = 0 → ws = fateW a → x' = { x with fk := a.fk, keep := a.keep }) ∧ m' = RM rB A' ws'.length cap' aB x' bA pA bc pc
section
variable (rB : Nat) (A : Option Addr) (cap : Nat) (ws : List (List UInt8)) (aB : Nat) (x : PAct) (bA pA : Option Addr) (bc pc : Nat) (w : World) (hc : ws.length ≤ cap) (hx : x.Ok) (hl : ∀ s ∈ ws, s.length ≤ 1099511627776)
 (hm : MemOk w (Foot (RM rB A ws.length cap aB x bA pA bc pc)) (RM rB A ws.length cap aB x bA pA bc pc) w) (hs : Stb (RM rB A ws.length cap aB x bA pA bc pc) w (fun w => StrsIn w A ws)) (hw : Stb (RM rB A ws.length cap aB x bA pA bc pc) w (LWT ws))
include hc hx hl hm hs hw
set_option maxRecDepth 100000 in
theorem rfate_any :
  Ctr Tryz.prog 162 [.pointer (some ⟨rB, 0, none⟩), .pointer (some ⟨aB, 10, none⟩)] (RM rB A ws.length cap aB x bA pA bc pc) (FateRd rB A ws aB x bA pA bc pc) w := by
 refine enter (cx := CXS 24 [] w (Foot (RM rB A ws.length cap aB x bA pA bc pc))) [(0, .pointer (some ⟨rB, 0, none⟩)), (1, .pointer (some ⟨aB, 10, none⟩))] tab_ok Tryz.func162 rfl rfl rfl rfl hm ?_
 conv => whnf
 (repeat ((first | refine stp (by (repeat constructor); first | done | fail) ?_ | refine stn (by (repeat constructor); first | done | fail) ?_ | refine sto (by (repeat constructor); first | done | fail) (by first | omega | (simp only; omega)) ?_ | refine .mk fun Ap capp => ?_ | refine ⟨?_, trivial⟩ | intro _); conv => whnf))
 refine ⟨next_enters, cl_mem (.cons .here .nil) (fun w' hm' => next_any rB A cap ws w' hc hm'.part (stb hm' (fun w'' hm'' => hs w'' hm''.fr))) ?_⟩
 rintro e m' (⟨rfl, rfl⟩ | ⟨s, ws', A', cap', rfl, rfl, hc', hS, rfl⟩)
 ·refine fin_panic (fun w' hm => ⟨_, .inl ⟨rfl, ?_⟩, hm⟩)
  intro a _ hk _ h
  unfold fateW at h
  rw [if_pos hk] at h
  split at h <;> cases h
 have hl' : ∀ s ∈ ws', s.length ≤ 1099511627776 := fun s hs => hl s (List.mem_cons_of_mem _ hs)
 have ngf : wGood ≠ wFail := by decide
 have ngl : wGood ≠ wFull := by decide
 have nfl : wFail ≠ wFull := by decide
 conv => whnf
 (repeat ((first | refine stp (by (repeat constructor); first | done | fail) ?_ | refine stn (by (repeat constructor); first | done | fail) ?_ | refine sto (by (repeat constructor); first | done | fail) (by first | omega | (simp only; omega)) ?_ | refine .mk fun Ap capp => ?_ | refine ⟨?_, trivial⟩ | intro _); conv => whnf))
 refine br_d (fun hb => ?_) (fun hb => ?_)
 ·have hg : s = wGood := Str.inj.1 hb
  conv => whnf
  refine fin0 rfl (fun w' hm => ?_) (by first | exact .inr rfl | exact .inl rfl)
  refine ⟨_, .inr ⟨ws', x, A', cap', rfl, hx, rfl, fun _ _ h => h, rfl, rfl, ?_, rfl⟩, hm.sel (by (repeat constructor); first | done | fail)⟩
  intro a ha hk hmay h0 h1 h
  unfold fateW at h
  rw [if_pos hk] at h
  have hf := may_fate hmay
  split at h
  ·rename_i hf0
   rw [hf0, hf.2.2 hf0]
   exact pact_fk x h0 h1
  ·rename_i hf0
   simp only [List.cons.injEq] at h
   rw [hg] at h
   split at h
   ·exact absurd h.1 ngf
   ·exact absurd h.1 ngl
 ·have hg : s ≠ wGood := fun h => hb (Str.inj.2 h)
  conv => whnf
  (repeat ((first | refine stp (by (repeat constructor); first | done | fail) ?_ | refine stn (by (repeat constructor); first | done | fail) ?_ | refine sto (by (repeat constructor); first | done | fail) (by first | omega | (simp only; omega)) ?_ | refine .mk fun Ap capp => ?_ | refine ⟨?_, trivial⟩ | intro _); conv => whnf))
  refine br_d (fun hb2 => ?_) (fun hb2 => ?_)
  ·have hf : s = wFail := Str.inj.1 hb2
   conv => whnf
   (repeat ((first | refine stp (by (repeat constructor); first | done | fail) ?_ | refine stn (by (repeat constructor); first | done | fail) ?_ | refine sto (by (repeat constructor); first | done | fail) (by first | omega | (simp only; omega)) ?_ | refine .mk fun Ap capp => ?_ | refine ⟨?_, trivial⟩ | intro _); conv => whnf))
   refine ⟨rwhole_enters, cl_mem (m1 := RM rB A' ws'.length cap' aB { x with fk := 1 } bA pA bc pc) (by (repeat constructor); first | done | fail) (fun w' hm' => rkeep_any rB A' cap' ws' aB { x with fk := 1 } bA pA bc pc w' hc' hl' hm'.part (stb hm' (fun w'' hm'' => hS _ (hs w'' hm''.fr))) (stb hm' (fun w'' hm'' => (hw w'' hm''.fr).drop (fun _ hs => hs)))) ?_⟩
   rintro e m' (⟨rfl, hno⟩ | ⟨s2, ws2, v, A2, cap2, rfl, rfl, hv, hc2, hS2, rfl⟩)
   ·refine fin_panic (fun w' hm => ⟨_, .inl ⟨rfl, ?_⟩, hm⟩)
    intro a ha hk _ h
    unfold fateW at h
    rw [if_pos hk] at h
    split at h
    ·cases h; exact hg rfl
    ·simp only [List.cons.injEq] at h
     exact hno _ _ h.2 _ (parse_itoa _ ha.keep)
   ·have hvr := parse_range hv
    conv => whnf
    refine fin0 rfl (fun w' hm => ?_) (by first | exact .inr rfl | exact .inl rfl)
    refine ⟨_, .inr ⟨ws2, { x with fk := 1, keep := v }, A2, cap2, rfl, { hx with fk := by show (-9223372036854775808 : Int) ≤ 1 ∧ (1 : Int) ≤ 9223372036854775807; omega, keep := hvr }, rfl, fun w hn h => ⟨h.at_, h.n, h.bits, h.order, hn s2 (by simp) v hv, h.picks⟩, rfl, rfl, ?_, rfl⟩, hm.sel (by (repeat constructor); first | done | fail)⟩
    intro a ha hk _ _ _ h
    unfold fateW at h
    rw [if_pos hk] at h
    split at h
    ·cases h
    ·rename_i hf0
     simp only [List.cons.injEq] at h
     have hf1 : a.fk = 1 := by
      by_cases h1 : a.fk = 1
      ·exact h1
      ·rw [if_neg h1, hf] at h; exact absurd h.1 nfl
     rw [h.2.1, parse_itoa _ ha.keep] at hv
     cases hv
     rw [hf1]
  ·have hf : s ≠ wFail := fun h => hb2 (Str.inj.2 h)
   conv => whnf
   (repeat ((first | refine stp (by (repeat constructor); first | done | fail) ?_ | refine stn (by (repeat constructor); first | done | fail) ?_ | refine sto (by (repeat constructor); first | done | fail) (by first | omega | (simp only; omega)) ?_ | refine .mk fun Ap capp => ?_ | refine ⟨?_, trivial⟩ | intro _); conv => whnf))
   refine br_d (fun hb3 => ?_) (fun hb3 => ?_)
   ·have hu : s = wFull := Str.inj.1 hb3
    conv => whnf
    (repeat ((first | refine stp (by (repeat constructor); first | done | fail) ?_ | refine stn (by (repeat constructor); first | done | fail) ?_ | refine sto (by (repeat constructor); first | done | fail) (by first | omega | (simp only; omega)) ?_ | refine .mk fun Ap capp => ?_ | refine ⟨?_, trivial⟩ | intro _); conv => whnf))
    refine ⟨rwhole_enters, cl_mem (m1 := RM rB A' ws'.length cap' aB { x with fk := 2 } bA pA bc pc) (by (repeat constructor); first | done | fail) (fun w' hm' => rkeep_any rB A' cap' ws' aB { x with fk := 2 } bA pA bc pc w' hc' hl' hm'.part (stb hm' (fun w'' hm'' => hS _ (hs w'' hm''.fr))) (stb hm' (fun w'' hm'' => (hw w'' hm''.fr).drop (fun _ hs => hs)))) ?_⟩
    rintro e m' (⟨rfl, hno⟩ | ⟨s2, ws2, v, A2, cap2, rfl, rfl, hv, hc2, hS2, rfl⟩)
    ·refine fin_panic (fun w' hm => ⟨_, .inl ⟨rfl, ?_⟩, hm⟩)
     intro a ha hk _ h
     unfold fateW at h
     rw [if_pos hk] at h
     split at h
     ·cases h; exact hg rfl
     ·simp only [List.cons.injEq] at h
      exact hno _ _ h.2 _ (parse_itoa _ ha.keep)
    ·have hvr := parse_range hv
     conv => whnf
     refine fin0 rfl (fun w' hm => ?_) (by first | exact .inr rfl | exact .inl rfl)
     refine ⟨_, .inr ⟨ws2, { x with fk := 2, keep := v }, A2, cap2, rfl, { hx with fk := by show (-9223372036854775808 : Int) ≤ 2 ∧ (2 : Int) ≤ 9223372036854775807; omega, keep := hvr }, rfl, fun w hn h => ⟨h.at_, h.n, h.bits, h.order, hn s2 (by simp) v hv, h.picks⟩, rfl, rfl, ?_, rfl⟩, hm.sel (by (repeat constructor); first | done | fail)⟩
     intro a ha hk hmay _ _ h
     unfold fateW at h
     rw [if_pos hk] at h
     have hfa := may_fate hmay
     split at h
     ·cases h
     ·rename_i hf0
      simp only [List.cons.injEq] at h
      have hf1 : a.fk = 2 := by
       by_cases h1 : a.fk = 1
       ·rw [if_pos h1, hu] at h; exact absurd h.1.symm nfl
       ·omega
      rw [h.2.1, parse_itoa _ ha.keep] at hv
      cases hv
      rw [hf1]
   ·have hu : s ≠ wFull := fun h => hb3 (Str.inj.2 h)
    conv => whnf
    (repeat ((first | refine stp (by (repeat constructor); first | done | fail) ?_ | refine stn (by (repeat constructor); first | done | fail) ?_ | refine sto (by (repeat constructor); first | done | fail) (by first | omega | (simp only; omega)) ?_ | refine .mk fun Ap capp => ?_ | refine ⟨?_, trivial⟩ | intro _); conv => whnf))
    refine ⟨wrong_enters, cl_mem .nil (fun w' hm' => wrong_any w') ?_⟩
    rintro e m' ⟨rfl, rfl⟩
    refine fin_panic (fun w' hm => ⟨_, .inl ⟨rfl, ?_⟩, hm⟩)
    intro a ha hk _ h
    unfold fateW at h
    rw [if_pos hk] at h
    split at h
    ·cases h; exact hg rfl
    ·simp only [List.cons.injEq] at h
     split at h
     ·exact hf h.1
     ·exact hu h.1
end
end Go.Proofs.YtbfbjgakmnckbaaGreatDoor
namespace Go.Proofs.YtbfbjgakmnckbaaGreatDoor
open Go Go.RowKit Eng
attribute [local irreducible] Br Rn RnU Cl RdG CpG Ld Rd Lp Dr Oth Cut fin Fits Eng.Enters Md NA
abbrev PR (A : Option Addr) (cap : Nat) (ps : List Int) : Res := .row A cap ps.length 3 1 (ps.map (.int .i64))
/-- What becomes of picks that are read. -/
def PicksRd (rB : Nat) (ws : List (List UInt8)) (aB : Nat) (x : PAct) (bA : Option Addr) (bc : Nat) (e : Ending) (m' : Mem) : Prop :=
 (e = .panicked (refusal 410) ∧ ∀ ps : List Int, (∀ p ∈ ps, -9223372036854775808 ≤ p ∧ p ≤ 9223372036854775807) → ws ≠ ps.map Lib.itoa) ∨
 ∃ (ps : List Int) (A' : Option Addr) (n' cap' : Nat) (pA' : Option Addr) (pc' : Nat), e = .returned (.tuple #[]) ∧ ws.map (Lib.parseIntB 64) = ps.map Lib.NumEnd.ok ∧ m' = RM rB A' n' cap' aB { x with picks := ps } bA pA' bc pc' ++ [PR pA' pc' ps]
set_option maxRecDepth 100000 in
theorem rpicks_any (rB : Nat) (A : Option Addr) (cap : Nat) (ws : List (List UInt8)) (aB : Nat) (x : PAct) (bA : Option Addr) (bc : Nat) (w : World) (hc : ws.length ≤ cap) (hx0 : x.picks = []) (hl : ∀ s ∈ ws, s.length ≤ 1099511627776) (hwl : ws.length ≤ 1073741824)
  (hm : MemOk w (Foot (RM rB A ws.length cap aB x bA none bc 0)) (RM rB A ws.length cap aB x bA none bc 0) w) (hs : Stb (RM rB A ws.length cap aB x bA none bc 0) w (fun w => StrsIn w A ws)) (hw : Stb (RM rB A ws.length cap aB x bA none bc 0) w (LWW ws)) :
  Ctr Tryz.prog 167 [.pointer (some ⟨rB, 0, none⟩), .pointer (some ⟨aB, 12, none⟩)] (RM rB A ws.length cap aB x bA none bc 0) (PicksRd rB ws aB x bA bc) w := by
 refine enter (cx := CXS 21 [] w (Foot (RM rB A ws.length cap aB x bA none bc 0))) [(0, .pointer (some ⟨rB, 0, none⟩)), (1, .pointer (some ⟨aB, 12, none⟩))] tab_ok Tryz.func167 rfl rfl rfl rfl hm ?_
 have ex : { x with picks := [] } = x := by cases x; simp_all
 conv => whnf
 refine lp tab_ok (γ := List (List UInt8) × List (List UInt8) × Option Addr × Nat × List Int × Option Addr × Nat) (fun g => ws = g.1 ++ g.2.1 ∧ g.1.map (Lib.parseIntB 64) = g.2.2.2.2.1.map Lib.NumEnd.ok ∧ g.2.1.length ≤ g.2.2.2.1 ∧ ∀ w, StrsIn w A ws → StrsIn w g.2.2.1 g.2.1) (fun g => [(0, .pointer (some ⟨rB, 0, none⟩)), (1, .pointer (some ⟨aB, 12, none⟩))]) (fun g => RM rB g.2.2.1 g.2.1.length g.2.2.2.1 aB { x with picks := g.2.2.2.2.1 } bA g.2.2.2.2.2.1 bc g.2.2.2.2.2.2 ++ [PR g.2.2.2.2.2.1 g.2.2.2.2.2.2 g.2.2.2.2.1]) (fun g => g.2.1.length) ([], ws, A, cap, [], none, 0) ⟨rfl, rfl, hc, fun _ h => h⟩ ⟨rfl, rfl, trivial⟩ (by
  simp only [ex]
  exact fun w hm => (hm.nilRow 3 1).sel (by (repeat constructor); first | done | fail)) ?_
 rintro ⟨pre, ws', A', cap', ps, pA', pc'⟩ ⟨hws, hpre, hc', hS⟩
 simp only at hws hpre hc' hS
 change XC _ _ _ [(0, .pointer (some ⟨rB, 0, none⟩)), (1, .pointer (some ⟨aB, 12, none⟩))] (RM rB A' ws'.length cap' aB { x with picks := ps } bA pA' bc pc' ++ [PR pA' pc' ps])
 have hpl : ps.length ≤ ws.length := by
  have := congrArg List.length hpre
  simp only [List.length_map] at this
  rw [hws, List.length_append]; omega
 conv => whnf
 (repeat ((first | refine stp (by (repeat constructor); first | done | fail) ?_ | refine stn (by (repeat constructor); first | done | fail) ?_ | refine sto (by (repeat constructor); first | done | fail) (by first | omega | (simp only; omega)) ?_ | refine .mk fun Ap capp => ?_ | refine ⟨?_, trivial⟩ | intro _); conv => whnf))
 refine br_d (fun hlt => ?_) (fun hge => ?_)
 ·conv => whnf
  intro nB
  conv => whnf
  (repeat ((first | refine stp (by (repeat constructor); first | done | fail) ?_ | refine stn (by (repeat constructor); first | done | fail) ?_ | refine sto (by (repeat constructor); first | done | fail) (by first | omega | (simp only; omega)) ?_); conv => whnf))
  refine ⟨rwhole_enters, cl_mem (m1 := CM rB A' ws'.length cap' nB 0 3) (by (repeat constructor); first | done | fail) (fun w' hm' => whole1_any rB A' cap' ws' nB 0 w' hc' (fun s hs => hl s (by rw [hws]; exact List.mem_append_right _ hs)) hm'.part (stb hm' (fun w'' hm'' => hS _ (hs w'' hm''.fr))) (stb hm' (fun w'' hm'' => (hw w'' hm''.fr).drop (fun s hs => by rw [hws]; exact List.mem_append_right _ hs)))) ?_⟩
  rintro e m' (⟨rfl, hno⟩ | ⟨s, ws2, v, A2, cap2, rfl, rfl, hv, hc2, hS2, rfl⟩)
  ·refine fin_panic (fun w' hm => ⟨_, .inl ⟨rfl, ?_⟩, hm⟩)
   intro ps' hr h
   rw [hws] at h
   obtain ⟨s, ws2, rfl⟩ : ∃ s ws2, ws' = s :: ws2 := by
    cases ws' with
    | nil => exact absurd hlt (by simp)
    | cons s ws2 => exact ⟨s, ws2, rfl⟩
   have hmem : s ∈ ps'.map Lib.itoa := by rw [← h]; simp
   obtain ⟨p, hp, hps⟩ := List.mem_map.1 hmem
   exact hno s ws2 rfl p (by rw [← hps, parse_itoa p (hr p hp)])
  ·rw [List.length_cons] at *
   conv => whnf
   refine dr_any (γ := Option Addr × Nat) (Tr.hs [0, 1, 2, 4] (.alts 3 (Tr.sq [5, 6, 7, 8] .done) (.alts 5 (Tr.sq [3, 6, 7, 8] .done) .stop))) [.blk nB (.cells #[.int .i64 v] 3)] tab_ok mixed (by kernel_rfl) rfl (fun _ => True) (fun _ => [(0, .pointer (some ⟨rB, 0, none⟩)), (1, .pointer (some ⟨aB, 12, none⟩))]) (fun g => RM rB A2 ws2.length cap2 aB { x with picks := ps ++ [v] } bA g.1 bc g.2 ++ [PR g.1 g.2 (ps ++ [v])]) (SubM.sel (by (repeat constructor); first | done | fail)) ?_ ?_
   ·conv => whnf
    (repeat ((first | refine stp (by (repeat constructor); first | done | fail) ?_ | refine stn (by (repeat constructor); first | done | fail) ?_ | refine sto (by (repeat constructor); first | done | fail) (by first | omega | (simp only; omega)) ?_ | refine .mk fun Ap capp => ?_ | refine ⟨?_, trivial⟩ | intro _); conv => whnf))
    refine ⟨?_, ?_, trivial⟩
    all_goals
     conv => whnf
     (repeat ((first | refine And.intro (SubM.sel (m1 := [.blk nB (.cells #[.int .i64 v] 3)]) (.cons (by (repeat constructor); first | done | fail) .nil)) ?_ | refine stp (by (repeat constructor); first | done | fail) ?_ | refine stn (by (repeat constructor); first | done | fail) ?_ | refine sto (by (repeat constructor); first | done | fail) (by first | omega | (simp only; omega)) ?_ | refine .mk fun Ap capp => ?_ | refine ⟨?_, trivial⟩ | intro _); conv => whnf))
     refine ⟨(Ap, capp), trivial, ⟨rfl, rfl, trivial⟩, ?_⟩
     simp only [RM, PR, actL, List.length_append, List.length_cons, List.length_nil, List.map_append, List.map_cons, List.map_nil]
     exact SubM.sel (by (repeat constructor); first | done | fail)
   ·rintro ⟨Ap, capp⟩ _
    conv => whnf
    exact ⟨(pre ++ [s], ws2, A2, cap2, ps ++ [v], Ap, capp), ⟨by rw [hws]; simp, by simp [hpre, hv], hc2, fun w h => hS2 w (hS w h)⟩, by simp, ⟨rfl, rfl, trivial⟩, SubM.refl _ _⟩
 ·have hnil : ws' = [] := List.eq_nil_of_length_eq_zero (by omega)
  subst hnil
  conv => whnf
  refine fin0 rfl (fun w' hm => ?_) (by first | exact .inr rfl | exact .inl rfl)
  rw [List.append_nil] at hws
  subst hws
  exact ⟨_, .inr ⟨ps, A', _, cap', pA', pc', rfl, hpre, rfl⟩, hm⟩
end Go.Proofs.YtbfbjgakmnckbaaGreatDoor
