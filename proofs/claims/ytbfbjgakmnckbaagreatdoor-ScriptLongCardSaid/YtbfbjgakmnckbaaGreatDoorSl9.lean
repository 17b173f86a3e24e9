/- The script's kinds, read: what each function over an act reads of its words. Written by program (gen/genrd7.py). No statement of the seat is proved here. -/
import Derived.Test.YtbfbjgakmnckbaaGreatDoorSl8
namespace Go.Proofs.YtbfbjgakmnckbaaGreatDoor
open Go Go.RowKit Eng
attribute [local irreducible] Br Rn RnU Cl RdG CpG Ld Rd Lp Dr Oth Cut fin Fits Eng.Enters Md NA

/-- What becomes of letters that are read (bx: with the row of bytes behind). -/
def OvR (bx : Bool) (f : List UInt8) (rB : Nat) (A : Option Addr) (ws : List (List UInt8)) (aB : Nat) (x : PAct) (pA : Option Addr) (pc : Nat) (e : Ending) (m' : Mem) : Prop :=
 (e = .panicked (refusal 410) ∧ ∀ a : PAct, a.Ok → onlyOk f a = true → ∀ more, ws ≠ f.map (fun c => letS c a) ++ more) ∨
 ∃ (ws' : List (List UInt8)) (x' : PAct) (A' : Option Addr) (cap' : Nat) (bA' : Option Addr) (bc' : Nat), e = .returned (.tuple #[]) ∧ ws'.length ≤ cap' ∧ (∃ p0 pre, ws = p0 :: pre ++ ws') ∧ (∀ w, StrsIn w A ws → StrsIn w A' ws') ∧ x'.Ok ∧ x'.kind = x.kind ∧ (∀ w, (∀ s ∈ ws, NumW w s) → NumAct w x → NumAct w x') ∧ x'.picks = x.picks ∧ (∀ a : PAct, a.Ok → onlyOk f a = true → ∀ more, ws = f.map (fun c => letS c a) ++ more → x' = onlyX f a x ∧ ws' = more) ∧
  (match bx with
  | true => m' = RM rB A' ws'.length cap' aB x' bA' pA bc' pc ++ [BR bA' bc' x'.bytes]
  | false => x'.bytes = [] ∧ m' = RM rB A' ws'.length cap' aB x' none pA 0 pc)
theorem onlyOk_cons {c : UInt8} {f : List UInt8} {a : PAct} (h : onlyOk (c :: f) a = true) : okL1 c a = true ∧ onlyOk f a = true := by
 simpa [onlyOk] using h
theorem rname_ent : Eng.Enters Tryz.prog 165 := enters_mk fun _ _ => by kernel_rfl
theorem mdR_name (cx : Cx) (hP : cx.P = Tryz.prog) (tB : Nat) : Md cx 83 (.pointer (some ⟨tB, 0, none⟩)) "palimpsest/script.name" 165 (.pointer (some ⟨tB, 0, none⟩)) := by
 unfold Md; intro W; rw [hP]; kernel_rfl
theorem naR_name (cx : Cx) (hP : cx.P = Tryz.prog) (tB : Nat) : NA cx 83 (.pointer (some ⟨tB, 0, none⟩)) "palimpsest/script.name" := by
 unfold NA; intro W; rw [hP]; kernel_rfl
theorem rlong_ent : Eng.Enters Tryz.prog 164 := enters_mk fun _ _ => by kernel_rfl
theorem mdR_long (cx : Cx) (hP : cx.P = Tryz.prog) (tB : Nat) : Md cx 83 (.pointer (some ⟨tB, 0, none⟩)) "palimpsest/script.long" 164 (.pointer (some ⟨tB, 0, none⟩)) := by
 unfold Md; intro W; rw [hP]; kernel_rfl
theorem naR_long (cx : Cx) (hP : cx.P = Tryz.prog) (tB : Nat) : NA cx 83 (.pointer (some ⟨tB, 0, none⟩)) "palimpsest/script.long" := by
 unfold NA; intro W; rw [hP]; kernel_rfl
theorem rwhole_ent : Eng.Enters Tryz.prog 168 := enters_mk fun _ _ => by kernel_rfl
theorem mdR_whole (cx : Cx) (hP : cx.P = Tryz.prog) (tB : Nat) : Md cx 83 (.pointer (some ⟨tB, 0, none⟩)) "palimpsest/script.whole" 168 (.pointer (some ⟨tB, 0, none⟩)) := by
 unfold Md; intro W; rw [hP]; kernel_rfl
theorem naR_whole (cx : Cx) (hP : cx.P = Tryz.prog) (tB : Nat) : NA cx 83 (.pointer (some ⟨tB, 0, none⟩)) "palimpsest/script.whole" := by
 unfold NA; intro W; rw [hP]; kernel_rfl
theorem rflag_ent : Eng.Enters Tryz.prog 163 := enters_mk fun _ _ => by kernel_rfl
theorem mdR_flag (cx : Cx) (hP : cx.P = Tryz.prog) (tB : Nat) : Md cx 83 (.pointer (some ⟨tB, 0, none⟩)) "palimpsest/script.flag" 163 (.pointer (some ⟨tB, 0, none⟩)) := by
 unfold Md; intro W; rw [hP]; kernel_rfl
theorem naR_flag (cx : Cx) (hP : cx.P = Tryz.prog) (tB : Nat) : NA cx 83 (.pointer (some ⟨tB, 0, none⟩)) "palimpsest/script.flag" := by
 unfold NA; intro W; rw [hP]; kernel_rfl
theorem rdata_ent : Eng.Enters Tryz.prog 161 := enters_mk fun _ _ => by kernel_rfl
theorem mdR_data (cx : Cx) (hP : cx.P = Tryz.prog) (tB : Nat) : Md cx 83 (.pointer (some ⟨tB, 0, none⟩)) "palimpsest/script.data" 161 (.pointer (some ⟨tB, 0, none⟩)) := by
 unfold Md; intro W; rw [hP]; kernel_rfl
theorem naR_data (cx : Cx) (hP : cx.P = Tryz.prog) (tB : Nat) : NA cx 83 (.pointer (some ⟨tB, 0, none⟩)) "palimpsest/script.data" := by
 unfold NA; intro W; rw [hP]; kernel_rfl
theorem rfate_ent : Eng.Enters Tryz.prog 162 := enters_mk fun _ _ => by kernel_rfl
theorem mdR_fate (cx : Cx) (hP : cx.P = Tryz.prog) (tB : Nat) : Md cx 83 (.pointer (some ⟨tB, 0, none⟩)) "palimpsest/script.fate" 162 (.pointer (some ⟨tB, 0, none⟩)) := by
 unfold Md; intro W; rw [hP]; kernel_rfl
theorem naR_fate (cx : Cx) (hP : cx.P = Tryz.prog) (tB : Nat) : NA cx 83 (.pointer (some ⟨tB, 0, none⟩)) "palimpsest/script.fate" := by
 unfold NA; intro W; rw [hP]; kernel_rfl
theorem rpicks_ent : Eng.Enters Tryz.prog 167 := enters_mk fun _ _ => by kernel_rfl
theorem mdR_picks (cx : Cx) (hP : cx.P = Tryz.prog) (tB : Nat) : Md cx 83 (.pointer (some ⟨tB, 0, none⟩)) "palimpsest/script.picks" 167 (.pointer (some ⟨tB, 0, none⟩)) := by
 unfold Md; intro W; rw [hP]; kernel_rfl
theorem naR_picks (cx : Cx) (hP : cx.P = Tryz.prog) (tB : Nat) : NA cx 83 (.pointer (some ⟨tB, 0, none⟩)) "palimpsest/script.picks" := by
 unfold NA; intro W; rw [hP]; kernel_rfl
section
variable (rB : Nat) (A : Option Addr) (cap : Nat) (ws : List (List UInt8)) (aB : Nat) (x : PAct) (pA : Option Addr) (pc : Nat) (w : World) (hc : ws.length ≤ cap) (hx : x.Ok) (hx0 : x.bytes = []) (hl : ∀ s ∈ ws, s.length ≤ 1099511627776)
 (hm : MemOk w (Foot (RM rB A ws.length cap aB x none pA 0 pc)) (RM rB A ws.length cap aB x none pA 0 pc) w) (hs : Stb (RM rB A ws.length cap aB x none pA 0 pc) w (fun w => StrsIn w A ws)) (hw : Stb (RM rB A ws.length cap aB x none pA 0 pc) w (LWT ws))
include hc hx hx0 hl hm hs hw
set_option maxRecDepth 100000 in
set_option maxHeartbeats 1000000 in
theorem rtwo_any :
  Ctr Tryz.prog 79 [.pointer (some ⟨aB, 0, none⟩), .iface 83 (.pointer (some ⟨rB, 0, none⟩))] (RM rB A ws.length cap aB x none pA 0 pc) (OvR false [97, 111] rB A ws aB x pA pc) w := by
 refine enter (cx := CXS 20 [] w (Foot (RM rB A ws.length cap aB x none pA 0 pc))) [(0, .pointer (some ⟨aB, 0, none⟩)), (1, .iface 83 (.pointer (some ⟨rB, 0, none⟩)))] tab_ok Tryz.func79 rfl rfl rfl rfl hm ?_
 have HS : ∀ w, StrsIn w A ws → StrsIn w A ws := fun _ h => h
 have HN : ∀ w, (∀ s ∈ ws, NumW w s) → NumAct w x → NumAct w x := fun _ _ h => h
 have HL := hl
 conv => whnf
 (repeat ((first | (refine dr_tail 7 tab_ok mixed (by kernel_rfl) rfl rfl ?_) | refine stp (by (repeat constructor); first | done | fail) ?_ | refine stn (by (repeat constructor); first | done | fail) ?_ | refine sto (by (repeat constructor); first | done | fail) (by first | omega | (simp only; omega)) ?_ | refine .mk fun Ap capp => ?_ | refine ⟨?_, trivial⟩ | intro _); conv => whnf))
 refine ⟨naR_name _ rfl _, ?_⟩
 conv => whnf
 (repeat ((first | refine stp (by (repeat constructor); first | done | fail) ?_ | refine stn (by (repeat constructor); first | done | fail) ?_ | refine sto (by (repeat constructor); first | done | fail) (by first | omega | (simp only; omega)) ?_ | refine .mk fun Ap capp => ?_ | refine ⟨?_, trivial⟩ | intro _); conv => whnf))
 refine ⟨_, _, mdR_name _ rfl _, rname_ent, cl_mem (.cons .here (.cons .here .nil)) (fun w' hm' => rN_any rB A cap ws aB x _ pA _ pc w' hc hx HL hm'.part (stb hm' (fun w'' hm'' => HS _ (hs w'' hm''.fr)))) ?_⟩
 rintro e m' (⟨rfl, hno⟩ | ⟨s1, ws1, x1, A1, cap1, rfl, rfl, hc, hS, hq1, rfl⟩)
 ·refine fin_panic (fun w' hm => ⟨_, .inl ⟨rfl, fun a ha ho more h => ?_⟩, hm⟩)
  have p1 := onlyOk_cons ho
  exact hno _ _ h a ha p1.1 rfl
 replace hx := hq1.ok
 replace HS := fun w h => hS w (HS w h)
 replace HL := fun s hs => HL s (List.mem_cons_of_mem _ hs)
 conv => whnf
 (repeat ((first | (refine dr_tail 7 tab_ok mixed (by kernel_rfl) rfl rfl ?_) | refine stp (by (repeat constructor); first | done | fail) ?_ | refine stn (by (repeat constructor); first | done | fail) ?_ | refine sto (by (repeat constructor); first | done | fail) (by first | omega | (simp only; omega)) ?_ | refine .mk fun Ap capp => ?_ | refine ⟨?_, trivial⟩ | intro _); conv => whnf))
 refine ⟨naR_name _ rfl _, ?_⟩
 conv => whnf
 (repeat ((first | refine stp (by (repeat constructor); first | done | fail) ?_ | refine stn (by (repeat constructor); first | done | fail) ?_ | refine sto (by (repeat constructor); first | done | fail) (by first | omega | (simp only; omega)) ?_ | refine .mk fun Ap capp => ?_ | refine ⟨?_, trivial⟩ | intro _); conv => whnf))
 refine ⟨_, _, mdR_name _ rfl _, rname_ent, cl_mem (.cons .here (.cons .here .nil)) (fun w' hm' => rO_any rB A1 cap1 ws1 aB x1 _ pA _ pc w' hc hx HL hm'.part (stb hm' (fun w'' hm'' => HS _ (hs w'' hm''.fr)))) ?_⟩
 rintro e m' (⟨rfl, hno⟩ | ⟨s2, ws2, x2, A2, cap2, rfl, rfl, hc, hS, hq2, rfl⟩)
 ·refine fin_panic (fun w' hm => ⟨_, .inl ⟨rfl, fun a ha ho more h => ?_⟩, hm⟩)
  have p1 := onlyOk_cons ho
  have p2 := onlyOk_cons p1.2
  simp only [List.map_cons, List.map_nil, List.cons_append, List.nil_append, List.cons.injEq] at h
  exact hno _ _ h.2 a ha p2.1 rfl
 replace hx := hq2.ok
 replace HS := fun w h => hS w (HS w h)
 replace HL := fun s hs => HL s (List.mem_cons_of_mem _ hs)
 conv => whnf
 refine fin0 rfl (fun w' hm => ?_) (by first | exact .inr rfl | exact .inl rfl)
 have snd : ∀ a : PAct, a.Ok → onlyOk [97, 111] a = true → ∀ more, s1 :: s2 :: ws2 = ([97, 111] : List UInt8).map (fun c => letS c a) ++ more → x2 = onlyX [97, 111] a x ∧ ws2 = more := by
  intro a ha ho more h
  have p1 := onlyOk_cons ho
  have p2 := onlyOk_cons p1.2
  simp only [List.map_cons, List.map_nil, List.cons_append, List.nil_append, List.cons.injEq] at h
  have r1 := hq1.sound a ha p1.1 (fun hh => absurd hh (by decide)) h.1
  have r2 := hq2.sound a ha p2.1 (fun hh => absurd hh (by decide)) h.2.1
  refine ⟨?_, h.2.2⟩
  rw [r2, r1]
  rfl
 exact ⟨_, .inr ⟨ws2, x2, A2, cap2, none, 0, rfl, hc, ⟨s1, [s2], rfl⟩, HS, hx, (hq2.kind.trans hq1.kind), fun w hn h => (hq2.num w (hn s2 (by simp)) (hq1.num w (hn s1 (by simp)) h)), (hq2.picks.trans hq1.picks), snd, ⟨by rw [hq2.bytes (by decide), hq1.bytes (by decide)]; exact hx0, rfl⟩⟩, hm.sel (by (repeat constructor); first | done | fail)⟩
omit hc hx hx0 hl hm hs hw in
theorem rtwo_enters : Eng.Enters Tryz.prog 79 := enters_mk fun _ _ => by kernel_rfl
set_option maxRecDepth 100000 in
set_option maxHeartbeats 1000000 in
theorem rone_any :
  Ctr Tryz.prog 75 [.pointer (some ⟨aB, 0, none⟩), .iface 83 (.pointer (some ⟨rB, 0, none⟩))] (RM rB A ws.length cap aB x none pA 0 pc) (OvR false [97] rB A ws aB x pA pc) w := by
 refine enter (cx := CXS 12 [] w (Foot (RM rB A ws.length cap aB x none pA 0 pc))) [(0, .pointer (some ⟨aB, 0, none⟩)), (1, .iface 83 (.pointer (some ⟨rB, 0, none⟩)))] tab_ok Tryz.func75 rfl rfl rfl rfl hm ?_
 have HS : ∀ w, StrsIn w A ws → StrsIn w A ws := fun _ h => h
 have HN : ∀ w, (∀ s ∈ ws, NumW w s) → NumAct w x → NumAct w x := fun _ _ h => h
 have HL := hl
 conv => whnf
 (repeat ((first | (refine dr_tail 7 tab_ok mixed (by kernel_rfl) rfl rfl ?_) | refine stp (by (repeat constructor); first | done | fail) ?_ | refine stn (by (repeat constructor); first | done | fail) ?_ | refine sto (by (repeat constructor); first | done | fail) (by first | omega | (simp only; omega)) ?_ | refine .mk fun Ap capp => ?_ | refine ⟨?_, trivial⟩ | intro _); conv => whnf))
 refine ⟨naR_name _ rfl _, ?_⟩
 conv => whnf
 (repeat ((first | refine stp (by (repeat constructor); first | done | fail) ?_ | refine stn (by (repeat constructor); first | done | fail) ?_ | refine sto (by (repeat constructor); first | done | fail) (by first | omega | (simp only; omega)) ?_ | refine .mk fun Ap capp => ?_ | refine ⟨?_, trivial⟩ | intro _); conv => whnf))
 refine ⟨_, _, mdR_name _ rfl _, rname_ent, cl_mem (.cons .here (.cons .here .nil)) (fun w' hm' => rN_any rB A cap ws aB x _ pA _ pc w' hc hx HL hm'.part (stb hm' (fun w'' hm'' => HS _ (hs w'' hm''.fr)))) ?_⟩
 rintro e m' (⟨rfl, hno⟩ | ⟨s1, ws1, x1, A1, cap1, rfl, rfl, hc, hS, hq1, rfl⟩)
 ·refine fin_panic (fun w' hm => ⟨_, .inl ⟨rfl, fun a ha ho more h => ?_⟩, hm⟩)
  have p1 := onlyOk_cons ho
  exact hno _ _ h a ha p1.1 rfl
 replace hx := hq1.ok
 replace HS := fun w h => hS w (HS w h)
 replace HL := fun s hs => HL s (List.mem_cons_of_mem _ hs)
 conv => whnf
 refine fin0 rfl (fun w' hm => ?_) (by first | exact .inr rfl | exact .inl rfl)
 have snd : ∀ a : PAct, a.Ok → onlyOk [97] a = true → ∀ more, s1 :: ws1 = ([97] : List UInt8).map (fun c => letS c a) ++ more → x1 = onlyX [97] a x ∧ ws1 = more := by
  intro a ha ho more h
  have p1 := onlyOk_cons ho
  simp only [List.map_cons, List.map_nil, List.cons_append, List.nil_append, List.cons.injEq] at h
  have r1 := hq1.sound a ha p1.1 (fun hh => absurd hh (by decide)) h.1
  refine ⟨?_, h.2⟩
  rw [r1]
  rfl
 exact ⟨_, .inr ⟨ws1, x1, A1, cap1, none, 0, rfl, hc, ⟨s1, [], rfl⟩, HS, hx, hq1.kind, fun w hn h => (hq1.num w (hn s1 (by simp)) h), hq1.picks, snd, ⟨by rw [hq1.bytes (by decide)]; exact hx0, rfl⟩⟩, hm.sel (by (repeat constructor); first | done | fail)⟩
set_option maxRecDepth 100000 in
set_option maxHeartbeats 1000000 in
theorem rspan_any :
  Ctr Tryz.prog 76 [.pointer (some ⟨aB, 0, none⟩), .iface 83 (.pointer (some ⟨rB, 0, none⟩))] (RM rB A ws.length cap aB x none pA 0 pc) (OvR false [97, 65, 78] rB A ws aB x pA pc) w := by
 refine enter (cx := CXS 28 [] w (Foot (RM rB A ws.length cap aB x none pA 0 pc))) [(0, .pointer (some ⟨aB, 0, none⟩)), (1, .iface 83 (.pointer (some ⟨rB, 0, none⟩)))] tab_ok Tryz.func76 rfl rfl rfl rfl hm ?_
 have HS : ∀ w, StrsIn w A ws → StrsIn w A ws := fun _ h => h
 have HN : ∀ w, (∀ s ∈ ws, NumW w s) → NumAct w x → NumAct w x := fun _ _ h => h
 have HL := hl
 conv => whnf
 (repeat ((first | (refine dr_tail 7 tab_ok mixed (by kernel_rfl) rfl rfl ?_) | refine stp (by (repeat constructor); first | done | fail) ?_ | refine stn (by (repeat constructor); first | done | fail) ?_ | refine sto (by (repeat constructor); first | done | fail) (by first | omega | (simp only; omega)) ?_ | refine .mk fun Ap capp => ?_ | refine ⟨?_, trivial⟩ | intro _); conv => whnf))
 refine ⟨naR_name _ rfl _, ?_⟩
 conv => whnf
 (repeat ((first | refine stp (by (repeat constructor); first | done | fail) ?_ | refine stn (by (repeat constructor); first | done | fail) ?_ | refine sto (by (repeat constructor); first | done | fail) (by first | omega | (simp only; omega)) ?_ | refine .mk fun Ap capp => ?_ | refine ⟨?_, trivial⟩ | intro _); conv => whnf))
 refine ⟨_, _, mdR_name _ rfl _, rname_ent, cl_mem (.cons .here (.cons .here .nil)) (fun w' hm' => rN_any rB A cap ws aB x _ pA _ pc w' hc hx HL hm'.part (stb hm' (fun w'' hm'' => HS _ (hs w'' hm''.fr)))) ?_⟩
 rintro e m' (⟨rfl, hno⟩ | ⟨s1, ws1, x1, A1, cap1, rfl, rfl, hc, hS, hq1, rfl⟩)
 ·refine fin_panic (fun w' hm => ⟨_, .inl ⟨rfl, fun a ha ho more h => ?_⟩, hm⟩)
  have p1 := onlyOk_cons ho
  exact hno _ _ h a ha p1.1 rfl
 replace hx := hq1.ok
 replace HS := fun w h => hS w (HS w h)
 replace HL := fun s hs => HL s (List.mem_cons_of_mem _ hs)
 conv => whnf
 (repeat ((first | (refine dr_tail 7 tab_ok mixed (by kernel_rfl) rfl rfl ?_) | refine stp (by (repeat constructor); first | done | fail) ?_ | refine stn (by (repeat constructor); first | done | fail) ?_ | refine sto (by (repeat constructor); first | done | fail) (by first | omega | (simp only; omega)) ?_ | refine .mk fun Ap capp => ?_ | refine ⟨?_, trivial⟩ | intro _); conv => whnf))
 refine ⟨naR_long _ rfl _, ?_⟩
 conv => whnf
 (repeat ((first | refine stp (by (repeat constructor); first | done | fail) ?_ | refine stn (by (repeat constructor); first | done | fail) ?_ | refine sto (by (repeat constructor); first | done | fail) (by first | omega | (simp only; omega)) ?_ | refine .mk fun Ap capp => ?_ | refine ⟨?_, trivial⟩ | intro _); conv => whnf))
 refine ⟨_, _, mdR_long _ rfl _, rlong_ent, cl_mem (.cons .here (.cons .here .nil)) (fun w' hm' => rA_any rB A1 cap1 ws1 aB x1 _ pA _ pc w' hc hx HL hm'.part (stb hm' (fun w'' hm'' => HS _ (hs w'' hm''.fr))) (stb hm' (fun w'' hm'' => (hw w'' hm''.fr).drop (fun s hs => by simp [hs])))) ?_⟩
 rintro e m' (⟨rfl, hno⟩ | ⟨s2, ws2, x2, A2, cap2, rfl, rfl, hc, hS, hq2, rfl⟩)
 ·refine fin_panic (fun w' hm => ⟨_, .inl ⟨rfl, fun a ha ho more h => ?_⟩, hm⟩)
  have p1 := onlyOk_cons ho
  have p2 := onlyOk_cons p1.2
  simp only [List.map_cons, List.map_nil, List.cons_append, List.nil_append, List.cons.injEq] at h
  exact hno _ _ h.2 a ha p2.1 rfl
 replace hx := hq2.ok
 replace HS := fun w h => hS w (HS w h)
 replace HL := fun s hs => HL s (List.mem_cons_of_mem _ hs)
 conv => whnf
 (repeat ((first | (refine dr_tail 7 tab_ok mixed (by kernel_rfl) rfl rfl ?_) | refine stp (by (repeat constructor); first | done | fail) ?_ | refine stn (by (repeat constructor); first | done | fail) ?_ | refine sto (by (repeat constructor); first | done | fail) (by first | omega | (simp only; omega)) ?_ | refine .mk fun Ap capp => ?_ | refine ⟨?_, trivial⟩ | intro _); conv => whnf))
 refine ⟨naR_long _ rfl _, ?_⟩
 conv => whnf
 (repeat ((first | refine stp (by (repeat constructor); first | done | fail) ?_ | refine stn (by (repeat constructor); first | done | fail) ?_ | refine sto (by (repeat constructor); first | done | fail) (by first | omega | (simp only; omega)) ?_ | refine .mk fun Ap capp => ?_ | refine ⟨?_, trivial⟩ | intro _); conv => whnf))
 refine ⟨_, _, mdR_long _ rfl _, rlong_ent, cl_mem (.cons .here (.cons .here .nil)) (fun w' hm' => rM_any rB A2 cap2 ws2 aB x2 _ pA _ pc w' hc hx HL hm'.part (stb hm' (fun w'' hm'' => HS _ (hs w'' hm''.fr))) (stb hm' (fun w'' hm'' => (hw w'' hm''.fr).drop (fun s hs => by simp [hs])))) ?_⟩
 rintro e m' (⟨rfl, hno⟩ | ⟨s3, ws3, x3, A3, cap3, rfl, rfl, hc, hS, hq3, rfl⟩)
 ·refine fin_panic (fun w' hm => ⟨_, .inl ⟨rfl, fun a ha ho more h => ?_⟩, hm⟩)
  have p1 := onlyOk_cons ho
  have p2 := onlyOk_cons p1.2
  have p3 := onlyOk_cons p2.2
  simp only [List.map_cons, List.map_nil, List.cons_append, List.nil_append, List.cons.injEq] at h
  exact hno _ _ h.2.2 a ha p3.1 rfl
 replace hx := hq3.ok
 replace HS := fun w h => hS w (HS w h)
 replace HL := fun s hs => HL s (List.mem_cons_of_mem _ hs)
 conv => whnf
 refine fin0 rfl (fun w' hm => ?_) (by first | exact .inr rfl | exact .inl rfl)
 have snd : ∀ a : PAct, a.Ok → onlyOk [97, 65, 78] a = true → ∀ more, s1 :: s2 :: s3 :: ws3 = ([97, 65, 78] : List UInt8).map (fun c => letS c a) ++ more → x3 = onlyX [97, 65, 78] a x ∧ ws3 = more := by
  intro a ha ho more h
  have p1 := onlyOk_cons ho
  have p2 := onlyOk_cons p1.2
  have p3 := onlyOk_cons p2.2
  simp only [List.map_cons, List.map_nil, List.cons_append, List.nil_append, List.cons.injEq] at h
  have r1 := hq1.sound a ha p1.1 (fun hh => absurd hh (by decide)) h.1
  have r2 := hq2.sound a ha p2.1 (fun hh => absurd hh (by decide)) h.2.1
  have r3 := hq3.sound a ha p3.1 (fun hh => absurd hh (by decide)) h.2.2.1
  refine ⟨?_, h.2.2.2⟩
  rw [r3, r2, r1]
  rfl
 exact ⟨_, .inr ⟨ws3, x3, A3, cap3, none, 0, rfl, hc, ⟨s1, [s2, s3], rfl⟩, HS, hx, (hq3.kind.trans (hq2.kind.trans hq1.kind)), fun w hn h => (hq3.num w (hn s3 (by simp)) (hq2.num w (hn s2 (by simp)) (hq1.num w (hn s1 (by simp)) h))), (hq3.picks.trans (hq2.picks.trans hq1.picks)), snd, ⟨by rw [hq3.bytes (by decide), hq2.bytes (by decide), hq1.bytes (by decide)]; exact hx0, rfl⟩⟩, hm.sel (by (repeat constructor); first | done | fail)⟩
set_option maxRecDepth 100000 in
set_option maxHeartbeats 1000000 in
theorem rk1_any :
  Ctr Tryz.prog 73 [.pointer (some ⟨aB, 0, none⟩), .iface 83 (.pointer (some ⟨rB, 0, none⟩))] (RM rB A ws.length cap aB x none pA 0 pc) (OvR false [97, 78, 66, 82, 79] rB A ws aB x pA pc) w := by
 refine enter (cx := CXS 44 [] w (Foot (RM rB A ws.length cap aB x none pA 0 pc))) [(0, .pointer (some ⟨aB, 0, none⟩)), (1, .iface 83 (.pointer (some ⟨rB, 0, none⟩)))] tab_ok Tryz.func73 rfl rfl rfl rfl hm ?_
 have HS : ∀ w, StrsIn w A ws → StrsIn w A ws := fun _ h => h
 have HN : ∀ w, (∀ s ∈ ws, NumW w s) → NumAct w x → NumAct w x := fun _ _ h => h
 have HL := hl
 conv => whnf
 (repeat ((first | (refine dr_tail 7 tab_ok mixed (by kernel_rfl) rfl rfl ?_) | refine stp (by (repeat constructor); first | done | fail) ?_ | refine stn (by (repeat constructor); first | done | fail) ?_ | refine sto (by (repeat constructor); first | done | fail) (by first | omega | (simp only; omega)) ?_ | refine .mk fun Ap capp => ?_ | refine ⟨?_, trivial⟩ | intro _); conv => whnf))
 refine ⟨naR_name _ rfl _, ?_⟩
 conv => whnf
 (repeat ((first | refine stp (by (repeat constructor); first | done | fail) ?_ | refine stn (by (repeat constructor); first | done | fail) ?_ | refine sto (by (repeat constructor); first | done | fail) (by first | omega | (simp only; omega)) ?_ | refine .mk fun Ap capp => ?_ | refine ⟨?_, trivial⟩ | intro _); conv => whnf))
 refine ⟨_, _, mdR_name _ rfl _, rname_ent, cl_mem (.cons .here (.cons .here .nil)) (fun w' hm' => rN_any rB A cap ws aB x _ pA _ pc w' hc hx HL hm'.part (stb hm' (fun w'' hm'' => HS _ (hs w'' hm''.fr)))) ?_⟩
 rintro e m' (⟨rfl, hno⟩ | ⟨s1, ws1, x1, A1, cap1, rfl, rfl, hc, hS, hq1, rfl⟩)
 ·refine fin_panic (fun w' hm => ⟨_, .inl ⟨rfl, fun a ha ho more h => ?_⟩, hm⟩)
  have p1 := onlyOk_cons ho
  exact hno _ _ h a ha p1.1 rfl
 replace hx := hq1.ok
 replace HS := fun w h => hS w (HS w h)
 replace HL := fun s hs => HL s (List.mem_cons_of_mem _ hs)
 conv => whnf
 (repeat ((first | (refine dr_tail 7 tab_ok mixed (by kernel_rfl) rfl rfl ?_) | refine stp (by (repeat constructor); first | done | fail) ?_ | refine stn (by (repeat constructor); first | done | fail) ?_ | refine sto (by (repeat constructor); first | done | fail) (by first | omega | (simp only; omega)) ?_ | refine .mk fun Ap capp => ?_ | refine ⟨?_, trivial⟩ | intro _); conv => whnf))
 refine ⟨naR_long _ rfl _, ?_⟩
 conv => whnf
 (repeat ((first | refine stp (by (repeat constructor); first | done | fail) ?_ | refine stn (by (repeat constructor); first | done | fail) ?_ | refine sto (by (repeat constructor); first | done | fail) (by first | omega | (simp only; omega)) ?_ | refine .mk fun Ap capp => ?_ | refine ⟨?_, trivial⟩ | intro _); conv => whnf))
 refine ⟨_, _, mdR_long _ rfl _, rlong_ent, cl_mem (.cons .here (.cons .here .nil)) (fun w' hm' => rM_any rB A1 cap1 ws1 aB x1 _ pA _ pc w' hc hx HL hm'.part (stb hm' (fun w'' hm'' => HS _ (hs w'' hm''.fr))) (stb hm' (fun w'' hm'' => (hw w'' hm''.fr).drop (fun s hs => by simp [hs])))) ?_⟩
 rintro e m' (⟨rfl, hno⟩ | ⟨s2, ws2, x2, A2, cap2, rfl, rfl, hc, hS, hq2, rfl⟩)
 ·refine fin_panic (fun w' hm => ⟨_, .inl ⟨rfl, fun a ha ho more h => ?_⟩, hm⟩)
  have p1 := onlyOk_cons ho
  have p2 := onlyOk_cons p1.2
  simp only [List.map_cons, List.map_nil, List.cons_append, List.nil_append, List.cons.injEq] at h
  exact hno _ _ h.2 a ha p2.1 rfl
 replace hx := hq2.ok
 replace HS := fun w h => hS w (HS w h)
 replace HL := fun s hs => HL s (List.mem_cons_of_mem _ hs)
 conv => whnf
 (repeat ((first | (refine dr_tail 7 tab_ok mixed (by kernel_rfl) rfl rfl ?_) | refine stp (by (repeat constructor); first | done | fail) ?_ | refine stn (by (repeat constructor); first | done | fail) ?_ | refine sto (by (repeat constructor); first | done | fail) (by first | omega | (simp only; omega)) ?_ | refine .mk fun Ap capp => ?_ | refine ⟨?_, trivial⟩ | intro _); conv => whnf))
 refine ⟨naR_whole _ rfl _, ?_⟩
 conv => whnf
 (repeat ((first | refine stp (by (repeat constructor); first | done | fail) ?_ | refine stn (by (repeat constructor); first | done | fail) ?_ | refine sto (by (repeat constructor); first | done | fail) (by first | omega | (simp only; omega)) ?_ | refine .mk fun Ap capp => ?_ | refine ⟨?_, trivial⟩ | intro _); conv => whnf))
 refine ⟨_, _, mdR_whole _ rfl _, rwhole_ent, cl_mem (.cons .here (.cons .here .nil)) (fun w' hm' => rB_any rB A2 cap2 ws2 aB x2 _ pA _ pc w' hc hx HL hm'.part (stb hm' (fun w'' hm'' => HS _ (hs w'' hm''.fr))) (stb hm' (fun w'' hm'' => (hw w'' hm''.fr).drop (fun s hs => by simp [hs])))) ?_⟩
 rintro e m' (⟨rfl, hno⟩ | ⟨s3, ws3, x3, A3, cap3, rfl, rfl, hc, hS, hq3, rfl⟩)
 ·refine fin_panic (fun w' hm => ⟨_, .inl ⟨rfl, fun a ha ho more h => ?_⟩, hm⟩)
  have p1 := onlyOk_cons ho
  have p2 := onlyOk_cons p1.2
  have p3 := onlyOk_cons p2.2
  simp only [List.map_cons, List.map_nil, List.cons_append, List.nil_append, List.cons.injEq] at h
  exact hno _ _ h.2.2 a ha p3.1 rfl
 replace hx := hq3.ok
 replace HS := fun w h => hS w (HS w h)
 replace HL := fun s hs => HL s (List.mem_cons_of_mem _ hs)
 conv => whnf
 (repeat ((first | (refine dr_tail 7 tab_ok mixed (by kernel_rfl) rfl rfl ?_) | refine stp (by (repeat constructor); first | done | fail) ?_ | refine stn (by (repeat constructor); first | done | fail) ?_ | refine sto (by (repeat constructor); first | done | fail) (by first | omega | (simp only; omega)) ?_ | refine .mk fun Ap capp => ?_ | refine ⟨?_, trivial⟩ | intro _); conv => whnf))
 refine ⟨naR_whole _ rfl _, ?_⟩
 conv => whnf
 (repeat ((first | refine stp (by (repeat constructor); first | done | fail) ?_ | refine stn (by (repeat constructor); first | done | fail) ?_ | refine sto (by (repeat constructor); first | done | fail) (by first | omega | (simp only; omega)) ?_ | refine .mk fun Ap capp => ?_ | refine ⟨?_, trivial⟩ | intro _); conv => whnf))
 refine ⟨_, _, mdR_whole _ rfl _, rwhole_ent, cl_mem (.cons .here (.cons .here .nil)) (fun w' hm' => rR_any rB A3 cap3 ws3 aB x3 _ pA _ pc w' hc hx HL hm'.part (stb hm' (fun w'' hm'' => HS _ (hs w'' hm''.fr))) (stb hm' (fun w'' hm'' => (hw w'' hm''.fr).drop (fun s hs => by simp [hs])))) ?_⟩
 rintro e m' (⟨rfl, hno⟩ | ⟨s4, ws4, x4, A4, cap4, rfl, rfl, hc, hS, hq4, rfl⟩)
 ·refine fin_panic (fun w' hm => ⟨_, .inl ⟨rfl, fun a ha ho more h => ?_⟩, hm⟩)
  have p1 := onlyOk_cons ho
  have p2 := onlyOk_cons p1.2
  have p3 := onlyOk_cons p2.2
  have p4 := onlyOk_cons p3.2
  simp only [List.map_cons, List.map_nil, List.cons_append, List.nil_append, List.cons.injEq] at h
  exact hno _ _ h.2.2.2 a ha p4.1 rfl
 replace hx := hq4.ok
 replace HS := fun w h => hS w (HS w h)
 replace HL := fun s hs => HL s (List.mem_cons_of_mem _ hs)
 conv => whnf
 (repeat ((first | (refine dr_tail 7 tab_ok mixed (by kernel_rfl) rfl rfl ?_) | refine stp (by (repeat constructor); first | done | fail) ?_ | refine stn (by (repeat constructor); first | done | fail) ?_ | refine sto (by (repeat constructor); first | done | fail) (by first | omega | (simp only; omega)) ?_ | refine .mk fun Ap capp => ?_ | refine ⟨?_, trivial⟩ | intro _); conv => whnf))
 refine ⟨naR_name _ rfl _, ?_⟩
 conv => whnf
 (repeat ((first | refine stp (by (repeat constructor); first | done | fail) ?_ | refine stn (by (repeat constructor); first | done | fail) ?_ | refine sto (by (repeat constructor); first | done | fail) (by first | omega | (simp only; omega)) ?_ | refine .mk fun Ap capp => ?_ | refine ⟨?_, trivial⟩ | intro _); conv => whnf))
 refine ⟨_, _, mdR_name _ rfl _, rname_ent, cl_mem (.cons .here (.cons .here .nil)) (fun w' hm' => rE_any rB A4 cap4 ws4 aB x4 _ pA _ pc w' hc hx HL hm'.part (stb hm' (fun w'' hm'' => HS _ (hs w'' hm''.fr)))) ?_⟩
 rintro e m' (⟨rfl, hno⟩ | ⟨s5, ws5, x5, A5, cap5, rfl, rfl, hc, hS, hq5, rfl⟩)
 ·refine fin_panic (fun w' hm => ⟨_, .inl ⟨rfl, fun a ha ho more h => ?_⟩, hm⟩)
  have p1 := onlyOk_cons ho
  have p2 := onlyOk_cons p1.2
  have p3 := onlyOk_cons p2.2
  have p4 := onlyOk_cons p3.2
  have p5 := onlyOk_cons p4.2
  simp only [List.map_cons, List.map_nil, List.cons_append, List.nil_append, List.cons.injEq] at h
  exact hno _ _ h.2.2.2.2 a ha p5.1 rfl
 replace hx := hq5.ok
 replace HS := fun w h => hS w (HS w h)
 replace HL := fun s hs => HL s (List.mem_cons_of_mem _ hs)
 conv => whnf
 refine fin0 rfl (fun w' hm => ?_) (by first | exact .inr rfl | exact .inl rfl)
 have snd : ∀ a : PAct, a.Ok → onlyOk [97, 78, 66, 82, 79] a = true → ∀ more, s1 :: s2 :: s3 :: s4 :: s5 :: ws5 = ([97, 78, 66, 82, 79] : List UInt8).map (fun c => letS c a) ++ more → x5 = onlyX [97, 78, 66, 82, 79] a x ∧ ws5 = more := by
  intro a ha ho more h
  have p1 := onlyOk_cons ho
  have p2 := onlyOk_cons p1.2
  have p3 := onlyOk_cons p2.2
  have p4 := onlyOk_cons p3.2
  have p5 := onlyOk_cons p4.2
  simp only [List.map_cons, List.map_nil, List.cons_append, List.nil_append, List.cons.injEq] at h
  have r1 := hq1.sound a ha p1.1 (fun hh => absurd hh (by decide)) h.1
  have r2 := hq2.sound a ha p2.1 (fun hh => absurd hh (by decide)) h.2.1
  have r3 := hq3.sound a ha p3.1 (fun hh => absurd hh (by decide)) h.2.2.1
  have r4 := hq4.sound a ha p4.1 (fun hh => absurd hh (by decide)) h.2.2.2.1
  have r5 := hq5.sound a ha p5.1 (fun hh => absurd hh (by decide)) h.2.2.2.2.1
  refine ⟨?_, h.2.2.2.2.2⟩
  rw [r5, r4, r3, r2, r1]
  rfl
 exact ⟨_, .inr ⟨ws5, x5, A5, cap5, none, 0, rfl, hc, ⟨s1, [s2, s3, s4, s5], rfl⟩, HS, hx, (hq5.kind.trans (hq4.kind.trans (hq3.kind.trans (hq2.kind.trans hq1.kind)))), fun w hn h => (hq5.num w (hn s5 (by simp)) (hq4.num w (hn s4 (by simp)) (hq3.num w (hn s3 (by simp)) (hq2.num w (hn s2 (by simp)) (hq1.num w (hn s1 (by simp)) h))))), (hq5.picks.trans (hq4.picks.trans (hq3.picks.trans (hq2.picks.trans hq1.picks)))), snd, ⟨by rw [hq5.bytes (by decide), hq4.bytes (by decide), hq3.bytes (by decide), hq2.bytes (by decide), hq1.bytes (by decide)]; exact hx0, rfl⟩⟩, hm.sel (by (repeat constructor); first | done | fail)⟩
set_option maxRecDepth 100000 in
set_option maxHeartbeats 1000000 in
theorem rk2_any :
  Ctr Tryz.prog 74 [.pointer (some ⟨aB, 0, none⟩), .iface 83 (.pointer (some ⟨rB, 0, none⟩))] (RM rB A ws.length cap aB x none pA 0 pc) (OvR false [97, 119] rB A ws aB x pA pc) w := by
 refine enter (cx := CXS 20 [] w (Foot (RM rB A ws.length cap aB x none pA 0 pc))) [(0, .pointer (some ⟨aB, 0, none⟩)), (1, .iface 83 (.pointer (some ⟨rB, 0, none⟩)))] tab_ok Tryz.func74 rfl rfl rfl rfl hm ?_
 have HS : ∀ w, StrsIn w A ws → StrsIn w A ws := fun _ h => h
 have HN : ∀ w, (∀ s ∈ ws, NumW w s) → NumAct w x → NumAct w x := fun _ _ h => h
 have HL := hl
 conv => whnf
 (repeat ((first | (refine dr_tail 7 tab_ok mixed (by kernel_rfl) rfl rfl ?_) | refine stp (by (repeat constructor); first | done | fail) ?_ | refine stn (by (repeat constructor); first | done | fail) ?_ | refine sto (by (repeat constructor); first | done | fail) (by first | omega | (simp only; omega)) ?_ | refine .mk fun Ap capp => ?_ | refine ⟨?_, trivial⟩ | intro _); conv => whnf))
 refine ⟨naR_name _ rfl _, ?_⟩
 conv => whnf
 (repeat ((first | refine stp (by (repeat constructor); first | done | fail) ?_ | refine stn (by (repeat constructor); first | done | fail) ?_ | refine sto (by (repeat constructor); first | done | fail) (by first | omega | (simp only; omega)) ?_ | refine .mk fun Ap capp => ?_ | refine ⟨?_, trivial⟩ | intro _); conv => whnf))
 refine ⟨_, _, mdR_name _ rfl _, rname_ent, cl_mem (.cons .here (.cons .here .nil)) (fun w' hm' => rN_any rB A cap ws aB x _ pA _ pc w' hc hx HL hm'.part (stb hm' (fun w'' hm'' => HS _ (hs w'' hm''.fr)))) ?_⟩
 rintro e m' (⟨rfl, hno⟩ | ⟨s1, ws1, x1, A1, cap1, rfl, rfl, hc, hS, hq1, rfl⟩)
 ·refine fin_panic (fun w' hm => ⟨_, .inl ⟨rfl, fun a ha ho more h => ?_⟩, hm⟩)
  have p1 := onlyOk_cons ho
  exact hno _ _ h a ha p1.1 rfl
 replace hx := hq1.ok
 replace HS := fun w h => hS w (HS w h)
 replace HL := fun s hs => HL s (List.mem_cons_of_mem _ hs)
 conv => whnf
 (repeat ((first | (refine dr_tail 7 tab_ok mixed (by kernel_rfl) rfl rfl ?_) | refine stp (by (repeat constructor); first | done | fail) ?_ | refine stn (by (repeat constructor); first | done | fail) ?_ | refine sto (by (repeat constructor); first | done | fail) (by first | omega | (simp only; omega)) ?_ | refine .mk fun Ap capp => ?_ | refine ⟨?_, trivial⟩ | intro _); conv => whnf))
 refine ⟨naR_flag _ rfl _, ?_⟩
 conv => whnf
 (repeat ((first | refine stp (by (repeat constructor); first | done | fail) ?_ | refine stn (by (repeat constructor); first | done | fail) ?_ | refine sto (by (repeat constructor); first | done | fail) (by first | omega | (simp only; omega)) ?_ | refine .mk fun Ap capp => ?_ | refine ⟨?_, trivial⟩ | intro _); conv => whnf))
 refine ⟨_, _, mdR_flag _ rfl _, rflag_ent, cl_mem (.cons .here (.cons .here .nil)) (fun w' hm' => rFw_any rB A1 cap1 ws1 aB x1 _ pA _ pc w' hc hx HL hm'.part (stb hm' (fun w'' hm'' => HS _ (hs w'' hm''.fr)))) ?_⟩
 rintro e m' (⟨rfl, hno⟩ | ⟨s2, ws2, x2, A2, cap2, rfl, rfl, hc, hS, hq2, rfl⟩)
 ·refine fin_panic (fun w' hm => ⟨_, .inl ⟨rfl, fun a ha ho more h => ?_⟩, hm⟩)
  have p1 := onlyOk_cons ho
  have p2 := onlyOk_cons p1.2
  simp only [List.map_cons, List.map_nil, List.cons_append, List.nil_append, List.cons.injEq] at h
  exact hno _ _ h.2 a ha p2.1 rfl
 replace hx := hq2.ok
 replace HS := fun w h => hS w (HS w h)
 replace HL := fun s hs => HL s (List.mem_cons_of_mem _ hs)
 conv => whnf
 refine fin0 rfl (fun w' hm => ?_) (by first | exact .inr rfl | exact .inl rfl)
 have snd : ∀ a : PAct, a.Ok → onlyOk [97, 119] a = true → ∀ more, s1 :: s2 :: ws2 = ([97, 119] : List UInt8).map (fun c => letS c a) ++ more → x2 = onlyX [97, 119] a x ∧ ws2 = more := by
  intro a ha ho more h
  have p1 := onlyOk_cons ho
  have p2 := onlyOk_cons p1.2
  simp only [List.map_cons, List.map_nil, List.cons_append, List.nil_append, List.cons.injEq] at h
  have r1 := hq1.sound a ha p1.1 (fun hh => absurd hh (by decide)) h.1
  have r2 := hq2.sound a ha p2.1 (fun hh => absurd hh (by decide)) h.2.1
  refine ⟨?_, h.2.2⟩
  rw [r2, r1]
  rfl
 exact ⟨_, .inr ⟨ws2, x2, A2, cap2, none, 0, rfl, hc, ⟨s1, [s2], rfl⟩, HS, hx, (hq2.kind.trans hq1.kind), fun w hn h => (hq2.num w (hn s2 (by simp)) (hq1.num w (hn s1 (by simp)) h)), (hq2.picks.trans hq1.picks), snd, ⟨by rw [hq2.bytes (by decide), hq1.bytes (by decide)]; exact hx0, rfl⟩⟩, hm.sel (by (repeat constructor); first | done | fail)⟩
set_option maxRecDepth 100000 in
set_option maxHeartbeats 1000000 in
theorem rk3_any :
  Ctr Tryz.prog 77 [.pointer (some ⟨aB, 0, none⟩), .iface 83 (.pointer (some ⟨rB, 0, none⟩))] (RM rB A ws.length cap aB x none pA 0 pc) (OvR true [97, 65, 120] rB A ws aB x pA pc) w := by
 refine enter (cx := CXS 28 [] w (Foot (RM rB A ws.length cap aB x none pA 0 pc))) [(0, .pointer (some ⟨aB, 0, none⟩)), (1, .iface 83 (.pointer (some ⟨rB, 0, none⟩)))] tab_ok Tryz.func77 rfl rfl rfl rfl hm ?_
 have HS : ∀ w, StrsIn w A ws → StrsIn w A ws := fun _ h => h
 have HN : ∀ w, (∀ s ∈ ws, NumW w s) → NumAct w x → NumAct w x := fun _ _ h => h
 have HL := hl
 conv => whnf
 (repeat ((first | (refine dr_tail 7 tab_ok mixed (by kernel_rfl) rfl rfl ?_) | refine stp (by (repeat constructor); first | done | fail) ?_ | refine stn (by (repeat constructor); first | done | fail) ?_ | refine sto (by (repeat constructor); first | done | fail) (by first | omega | (simp only; omega)) ?_ | refine .mk fun Ap capp => ?_ | refine ⟨?_, trivial⟩ | intro _); conv => whnf))
 refine ⟨naR_name _ rfl _, ?_⟩
 conv => whnf
 (repeat ((first | refine stp (by (repeat constructor); first | done | fail) ?_ | refine stn (by (repeat constructor); first | done | fail) ?_ | refine sto (by (repeat constructor); first | done | fail) (by first | omega | (simp only; omega)) ?_ | refine .mk fun Ap capp => ?_ | refine ⟨?_, trivial⟩ | intro _); conv => whnf))
 refine ⟨_, _, mdR_name _ rfl _, rname_ent, cl_mem (.cons .here (.cons .here .nil)) (fun w' hm' => rN_any rB A cap ws aB x _ pA _ pc w' hc hx HL hm'.part (stb hm' (fun w'' hm'' => HS _ (hs w'' hm''.fr)))) ?_⟩
 rintro e m' (⟨rfl, hno⟩ | ⟨s1, ws1, x1, A1, cap1, rfl, rfl, hc, hS, hq1, rfl⟩)
 ·refine fin_panic (fun w' hm => ⟨_, .inl ⟨rfl, fun a ha ho more h => ?_⟩, hm⟩)
  have p1 := onlyOk_cons ho
  exact hno _ _ h a ha p1.1 rfl
 replace hx := hq1.ok
 replace HS := fun w h => hS w (HS w h)
 replace HL := fun s hs => HL s (List.mem_cons_of_mem _ hs)
 conv => whnf
 (repeat ((first | (refine dr_tail 7 tab_ok mixed (by kernel_rfl) rfl rfl ?_) | refine stp (by (repeat constructor); first | done | fail) ?_ | refine stn (by (repeat constructor); first | done | fail) ?_ | refine sto (by (repeat constructor); first | done | fail) (by first | omega | (simp only; omega)) ?_ | refine .mk fun Ap capp => ?_ | refine ⟨?_, trivial⟩ | intro _); conv => whnf))
 refine ⟨naR_long _ rfl _, ?_⟩
 conv => whnf
 (repeat ((first | refine stp (by (repeat constructor); first | done | fail) ?_ | refine stn (by (repeat constructor); first | done | fail) ?_ | refine sto (by (repeat constructor); first | done | fail) (by first | omega | (simp only; omega)) ?_ | refine .mk fun Ap capp => ?_ | refine ⟨?_, trivial⟩ | intro _); conv => whnf))
 refine ⟨_, _, mdR_long _ rfl _, rlong_ent, cl_mem (.cons .here (.cons .here .nil)) (fun w' hm' => rA_any rB A1 cap1 ws1 aB x1 _ pA _ pc w' hc hx HL hm'.part (stb hm' (fun w'' hm'' => HS _ (hs w'' hm''.fr))) (stb hm' (fun w'' hm'' => (hw w'' hm''.fr).drop (fun s hs => by simp [hs])))) ?_⟩
 rintro e m' (⟨rfl, hno⟩ | ⟨s2, ws2, x2, A2, cap2, rfl, rfl, hc, hS, hq2, rfl⟩)
 ·refine fin_panic (fun w' hm => ⟨_, .inl ⟨rfl, fun a ha ho more h => ?_⟩, hm⟩)
  have p1 := onlyOk_cons ho
  have p2 := onlyOk_cons p1.2
  simp only [List.map_cons, List.map_nil, List.cons_append, List.nil_append, List.cons.injEq] at h
  exact hno _ _ h.2 a ha p2.1 rfl
 replace hx := hq2.ok
 replace HS := fun w h => hS w (HS w h)
 replace HL := fun s hs => HL s (List.mem_cons_of_mem _ hs)
 conv => whnf
 (repeat ((first | (refine dr_tail 7 tab_ok mixed (by kernel_rfl) rfl rfl ?_) | refine stp (by (repeat constructor); first | done | fail) ?_ | refine stn (by (repeat constructor); first | done | fail) ?_ | refine sto (by (repeat constructor); first | done | fail) (by first | omega | (simp only; omega)) ?_ | refine .mk fun Ap capp => ?_ | refine ⟨?_, trivial⟩ | intro _); conv => whnf))
 refine ⟨naR_data _ rfl _, ?_⟩
 conv => whnf
 (repeat ((first | refine stp (by (repeat constructor); first | done | fail) ?_ | refine stn (by (repeat constructor); first | done | fail) ?_ | refine sto (by (repeat constructor); first | done | fail) (by first | omega | (simp only; omega)) ?_ | refine .mk fun Ap capp => ?_ | refine ⟨?_, trivial⟩ | intro _); conv => whnf))
 refine ⟨_, _, mdR_data _ rfl _, rdata_ent, cl_mem (.cons .here (.cons .here .nil)) (fun w' hm' => rX_any rB A2 cap2 ws2 aB x2 pA pc w' hc hx HL (by rw [hq2.bytes (by decide), hq1.bytes (by decide)]; exact hx0) hm'.part (stb hm' (fun w'' hm'' => HS _ (hs w'' hm''.fr)))) ?_⟩
 rintro e m' (⟨rfl, hno⟩ | ⟨s3, ws3, x3, A3, cap3, bA3, bc3, rfl, rfl, hc, hS, hq3, rfl⟩)
 ·refine fin_panic (fun w' hm => ⟨_, .inl ⟨rfl, fun a ha ho more h => ?_⟩, hm⟩)
  have p1 := onlyOk_cons ho
  have p2 := onlyOk_cons p1.2
  have p3 := onlyOk_cons p2.2
  simp only [List.map_cons, List.map_nil, List.cons_append, List.nil_append, List.cons.injEq] at h
  exact hno _ _ h.2.2 a ha p3.1 rfl
 replace hx := hq3.ok
 replace HS := fun w h => hS w (HS w h)
 replace HL := fun s hs => HL s (List.mem_cons_of_mem _ hs)
 conv => whnf
 refine fin0 rfl (fun w' hm => ?_) (by first | exact .inr rfl | exact .inl rfl)
 have snd : ∀ a : PAct, a.Ok → onlyOk [97, 65, 120] a = true → ∀ more, s1 :: s2 :: s3 :: ws3 = ([97, 65, 120] : List UInt8).map (fun c => letS c a) ++ more → x3 = onlyX [97, 65, 120] a x ∧ ws3 = more := by
  intro a ha ho more h
  have p1 := onlyOk_cons ho
  have p2 := onlyOk_cons p1.2
  have p3 := onlyOk_cons p2.2
  simp only [List.map_cons, List.map_nil, List.cons_append, List.nil_append, List.cons.injEq] at h
  have r1 := hq1.sound a ha p1.1 (fun hh => absurd hh (by decide)) h.1
  have r2 := hq2.sound a ha p2.1 (fun hh => absurd hh (by decide)) h.2.1
  have r3 := hq3.sound a ha p3.1 (fun _ => by rw [hq2.bytes (by decide), hq1.bytes (by decide)]; exact hx0) h.2.2.1
  refine ⟨?_, h.2.2.2⟩
  rw [r3, r2, r1]
  rfl
 exact ⟨_, .inr ⟨ws3, x3, A3, cap3, bA3, bc3, rfl, hc, ⟨s1, [s2, s3], rfl⟩, HS, hx, (hq3.kind.trans (hq2.kind.trans hq1.kind)), fun w hn h => (hq3.num w (hn s3 (by simp)) (hq2.num w (hn s2 (by simp)) (hq1.num w (hn s1 (by simp)) h))), (hq3.picks.trans (hq2.picks.trans hq1.picks)), snd, rfl⟩, hm.sel (by (repeat constructor); first | done | fail)⟩
set_option maxRecDepth 100000 in
set_option maxHeartbeats 1000000 in
theorem rk4_any :
  Ctr Tryz.prog 78 [.pointer (some ⟨aB, 0, none⟩), .iface 83 (.pointer (some ⟨rB, 0, none⟩))] (RM rB A ws.length cap aB x none pA 0 pc) (OvR true [97, 65, 120, 66] rB A ws aB x pA pc) w := by
 refine enter (cx := CXS 36 [] w (Foot (RM rB A ws.length cap aB x none pA 0 pc))) [(0, .pointer (some ⟨aB, 0, none⟩)), (1, .iface 83 (.pointer (some ⟨rB, 0, none⟩)))] tab_ok Tryz.func78 rfl rfl rfl rfl hm ?_
 have HS : ∀ w, StrsIn w A ws → StrsIn w A ws := fun _ h => h
 have HN : ∀ w, (∀ s ∈ ws, NumW w s) → NumAct w x → NumAct w x := fun _ _ h => h
 have HL := hl
 conv => whnf
 (repeat ((first | (refine dr_tail 7 tab_ok mixed (by kernel_rfl) rfl rfl ?_) | refine stp (by (repeat constructor); first | done | fail) ?_ | refine stn (by (repeat constructor); first | done | fail) ?_ | refine sto (by (repeat constructor); first | done | fail) (by first | omega | (simp only; omega)) ?_ | refine .mk fun Ap capp => ?_ | refine ⟨?_, trivial⟩ | intro _); conv => whnf))
 refine ⟨naR_name _ rfl _, ?_⟩
 conv => whnf
 (repeat ((first | refine stp (by (repeat constructor); first | done | fail) ?_ | refine stn (by (repeat constructor); first | done | fail) ?_ | refine sto (by (repeat constructor); first | done | fail) (by first | omega | (simp only; omega)) ?_ | refine .mk fun Ap capp => ?_ | refine ⟨?_, trivial⟩ | intro _); conv => whnf))
 refine ⟨_, _, mdR_name _ rfl _, rname_ent, cl_mem (.cons .here (.cons .here .nil)) (fun w' hm' => rN_any rB A cap ws aB x _ pA _ pc w' hc hx HL hm'.part (stb hm' (fun w'' hm'' => HS _ (hs w'' hm''.fr)))) ?_⟩
 rintro e m' (⟨rfl, hno⟩ | ⟨s1, ws1, x1, A1, cap1, rfl, rfl, hc, hS, hq1, rfl⟩)
 ·refine fin_panic (fun w' hm => ⟨_, .inl ⟨rfl, fun a ha ho more h => ?_⟩, hm⟩)
  have p1 := onlyOk_cons ho
  exact hno _ _ h a ha p1.1 rfl
 replace hx := hq1.ok
 replace HS := fun w h => hS w (HS w h)
 replace HL := fun s hs => HL s (List.mem_cons_of_mem _ hs)
 conv => whnf
 (repeat ((first | (refine dr_tail 7 tab_ok mixed (by kernel_rfl) rfl rfl ?_) | refine stp (by (repeat constructor); first | done | fail) ?_ | refine stn (by (repeat constructor); first | done | fail) ?_ | refine sto (by (repeat constructor); first | done | fail) (by first | omega | (simp only; omega)) ?_ | refine .mk fun Ap capp => ?_ | refine ⟨?_, trivial⟩ | intro _); conv => whnf))
 refine ⟨naR_long _ rfl _, ?_⟩
 conv => whnf
 (repeat ((first | refine stp (by (repeat constructor); first | done | fail) ?_ | refine stn (by (repeat constructor); first | done | fail) ?_ | refine sto (by (repeat constructor); first | done | fail) (by first | omega | (simp only; omega)) ?_ | refine .mk fun Ap capp => ?_ | refine ⟨?_, trivial⟩ | intro _); conv => whnf))
 refine ⟨_, _, mdR_long _ rfl _, rlong_ent, cl_mem (.cons .here (.cons .here .nil)) (fun w' hm' => rA_any rB A1 cap1 ws1 aB x1 _ pA _ pc w' hc hx HL hm'.part (stb hm' (fun w'' hm'' => HS _ (hs w'' hm''.fr))) (stb hm' (fun w'' hm'' => (hw w'' hm''.fr).drop (fun s hs => by simp [hs])))) ?_⟩
 rintro e m' (⟨rfl, hno⟩ | ⟨s2, ws2, x2, A2, cap2, rfl, rfl, hc, hS, hq2, rfl⟩)
 ·refine fin_panic (fun w' hm => ⟨_, .inl ⟨rfl, fun a ha ho more h => ?_⟩, hm⟩)
  have p1 := onlyOk_cons ho
  have p2 := onlyOk_cons p1.2
  simp only [List.map_cons, List.map_nil, List.cons_append, List.nil_append, List.cons.injEq] at h
  exact hno _ _ h.2 a ha p2.1 rfl
 replace hx := hq2.ok
 replace HS := fun w h => hS w (HS w h)
 replace HL := fun s hs => HL s (List.mem_cons_of_mem _ hs)
 conv => whnf
 (repeat ((first | (refine dr_tail 7 tab_ok mixed (by kernel_rfl) rfl rfl ?_) | refine stp (by (repeat constructor); first | done | fail) ?_ | refine stn (by (repeat constructor); first | done | fail) ?_ | refine sto (by (repeat constructor); first | done | fail) (by first | omega | (simp only; omega)) ?_ | refine .mk fun Ap capp => ?_ | refine ⟨?_, trivial⟩ | intro _); conv => whnf))
 refine ⟨naR_data _ rfl _, ?_⟩
 conv => whnf
 (repeat ((first | refine stp (by (repeat constructor); first | done | fail) ?_ | refine stn (by (repeat constructor); first | done | fail) ?_ | refine sto (by (repeat constructor); first | done | fail) (by first | omega | (simp only; omega)) ?_ | refine .mk fun Ap capp => ?_ | refine ⟨?_, trivial⟩ | intro _); conv => whnf))
 refine ⟨_, _, mdR_data _ rfl _, rdata_ent, cl_mem (.cons .here (.cons .here .nil)) (fun w' hm' => rX_any rB A2 cap2 ws2 aB x2 pA pc w' hc hx HL (by rw [hq2.bytes (by decide), hq1.bytes (by decide)]; exact hx0) hm'.part (stb hm' (fun w'' hm'' => HS _ (hs w'' hm''.fr)))) ?_⟩
 rintro e m' (⟨rfl, hno⟩ | ⟨s3, ws3, x3, A3, cap3, bA3, bc3, rfl, rfl, hc, hS, hq3, rfl⟩)
 ·refine fin_panic (fun w' hm => ⟨_, .inl ⟨rfl, fun a ha ho more h => ?_⟩, hm⟩)
  have p1 := onlyOk_cons ho
  have p2 := onlyOk_cons p1.2
  have p3 := onlyOk_cons p2.2
  simp only [List.map_cons, List.map_nil, List.cons_append, List.nil_append, List.cons.injEq] at h
  exact hno _ _ h.2.2 a ha p3.1 rfl
 replace hx := hq3.ok
 replace HS := fun w h => hS w (HS w h)
 replace HL := fun s hs => HL s (List.mem_cons_of_mem _ hs)
 conv => whnf
 (repeat ((first | (refine dr_tail 7 tab_ok mixed (by kernel_rfl) rfl rfl ?_) | refine stp (by (repeat constructor); first | done | fail) ?_ | refine stn (by (repeat constructor); first | done | fail) ?_ | refine sto (by (repeat constructor); first | done | fail) (by first | omega | (simp only; omega)) ?_ | refine .mk fun Ap capp => ?_ | refine ⟨?_, trivial⟩ | intro _); conv => whnf))
 refine ⟨naR_whole _ rfl _, ?_⟩
 conv => whnf
 (repeat ((first | refine stp (by (repeat constructor); first | done | fail) ?_ | refine stn (by (repeat constructor); first | done | fail) ?_ | refine sto (by (repeat constructor); first | done | fail) (by first | omega | (simp only; omega)) ?_ | refine .mk fun Ap capp => ?_ | refine ⟨?_, trivial⟩ | intro _); conv => whnf))
 refine ⟨_, _, mdR_whole _ rfl _, rwhole_ent, cl_mem (.cons .here (.cons .here .nil)) (fun w' hm' => rB_any rB A3 cap3 ws3 aB x3 _ pA _ pc w' hc hx HL hm'.part (stb hm' (fun w'' hm'' => HS _ (hs w'' hm''.fr))) (stb hm' (fun w'' hm'' => (hw w'' hm''.fr).drop (fun s hs => by simp [hs])))) ?_⟩
 rintro e m' (⟨rfl, hno⟩ | ⟨s4, ws4, x4, A4, cap4, rfl, rfl, hc, hS, hq4, rfl⟩)
 ·refine fin_panic (fun w' hm => ⟨_, .inl ⟨rfl, fun a ha ho more h => ?_⟩, hm⟩)
  have p1 := onlyOk_cons ho
  have p2 := onlyOk_cons p1.2
  have p3 := onlyOk_cons p2.2
  have p4 := onlyOk_cons p3.2
  simp only [List.map_cons, List.map_nil, List.cons_append, List.nil_append, List.cons.injEq] at h
  exact hno _ _ h.2.2.2 a ha p4.1 rfl
 replace hx := hq4.ok
 replace HS := fun w h => hS w (HS w h)
 replace HL := fun s hs => HL s (List.mem_cons_of_mem _ hs)
 conv => whnf
 refine fin0 rfl (fun w' hm => ?_) (by first | exact .inr rfl | exact .inl rfl)
 have snd : ∀ a : PAct, a.Ok → onlyOk [97, 65, 120, 66] a = true → ∀ more, s1 :: s2 :: s3 :: s4 :: ws4 = ([97, 65, 120, 66] : List UInt8).map (fun c => letS c a) ++ more → x4 = onlyX [97, 65, 120, 66] a x ∧ ws4 = more := by
  intro a ha ho more h
  have p1 := onlyOk_cons ho
  have p2 := onlyOk_cons p1.2
  have p3 := onlyOk_cons p2.2
  have p4 := onlyOk_cons p3.2
  simp only [List.map_cons, List.map_nil, List.cons_append, List.nil_append, List.cons.injEq] at h
  have r1 := hq1.sound a ha p1.1 (fun hh => absurd hh (by decide)) h.1
  have r2 := hq2.sound a ha p2.1 (fun hh => absurd hh (by decide)) h.2.1
  have r3 := hq3.sound a ha p3.1 (fun _ => by rw [hq2.bytes (by decide), hq1.bytes (by decide)]; exact hx0) h.2.2.1
  have r4 := hq4.sound a ha p4.1 (fun hh => absurd hh (by decide)) h.2.2.2.1
  refine ⟨?_, h.2.2.2.2⟩
  rw [r4, r3, r2, r1]
  rfl
 have eB : x3.bytes = x4.bytes := by rw [hq4.bytes (by decide)]
 rw [eB] at hm
 exact ⟨_, .inr ⟨ws4, x4, A4, cap4, bA3, bc3, rfl, hc, ⟨s1, [s2, s3, s4], rfl⟩, HS, hx, (hq4.kind.trans (hq3.kind.trans (hq2.kind.trans hq1.kind))), fun w hn h => (hq4.num w (hn s4 (by simp)) (hq3.num w (hn s3 (by simp)) (hq2.num w (hn s2 (by simp)) (hq1.num w (hn s1 (by simp)) h)))), (hq4.picks.trans (hq3.picks.trans (hq2.picks.trans hq1.picks))), snd, rfl⟩, hm.sel (by (repeat constructor); first | done | fail)⟩
set_option maxRecDepth 100000 in
set_option maxHeartbeats 1000000 in
theorem rk5_any :
  Ctr Tryz.prog 80 [.pointer (some ⟨aB, 0, none⟩), .iface 83 (.pointer (some ⟨rB, 0, none⟩))] (RM rB A ws.length cap aB x none pA 0 pc) (OvR false [97, 111, 66, 98] rB A ws aB x pA pc) w := by
 refine enter (cx := CXS 23 [] w (Foot (RM rB A ws.length cap aB x none pA 0 pc))) [(0, .pointer (some ⟨aB, 0, none⟩)), (1, .iface 83 (.pointer (some ⟨rB, 0, none⟩)))] tab_ok Tryz.func80 rfl rfl rfl rfl hm ?_
 have HS : ∀ w, StrsIn w A ws → StrsIn w A ws := fun _ h => h
 have HN : ∀ w, (∀ s ∈ ws, NumW w s) → NumAct w x → NumAct w x := fun _ _ h => h
 have HL := hl
 conv => whnf
 (repeat ((first | refine stp (by (repeat constructor); first | done | fail) ?_ | refine stn (by (repeat constructor); first | done | fail) ?_ | refine sto (by (repeat constructor); first | done | fail) (by first | omega | (simp only; omega)) ?_ | refine .mk fun Ap capp => ?_ | refine ⟨?_, trivial⟩ | intro _); conv => whnf))
 refine ⟨rtwo_enters, cl_mem (.cons .here (.cons .here .nil)) (fun w' hm' => rtwo_any rB A cap ws aB x pA pc w' hc hx hx0 hl hm'.part (stb hm' (fun w'' hm'' => hs w'' hm''.fr)) (stb hm' (fun w'' hm'' => hw w'' hm''.fr))) ?_⟩
 rintro e m' (⟨rfl, hno⟩ | ⟨ws0, x0, A0, cap0, bA0, bc0, rfl, hc, ⟨p00, pre0, hpre0⟩, hS, hx, hk0, hN0, hp0, hq0, hb0, rfl⟩)
 ·refine fin_panic (fun w' hm => ⟨_, .inl ⟨rfl, fun a ha ho more h => ?_⟩, hm⟩)
  refine hno a ha ?_ ([66, 98].map (fun c => letS c a) ++ more) (by rw [h]; rfl)
  have h1 := onlyOk_cons ho
  have h2 := onlyOk_cons h1.2
  simp only [onlyOk, List.all_cons, List.all_nil, h1.1, h2.1, Bool.and_true]
 replace HS := fun w h => hS w (HS w h)
 replace HL : ∀ s ∈ ws0, s.length ≤ 1099511627776 := fun s hs => hl s (by rw [hpre0]; exact List.mem_append_right _ hs)
 have hmem1 : ∀ s ∈ ws0, s ∈ ws.tail := fun s hs => by rw [hpre0]; exact List.mem_append_right _ hs
 have hmem0 : ∀ s ∈ ws0, s ∈ ws := fun s hs => by rw [hpre0]; exact List.mem_append_right _ hs
 conv => whnf
 (repeat ((first | (refine dr_tail 7 tab_ok mixed (by kernel_rfl) rfl rfl ?_) | refine stp (by (repeat constructor); first | done | fail) ?_ | refine stn (by (repeat constructor); first | done | fail) ?_ | refine sto (by (repeat constructor); first | done | fail) (by first | omega | (simp only; omega)) ?_ | refine .mk fun Ap capp => ?_ | refine ⟨?_, trivial⟩ | intro _); conv => whnf))
 refine ⟨naR_whole _ rfl _, ?_⟩
 conv => whnf
 (repeat ((first | refine stp (by (repeat constructor); first | done | fail) ?_ | refine stn (by (repeat constructor); first | done | fail) ?_ | refine sto (by (repeat constructor); first | done | fail) (by first | omega | (simp only; omega)) ?_ | refine .mk fun Ap capp => ?_ | refine ⟨?_, trivial⟩ | intro _); conv => whnf))
 refine ⟨_, _, mdR_whole _ rfl _, rwhole_ent, cl_mem (.cons .here (.cons .here .nil)) (fun w' hm' => rB_any rB A0 cap0 ws0 aB x0 _ pA _ pc w' hc hx HL hm'.part (stb hm' (fun w'' hm'' => HS _ (hs w'' hm''.fr))) (stb hm' (fun w'' hm'' => (hw w'' hm''.fr).drop (fun s hs => hmem1 s (by simp [hs]))))) ?_⟩
 rintro e m' (⟨rfl, hno⟩ | ⟨s1, ws1, x1, A1, cap1, rfl, rfl, hc, hS, hq1, rfl⟩)
 ·refine fin_panic (fun w' hm => ⟨_, .inl ⟨rfl, fun a ha ho more h => ?_⟩, hm⟩)
  have o1 := onlyOk_cons ho
  have o2 := onlyOk_cons o1.2
  have p1 := onlyOk_cons o2.2
  have h := (hq0 a ha (by simp only [onlyOk, List.all_cons, List.all_nil, o1.1, o2.1, Bool.and_true]) ([66, 98].map (fun c => letS c a) ++ more) (by rw [h]; rfl)).2
  simp only [List.map_cons, List.map_nil, List.cons_append, List.nil_append, List.cons.injEq] at h
  exact hno _ _ h a ha p1.1 rfl
 replace hx := hq1.ok
 replace HS := fun w h => hS w (HS w h)
 replace HL := fun s hs => HL s (List.mem_cons_of_mem _ hs)
 conv => whnf
 (repeat ((first | (refine dr_tail 7 tab_ok mixed (by kernel_rfl) rfl rfl ?_) | refine stp (by (repeat constructor); first | done | fail) ?_ | refine stn (by (repeat constructor); first | done | fail) ?_ | refine sto (by (repeat constructor); first | done | fail) (by first | omega | (simp only; omega)) ?_ | refine .mk fun Ap capp => ?_ | refine ⟨?_, trivial⟩ | intro _); conv => whnf))
 refine ⟨naR_flag _ rfl _, ?_⟩
 conv => whnf
 (repeat ((first | refine stp (by (repeat constructor); first | done | fail) ?_ | refine stn (by (repeat constructor); first | done | fail) ?_ | refine sto (by (repeat constructor); first | done | fail) (by first | omega | (simp only; omega)) ?_ | refine .mk fun Ap capp => ?_ | refine ⟨?_, trivial⟩ | intro _); conv => whnf))
 refine ⟨_, _, mdR_flag _ rfl _, rflag_ent, cl_mem (.cons .here (.cons .here .nil)) (fun w' hm' => rFb_any rB A1 cap1 ws1 aB x1 _ pA _ pc w' hc hx HL hm'.part (stb hm' (fun w'' hm'' => HS _ (hs w'' hm''.fr)))) ?_⟩
 rintro e m' (⟨rfl, hno⟩ | ⟨s2, ws2, x2, A2, cap2, rfl, rfl, hc, hS, hq2, rfl⟩)
 ·refine fin_panic (fun w' hm => ⟨_, .inl ⟨rfl, fun a ha ho more h => ?_⟩, hm⟩)
  have o1 := onlyOk_cons ho
  have o2 := onlyOk_cons o1.2
  have p1 := onlyOk_cons o2.2
  have p2 := onlyOk_cons p1.2
  have h := (hq0 a ha (by simp only [onlyOk, List.all_cons, List.all_nil, o1.1, o2.1, Bool.and_true]) ([66, 98].map (fun c => letS c a) ++ more) (by rw [h]; rfl)).2
  simp only [List.map_cons, List.map_nil, List.cons_append, List.nil_append, List.cons.injEq] at h
  exact hno _ _ h.2 a ha p2.1 rfl
 replace hx := hq2.ok
 replace HS := fun w h => hS w (HS w h)
 replace HL := fun s hs => HL s (List.mem_cons_of_mem _ hs)
 conv => whnf
 refine fin0 rfl (fun w' hm => ?_) (by first | exact .inr rfl | exact .inl rfl)
 have snd : ∀ a : PAct, a.Ok → onlyOk [97, 111, 66, 98] a = true → ∀ more, ws = ([97, 111, 66, 98] : List UInt8).map (fun c => letS c a) ++ more → x2 = onlyX [97, 111, 66, 98] a x ∧ ws2 = more := by
  intro a ha ho more h
  have o1 := onlyOk_cons ho
  have o2 := onlyOk_cons o1.2
  have p1 := onlyOk_cons o2.2
  have p2 := onlyOk_cons p1.2
  have h0 := hq0 a ha (by simp only [onlyOk, List.all_cons, List.all_nil, o1.1, o2.1, Bool.and_true]) ([66, 98].map (fun c => letS c a) ++ more) (by rw [h]; rfl)
  have h := h0.2
  simp only [List.map_cons, List.map_nil, List.cons_append, List.nil_append, List.cons.injEq] at h
  have r1 := hq1.sound a ha p1.1 (fun hh => absurd hh (by decide)) h.1
  have r2 := hq2.sound a ha p2.1 (fun hh => absurd hh (by decide)) h.2.1
  refine ⟨?_, h.2.2⟩
  rw [r2, r1, h0.1]
  rfl
 exact ⟨_, .inr ⟨ws2, x2, A2, cap2, none, 0, rfl, hc, ⟨p00, pre0 ++ [s1, s2], by rw [hpre0]; simp⟩, HS, hx, (hq2.kind.trans (hq1.kind.trans hk0)), fun w hn h => (hq2.num w (hn s2 (hmem0 _ (by simp))) (hq1.num w (hn s1 (hmem0 _ (by simp))) (hN0 w hn h))), (hq2.picks.trans (hq1.picks.trans hp0)), snd, ⟨by rw [hq2.bytes (by decide), hq1.bytes (by decide)]; exact hb0, rfl⟩⟩, hm.sel (by (repeat constructor); first | done | fail)⟩
set_option maxRecDepth 100000 in
set_option maxHeartbeats 1000000 in
theorem rk6_any :
  Ctr Tryz.prog 81 [.pointer (some ⟨aB, 0, none⟩), .iface 83 (.pointer (some ⟨rB, 0, none⟩))] (RM rB A ws.length cap aB x none pA 0 pc) (OvR false [97, 111, 98] rB A ws aB x pA pc) w := by
 refine enter (cx := CXS 15 [] w (Foot (RM rB A ws.length cap aB x none pA 0 pc))) [(0, .pointer (some ⟨aB, 0, none⟩)), (1, .iface 83 (.pointer (some ⟨rB, 0, none⟩)))] tab_ok Tryz.func81 rfl rfl rfl rfl hm ?_
 have HS : ∀ w, StrsIn w A ws → StrsIn w A ws := fun _ h => h
 have HN : ∀ w, (∀ s ∈ ws, NumW w s) → NumAct w x → NumAct w x := fun _ _ h => h
 have HL := hl
 conv => whnf
 (repeat ((first | refine stp (by (repeat constructor); first | done | fail) ?_ | refine stn (by (repeat constructor); first | done | fail) ?_ | refine sto (by (repeat constructor); first | done | fail) (by first | omega | (simp only; omega)) ?_ | refine .mk fun Ap capp => ?_ | refine ⟨?_, trivial⟩ | intro _); conv => whnf))
 refine ⟨rtwo_enters, cl_mem (.cons .here (.cons .here .nil)) (fun w' hm' => rtwo_any rB A cap ws aB x pA pc w' hc hx hx0 hl hm'.part (stb hm' (fun w'' hm'' => hs w'' hm''.fr)) (stb hm' (fun w'' hm'' => hw w'' hm''.fr))) ?_⟩
 rintro e m' (⟨rfl, hno⟩ | ⟨ws0, x0, A0, cap0, bA0, bc0, rfl, hc, ⟨p00, pre0, hpre0⟩, hS, hx, hk0, hN0, hp0, hq0, hb0, rfl⟩)
 ·refine fin_panic (fun w' hm => ⟨_, .inl ⟨rfl, fun a ha ho more h => ?_⟩, hm⟩)
  refine hno a ha ?_ ([98].map (fun c => letS c a) ++ more) (by rw [h]; rfl)
  have h1 := onlyOk_cons ho
  have h2 := onlyOk_cons h1.2
  simp only [onlyOk, List.all_cons, List.all_nil, h1.1, h2.1, Bool.and_true]
 replace HS := fun w h => hS w (HS w h)
 replace HL : ∀ s ∈ ws0, s.length ≤ 1099511627776 := fun s hs => hl s (by rw [hpre0]; exact List.mem_append_right _ hs)
 have hmem1 : ∀ s ∈ ws0, s ∈ ws.tail := fun s hs => by rw [hpre0]; exact List.mem_append_right _ hs
 have hmem0 : ∀ s ∈ ws0, s ∈ ws := fun s hs => by rw [hpre0]; exact List.mem_append_right _ hs
 conv => whnf
 (repeat ((first | (refine dr_tail 7 tab_ok mixed (by kernel_rfl) rfl rfl ?_) | refine stp (by (repeat constructor); first | done | fail) ?_ | refine stn (by (repeat constructor); first | done | fail) ?_ | refine sto (by (repeat constructor); first | done | fail) (by first | omega | (simp only; omega)) ?_ | refine .mk fun Ap capp => ?_ | refine ⟨?_, trivial⟩ | intro _); conv => whnf))
 refine ⟨naR_flag _ rfl _, ?_⟩
 conv => whnf
 (repeat ((first | refine stp (by (repeat constructor); first | done | fail) ?_ | refine stn (by (repeat constructor); first | done | fail) ?_ | refine sto (by (repeat constructor); first | done | fail) (by first | omega | (simp only; omega)) ?_ | refine .mk fun Ap capp => ?_ | refine ⟨?_, trivial⟩ | intro _); conv => whnf))
 refine ⟨_, _, mdR_flag _ rfl _, rflag_ent, cl_mem (.cons .here (.cons .here .nil)) (fun w' hm' => rFb_any rB A0 cap0 ws0 aB x0 _ pA _ pc w' hc hx HL hm'.part (stb hm' (fun w'' hm'' => HS _ (hs w'' hm''.fr)))) ?_⟩
 rintro e m' (⟨rfl, hno⟩ | ⟨s1, ws1, x1, A1, cap1, rfl, rfl, hc, hS, hq1, rfl⟩)
 ·refine fin_panic (fun w' hm => ⟨_, .inl ⟨rfl, fun a ha ho more h => ?_⟩, hm⟩)
  have o1 := onlyOk_cons ho
  have o2 := onlyOk_cons o1.2
  have p1 := onlyOk_cons o2.2
  have h := (hq0 a ha (by simp only [onlyOk, List.all_cons, List.all_nil, o1.1, o2.1, Bool.and_true]) ([98].map (fun c => letS c a) ++ more) (by rw [h]; rfl)).2
  simp only [List.map_cons, List.map_nil, List.cons_append, List.nil_append, List.cons.injEq] at h
  exact hno _ _ h a ha p1.1 rfl
 replace hx := hq1.ok
 replace HS := fun w h => hS w (HS w h)
 replace HL := fun s hs => HL s (List.mem_cons_of_mem _ hs)
 conv => whnf
 refine fin0 rfl (fun w' hm => ?_) (by first | exact .inr rfl | exact .inl rfl)
 have snd : ∀ a : PAct, a.Ok → onlyOk [97, 111, 98] a = true → ∀ more, ws = ([97, 111, 98] : List UInt8).map (fun c => letS c a) ++ more → x1 = onlyX [97, 111, 98] a x ∧ ws1 = more := by
  intro a ha ho more h
  have o1 := onlyOk_cons ho
  have o2 := onlyOk_cons o1.2
  have p1 := onlyOk_cons o2.2
  have h0 := hq0 a ha (by simp only [onlyOk, List.all_cons, List.all_nil, o1.1, o2.1, Bool.and_true]) ([98].map (fun c => letS c a) ++ more) (by rw [h]; rfl)
  have h := h0.2
  simp only [List.map_cons, List.map_nil, List.cons_append, List.nil_append, List.cons.injEq] at h
  have r1 := hq1.sound a ha p1.1 (fun hh => absurd hh (by decide)) h.1
  refine ⟨?_, h.2⟩
  rw [r1, h0.1]
  rfl
 exact ⟨_, .inr ⟨ws1, x1, A1, cap1, none, 0, rfl, hc, ⟨p00, pre0 ++ [s1], by rw [hpre0]; simp⟩, HS, hx, (hq1.kind.trans hk0), fun w hn h => (hq1.num w (hn s1 (hmem0 _ (by simp))) (hN0 w hn h)), (hq1.picks.trans hp0), snd, ⟨by rw [hq1.bytes (by decide)]; exact hb0, rfl⟩⟩, hm.sel (by (repeat constructor); first | done | fail)⟩
set_option maxRecDepth 100000 in
set_option maxHeartbeats 1000000 in
theorem rk7_any :
  Ctr Tryz.prog 82 [.pointer (some ⟨aB, 0, none⟩), .iface 83 (.pointer (some ⟨rB, 0, none⟩))] (RM rB A ws.length cap aB x none pA 0 pc) (OvR false [97, 111, 116] rB A ws aB x pA pc) w := by
 refine enter (cx := CXS 15 [] w (Foot (RM rB A ws.length cap aB x none pA 0 pc))) [(0, .pointer (some ⟨aB, 0, none⟩)), (1, .iface 83 (.pointer (some ⟨rB, 0, none⟩)))] tab_ok Tryz.func82 rfl rfl rfl rfl hm ?_
 have HS : ∀ w, StrsIn w A ws → StrsIn w A ws := fun _ h => h
 have HN : ∀ w, (∀ s ∈ ws, NumW w s) → NumAct w x → NumAct w x := fun _ _ h => h
 have HL := hl
 conv => whnf
 (repeat ((first | refine stp (by (repeat constructor); first | done | fail) ?_ | refine stn (by (repeat constructor); first | done | fail) ?_ | refine sto (by (repeat constructor); first | done | fail) (by first | omega | (simp only; omega)) ?_ | refine .mk fun Ap capp => ?_ | refine ⟨?_, trivial⟩ | intro _); conv => whnf))
 refine ⟨rtwo_enters, cl_mem (.cons .here (.cons .here .nil)) (fun w' hm' => rtwo_any rB A cap ws aB x pA pc w' hc hx hx0 hl hm'.part (stb hm' (fun w'' hm'' => hs w'' hm''.fr)) (stb hm' (fun w'' hm'' => hw w'' hm''.fr))) ?_⟩
 rintro e m' (⟨rfl, hno⟩ | ⟨ws0, x0, A0, cap0, bA0, bc0, rfl, hc, ⟨p00, pre0, hpre0⟩, hS, hx, hk0, hN0, hp0, hq0, hb0, rfl⟩)
 ·refine fin_panic (fun w' hm => ⟨_, .inl ⟨rfl, fun a ha ho more h => ?_⟩, hm⟩)
  refine hno a ha ?_ ([116].map (fun c => letS c a) ++ more) (by rw [h]; rfl)
  have h1 := onlyOk_cons ho
  have h2 := onlyOk_cons h1.2
  simp only [onlyOk, List.all_cons, List.all_nil, h1.1, h2.1, Bool.and_true]
 replace HS := fun w h => hS w (HS w h)
 replace HL : ∀ s ∈ ws0, s.length ≤ 1099511627776 := fun s hs => hl s (by rw [hpre0]; exact List.mem_append_right _ hs)
 have hmem1 : ∀ s ∈ ws0, s ∈ ws.tail := fun s hs => by rw [hpre0]; exact List.mem_append_right _ hs
 have hmem0 : ∀ s ∈ ws0, s ∈ ws := fun s hs => by rw [hpre0]; exact List.mem_append_right _ hs
 conv => whnf
 (repeat ((first | (refine dr_tail 7 tab_ok mixed (by kernel_rfl) rfl rfl ?_) | refine stp (by (repeat constructor); first | done | fail) ?_ | refine stn (by (repeat constructor); first | done | fail) ?_ | refine sto (by (repeat constructor); first | done | fail) (by first | omega | (simp only; omega)) ?_ | refine .mk fun Ap capp => ?_ | refine ⟨?_, trivial⟩ | intro _); conv => whnf))
 refine ⟨naR_name _ rfl _, ?_⟩
 conv => whnf
 (repeat ((first | refine stp (by (repeat constructor); first | done | fail) ?_ | refine stn (by (repeat constructor); first | done | fail) ?_ | refine sto (by (repeat constructor); first | done | fail) (by first | omega | (simp only; omega)) ?_ | refine .mk fun Ap capp => ?_ | refine ⟨?_, trivial⟩ | intro _); conv => whnf))
 refine ⟨_, _, mdR_name _ rfl _, rname_ent, cl_mem (.cons .here (.cons .here .nil)) (fun w' hm' => rT_any rB A0 cap0 ws0 aB x0 _ pA _ pc w' hc hx HL hm'.part (stb hm' (fun w'' hm'' => HS _ (hs w'' hm''.fr)))) ?_⟩
 rintro e m' (⟨rfl, hno⟩ | ⟨s1, ws1, x1, A1, cap1, rfl, rfl, hc, hS, hq1, rfl⟩)
 ·refine fin_panic (fun w' hm => ⟨_, .inl ⟨rfl, fun a ha ho more h => ?_⟩, hm⟩)
  have o1 := onlyOk_cons ho
  have o2 := onlyOk_cons o1.2
  have p1 := onlyOk_cons o2.2
  have h := (hq0 a ha (by simp only [onlyOk, List.all_cons, List.all_nil, o1.1, o2.1, Bool.and_true]) ([116].map (fun c => letS c a) ++ more) (by rw [h]; rfl)).2
  simp only [List.map_cons, List.map_nil, List.cons_append, List.nil_append, List.cons.injEq] at h
  exact hno _ _ h a ha p1.1 rfl
 replace hx := hq1.ok
 replace HS := fun w h => hS w (HS w h)
 replace HL := fun s hs => HL s (List.mem_cons_of_mem _ hs)
 conv => whnf
 refine fin0 rfl (fun w' hm => ?_) (by first | exact .inr rfl | exact .inl rfl)
 have snd : ∀ a : PAct, a.Ok → onlyOk [97, 111, 116] a = true → ∀ more, ws = ([97, 111, 116] : List UInt8).map (fun c => letS c a) ++ more → x1 = onlyX [97, 111, 116] a x ∧ ws1 = more := by
  intro a ha ho more h
  have o1 := onlyOk_cons ho
  have o2 := onlyOk_cons o1.2
  have p1 := onlyOk_cons o2.2
  have h0 := hq0 a ha (by simp only [onlyOk, List.all_cons, List.all_nil, o1.1, o2.1, Bool.and_true]) ([116].map (fun c => letS c a) ++ more) (by rw [h]; rfl)
  have h := h0.2
  simp only [List.map_cons, List.map_nil, List.cons_append, List.nil_append, List.cons.injEq] at h
  have r1 := hq1.sound a ha p1.1 (fun hh => absurd hh (by decide)) h.1
  refine ⟨?_, h.2⟩
  rw [r1, h0.1]
  rfl
 exact ⟨_, .inr ⟨ws1, x1, A1, cap1, none, 0, rfl, hc, ⟨p00, pre0 ++ [s1], by rw [hpre0]; simp⟩, HS, hx, (hq1.kind.trans hk0), fun w hn h => (hq1.num w (hn s1 (hmem0 _ (by simp))) (hN0 w hn h)), (hq1.picks.trans hp0), snd, ⟨by rw [hq1.bytes (by decide)]; exact hb0, rfl⟩⟩, hm.sel (by (repeat constructor); first | done | fail)⟩
set_option maxRecDepth 100000 in
set_option maxHeartbeats 1000000 in
theorem rk8_any :
  Ctr Tryz.prog 83 [.pointer (some ⟨aB, 0, none⟩), .iface 83 (.pointer (some ⟨rB, 0, none⟩))] (RM rB A ws.length cap aB x none pA 0 pc) (OvR false [97, 78] rB A ws aB x pA pc) w := by
 refine enter (cx := CXS 20 [] w (Foot (RM rB A ws.length cap aB x none pA 0 pc))) [(0, .pointer (some ⟨aB, 0, none⟩)), (1, .iface 83 (.pointer (some ⟨rB, 0, none⟩)))] tab_ok Tryz.func83 rfl rfl rfl rfl hm ?_
 have HS : ∀ w, StrsIn w A ws → StrsIn w A ws := fun _ h => h
 have HN : ∀ w, (∀ s ∈ ws, NumW w s) → NumAct w x → NumAct w x := fun _ _ h => h
 have HL := hl
 conv => whnf
 (repeat ((first | (refine dr_tail 7 tab_ok mixed (by kernel_rfl) rfl rfl ?_) | refine stp (by (repeat constructor); first | done | fail) ?_ | refine stn (by (repeat constructor); first | done | fail) ?_ | refine sto (by (repeat constructor); first | done | fail) (by first | omega | (simp only; omega)) ?_ | refine .mk fun Ap capp => ?_ | refine ⟨?_, trivial⟩ | intro _); conv => whnf))
 refine ⟨naR_name _ rfl _, ?_⟩
 conv => whnf
 (repeat ((first | refine stp (by (repeat constructor); first | done | fail) ?_ | refine stn (by (repeat constructor); first | done | fail) ?_ | refine sto (by (repeat constructor); first | done | fail) (by first | omega | (simp only; omega)) ?_ | refine .mk fun Ap capp => ?_ | refine ⟨?_, trivial⟩ | intro _); conv => whnf))
 refine ⟨_, _, mdR_name _ rfl _, rname_ent, cl_mem (.cons .here (.cons .here .nil)) (fun w' hm' => rN_any rB A cap ws aB x _ pA _ pc w' hc hx HL hm'.part (stb hm' (fun w'' hm'' => HS _ (hs w'' hm''.fr)))) ?_⟩
 rintro e m' (⟨rfl, hno⟩ | ⟨s1, ws1, x1, A1, cap1, rfl, rfl, hc, hS, hq1, rfl⟩)
 ·refine fin_panic (fun w' hm => ⟨_, .inl ⟨rfl, fun a ha ho more h => ?_⟩, hm⟩)
  have p1 := onlyOk_cons ho
  exact hno _ _ h a ha p1.1 rfl
 replace hx := hq1.ok
 replace HS := fun w h => hS w (HS w h)
 replace HL := fun s hs => HL s (List.mem_cons_of_mem _ hs)
 conv => whnf
 (repeat ((first | (refine dr_tail 7 tab_ok mixed (by kernel_rfl) rfl rfl ?_) | refine stp (by (repeat constructor); first | done | fail) ?_ | refine stn (by (repeat constructor); first | done | fail) ?_ | refine sto (by (repeat constructor); first | done | fail) (by first | omega | (simp only; omega)) ?_ | refine .mk fun Ap capp => ?_ | refine ⟨?_, trivial⟩ | intro _); conv => whnf))
 refine ⟨naR_long _ rfl _, ?_⟩
 conv => whnf
 (repeat ((first | refine stp (by (repeat constructor); first | done | fail) ?_ | refine stn (by (repeat constructor); first | done | fail) ?_ | refine sto (by (repeat constructor); first | done | fail) (by first | omega | (simp only; omega)) ?_ | refine .mk fun Ap capp => ?_ | refine ⟨?_, trivial⟩ | intro _); conv => whnf))
 refine ⟨_, _, mdR_long _ rfl _, rlong_ent, cl_mem (.cons .here (.cons .here .nil)) (fun w' hm' => rM_any rB A1 cap1 ws1 aB x1 _ pA _ pc w' hc hx HL hm'.part (stb hm' (fun w'' hm'' => HS _ (hs w'' hm''.fr))) (stb hm' (fun w'' hm'' => (hw w'' hm''.fr).drop (fun s hs => by simp [hs])))) ?_⟩
 rintro e m' (⟨rfl, hno⟩ | ⟨s2, ws2, x2, A2, cap2, rfl, rfl, hc, hS, hq2, rfl⟩)
 ·refine fin_panic (fun w' hm => ⟨_, .inl ⟨rfl, fun a ha ho more h => ?_⟩, hm⟩)
  have p1 := onlyOk_cons ho
  have p2 := onlyOk_cons p1.2
  simp only [List.map_cons, List.map_nil, List.cons_append, List.nil_append, List.cons.injEq] at h
  exact hno _ _ h.2 a ha p2.1 rfl
 replace hx := hq2.ok
 replace HS := fun w h => hS w (HS w h)
 replace HL := fun s hs => HL s (List.mem_cons_of_mem _ hs)
 conv => whnf
 refine fin0 rfl (fun w' hm => ?_) (by first | exact .inr rfl | exact .inl rfl)
 have snd : ∀ a : PAct, a.Ok → onlyOk [97, 78] a = true → ∀ more, s1 :: s2 :: ws2 = ([97, 78] : List UInt8).map (fun c => letS c a) ++ more → x2 = onlyX [97, 78] a x ∧ ws2 = more := by
  intro a ha ho more h
  have p1 := onlyOk_cons ho
  have p2 := onlyOk_cons p1.2
  simp only [List.map_cons, List.map_nil, List.cons_append, List.nil_append, List.cons.injEq] at h
  have r1 := hq1.sound a ha p1.1 (fun hh => absurd hh (by decide)) h.1
  have r2 := hq2.sound a ha p2.1 (fun hh => absurd hh (by decide)) h.2.1
  refine ⟨?_, h.2.2⟩
  rw [r2, r1]
  rfl
 exact ⟨_, .inr ⟨ws2, x2, A2, cap2, none, 0, rfl, hc, ⟨s1, [s2], rfl⟩, HS, hx, (hq2.kind.trans hq1.kind), fun w hn h => (hq2.num w (hn s2 (by simp)) (hq1.num w (hn s1 (by simp)) h)), (hq2.picks.trans hq1.picks), snd, ⟨by rw [hq2.bytes (by decide), hq1.bytes (by decide)]; exact hx0, rfl⟩⟩, hm.sel (by (repeat constructor); first | done | fail)⟩
set_option maxRecDepth 100000 in
set_option maxHeartbeats 1000000 in
theorem rk9_any :
  Ctr Tryz.prog 84 [.pointer (some ⟨aB, 0, none⟩), .iface 83 (.pointer (some ⟨rB, 0, none⟩))] (RM rB A ws.length cap aB x none pA 0 pc) (OvR false [97, 79, 115] rB A ws aB x pA pc) w := by
 refine enter (cx := CXS 28 [] w (Foot (RM rB A ws.length cap aB x none pA 0 pc))) [(0, .pointer (some ⟨aB, 0, none⟩)), (1, .iface 83 (.pointer (some ⟨rB, 0, none⟩)))] tab_ok Tryz.func84 rfl rfl rfl rfl hm ?_
 have HS : ∀ w, StrsIn w A ws → StrsIn w A ws := fun _ h => h
 have HN : ∀ w, (∀ s ∈ ws, NumW w s) → NumAct w x → NumAct w x := fun _ _ h => h
 have HL := hl
 conv => whnf
 (repeat ((first | (refine dr_tail 7 tab_ok mixed (by kernel_rfl) rfl rfl ?_) | refine stp (by (repeat constructor); first | done | fail) ?_ | refine stn (by (repeat constructor); first | done | fail) ?_ | refine sto (by (repeat constructor); first | done | fail) (by first | omega | (simp only; omega)) ?_ | refine .mk fun Ap capp => ?_ | refine ⟨?_, trivial⟩ | intro _); conv => whnf))
 refine ⟨naR_name _ rfl _, ?_⟩
 conv => whnf
 (repeat ((first | refine stp (by (repeat constructor); first | done | fail) ?_ | refine stn (by (repeat constructor); first | done | fail) ?_ | refine sto (by (repeat constructor); first | done | fail) (by first | omega | (simp only; omega)) ?_ | refine .mk fun Ap capp => ?_ | refine ⟨?_, trivial⟩ | intro _); conv => whnf))
 refine ⟨_, _, mdR_name _ rfl _, rname_ent, cl_mem (.cons .here (.cons .here .nil)) (fun w' hm' => rN_any rB A cap ws aB x _ pA _ pc w' hc hx HL hm'.part (stb hm' (fun w'' hm'' => HS _ (hs w'' hm''.fr)))) ?_⟩
 rintro e m' (⟨rfl, hno⟩ | ⟨s1, ws1, x1, A1, cap1, rfl, rfl, hc, hS, hq1, rfl⟩)
 ·refine fin_panic (fun w' hm => ⟨_, .inl ⟨rfl, fun a ha ho more h => ?_⟩, hm⟩)
  have p1 := onlyOk_cons ho
  exact hno _ _ h a ha p1.1 rfl
 replace hx := hq1.ok
 replace HS := fun w h => hS w (HS w h)
 replace HL := fun s hs => HL s (List.mem_cons_of_mem _ hs)
 conv => whnf
 (repeat ((first | (refine dr_tail 7 tab_ok mixed (by kernel_rfl) rfl rfl ?_) | refine stp (by (repeat constructor); first | done | fail) ?_ | refine stn (by (repeat constructor); first | done | fail) ?_ | refine sto (by (repeat constructor); first | done | fail) (by first | omega | (simp only; omega)) ?_ | refine .mk fun Ap capp => ?_ | refine ⟨?_, trivial⟩ | intro _); conv => whnf))
 refine ⟨naR_name _ rfl _, ?_⟩
 conv => whnf
 (repeat ((first | refine stp (by (repeat constructor); first | done | fail) ?_ | refine stn (by (repeat constructor); first | done | fail) ?_ | refine sto (by (repeat constructor); first | done | fail) (by first | omega | (simp only; omega)) ?_ | refine .mk fun Ap capp => ?_ | refine ⟨?_, trivial⟩ | intro _); conv => whnf))
 refine ⟨_, _, mdR_name _ rfl _, rname_ent, cl_mem (.cons .here (.cons .here .nil)) (fun w' hm' => rE_any rB A1 cap1 ws1 aB x1 _ pA _ pc w' hc hx HL hm'.part (stb hm' (fun w'' hm'' => HS _ (hs w'' hm''.fr)))) ?_⟩
 rintro e m' (⟨rfl, hno⟩ | ⟨s2, ws2, x2, A2, cap2, rfl, rfl, hc, hS, hq2, rfl⟩)
 ·refine fin_panic (fun w' hm => ⟨_, .inl ⟨rfl, fun a ha ho more h => ?_⟩, hm⟩)
  have p1 := onlyOk_cons ho
  have p2 := onlyOk_cons p1.2
  simp only [List.map_cons, List.map_nil, List.cons_append, List.nil_append, List.cons.injEq] at h
  exact hno _ _ h.2 a ha p2.1 rfl
 replace hx := hq2.ok
 replace HS := fun w h => hS w (HS w h)
 replace HL := fun s hs => HL s (List.mem_cons_of_mem _ hs)
 conv => whnf
 (repeat ((first | (refine dr_tail 7 tab_ok mixed (by kernel_rfl) rfl rfl ?_) | refine stp (by (repeat constructor); first | done | fail) ?_ | refine stn (by (repeat constructor); first | done | fail) ?_ | refine sto (by (repeat constructor); first | done | fail) (by first | omega | (simp only; omega)) ?_ | refine .mk fun Ap capp => ?_ | refine ⟨?_, trivial⟩ | intro _); conv => whnf))
 refine ⟨naR_flag _ rfl _, ?_⟩
 conv => whnf
 (repeat ((first | refine stp (by (repeat constructor); first | done | fail) ?_ | refine stn (by (repeat constructor); first | done | fail) ?_ | refine sto (by (repeat constructor); first | done | fail) (by first | omega | (simp only; omega)) ?_ | refine .mk fun Ap capp => ?_ | refine ⟨?_, trivial⟩ | intro _); conv => whnf))
 refine ⟨_, _, mdR_flag _ rfl _, rflag_ent, cl_mem (.cons .here (.cons .here .nil)) (fun w' hm' => rFs_any rB A2 cap2 ws2 aB x2 _ pA _ pc w' hc hx HL hm'.part (stb hm' (fun w'' hm'' => HS _ (hs w'' hm''.fr)))) ?_⟩
 rintro e m' (⟨rfl, hno⟩ | ⟨s3, ws3, x3, A3, cap3, rfl, rfl, hc, hS, hq3, rfl⟩)
 ·refine fin_panic (fun w' hm => ⟨_, .inl ⟨rfl, fun a ha ho more h => ?_⟩, hm⟩)
  have p1 := onlyOk_cons ho
  have p2 := onlyOk_cons p1.2
  have p3 := onlyOk_cons p2.2
  simp only [List.map_cons, List.map_nil, List.cons_append, List.nil_append, List.cons.injEq] at h
  exact hno _ _ h.2.2 a ha p3.1 rfl
 replace hx := hq3.ok
 replace HS := fun w h => hS w (HS w h)
 replace HL := fun s hs => HL s (List.mem_cons_of_mem _ hs)
 conv => whnf
 refine fin0 rfl (fun w' hm => ?_) (by first | exact .inr rfl | exact .inl rfl)
 have snd : ∀ a : PAct, a.Ok → onlyOk [97, 79, 115] a = true → ∀ more, s1 :: s2 :: s3 :: ws3 = ([97, 79, 115] : List UInt8).map (fun c => letS c a) ++ more → x3 = onlyX [97, 79, 115] a x ∧ ws3 = more := by
  intro a ha ho more h
  have p1 := onlyOk_cons ho
  have p2 := onlyOk_cons p1.2
  have p3 := onlyOk_cons p2.2
  simp only [List.map_cons, List.map_nil, List.cons_append, List.nil_append, List.cons.injEq] at h
  have r1 := hq1.sound a ha p1.1 (fun hh => absurd hh (by decide)) h.1
  have r2 := hq2.sound a ha p2.1 (fun hh => absurd hh (by decide)) h.2.1
  have r3 := hq3.sound a ha p3.1 (fun hh => absurd hh (by decide)) h.2.2.1
  refine ⟨?_, h.2.2.2⟩
  rw [r3, r2, r1]
  rfl
 exact ⟨_, .inr ⟨ws3, x3, A3, cap3, none, 0, rfl, hc, ⟨s1, [s2, s3], rfl⟩, HS, hx, (hq3.kind.trans (hq2.kind.trans hq1.kind)), fun w hn h => (hq3.num w (hn s3 (by simp)) (hq2.num w (hn s2 (by simp)) (hq1.num w (hn s1 (by simp)) h))), (hq3.picks.trans (hq2.picks.trans hq1.picks)), snd, ⟨by rw [hq3.bytes (by decide), hq2.bytes (by decide), hq1.bytes (by decide)]; exact hx0, rfl⟩⟩, hm.sel (by (repeat constructor); first | done | fail)⟩
set_option maxRecDepth 100000 in
set_option maxHeartbeats 1000000 in
theorem rk10_any :
  Ctr Tryz.prog 85 [.pointer (some ⟨aB, 0, none⟩), .iface 83 (.pointer (some ⟨rB, 0, none⟩))] (RM rB A ws.length cap aB x none pA 0 pc) (OvR false [97, 111, 66, 82, 112] rB A ws aB x pA pc) w := by
 refine enter (cx := CXS 31 [] w (Foot (RM rB A ws.length cap aB x none pA 0 pc))) [(0, .pointer (some ⟨aB, 0, none⟩)), (1, .iface 83 (.pointer (some ⟨rB, 0, none⟩)))] tab_ok Tryz.func85 rfl rfl rfl rfl hm ?_
 have HS : ∀ w, StrsIn w A ws → StrsIn w A ws := fun _ h => h
 have HN : ∀ w, (∀ s ∈ ws, NumW w s) → NumAct w x → NumAct w x := fun _ _ h => h
 have HL := hl
 conv => whnf
 (repeat ((first | refine stp (by (repeat constructor); first | done | fail) ?_ | refine stn (by (repeat constructor); first | done | fail) ?_ | refine sto (by (repeat constructor); first | done | fail) (by first | omega | (simp only; omega)) ?_ | refine .mk fun Ap capp => ?_ | refine ⟨?_, trivial⟩ | intro _); conv => whnf))
 refine ⟨rtwo_enters, cl_mem (.cons .here (.cons .here .nil)) (fun w' hm' => rtwo_any rB A cap ws aB x pA pc w' hc hx hx0 hl hm'.part (stb hm' (fun w'' hm'' => hs w'' hm''.fr)) (stb hm' (fun w'' hm'' => hw w'' hm''.fr))) ?_⟩
 rintro e m' (⟨rfl, hno⟩ | ⟨ws0, x0, A0, cap0, bA0, bc0, rfl, hc, ⟨p00, pre0, hpre0⟩, hS, hx, hk0, hN0, hp0, hq0, hb0, rfl⟩)
 ·refine fin_panic (fun w' hm => ⟨_, .inl ⟨rfl, fun a ha ho more h => ?_⟩, hm⟩)
  refine hno a ha ?_ ([66, 82, 112].map (fun c => letS c a) ++ more) (by rw [h]; rfl)
  have h1 := onlyOk_cons ho
  have h2 := onlyOk_cons h1.2
  simp only [onlyOk, List.all_cons, List.all_nil, h1.1, h2.1, Bool.and_true]
 replace HS := fun w h => hS w (HS w h)
 replace HL : ∀ s ∈ ws0, s.length ≤ 1099511627776 := fun s hs => hl s (by rw [hpre0]; exact List.mem_append_right _ hs)
 have hmem1 : ∀ s ∈ ws0, s ∈ ws.tail := fun s hs => by rw [hpre0]; exact List.mem_append_right _ hs
 have hmem0 : ∀ s ∈ ws0, s ∈ ws := fun s hs => by rw [hpre0]; exact List.mem_append_right _ hs
 conv => whnf
 (repeat ((first | (refine dr_tail 7 tab_ok mixed (by kernel_rfl) rfl rfl ?_) | refine stp (by (repeat constructor); first | done | fail) ?_ | refine stn (by (repeat constructor); first | done | fail) ?_ | refine sto (by (repeat constructor); first | done | fail) (by first | omega | (simp only; omega)) ?_ | refine .mk fun Ap capp => ?_ | refine ⟨?_, trivial⟩ | intro _); conv => whnf))
 refine ⟨naR_whole _ rfl _, ?_⟩
 conv => whnf
 (repeat ((first | refine stp (by (repeat constructor); first | done | fail) ?_ | refine stn (by (repeat constructor); first | done | fail) ?_ | refine sto (by (repeat constructor); first | done | fail) (by first | omega | (simp only; omega)) ?_ | refine .mk fun Ap capp => ?_ | refine ⟨?_, trivial⟩ | intro _); conv => whnf))
 refine ⟨_, _, mdR_whole _ rfl _, rwhole_ent, cl_mem (.cons .here (.cons .here .nil)) (fun w' hm' => rB_any rB A0 cap0 ws0 aB x0 _ pA _ pc w' hc hx HL hm'.part (stb hm' (fun w'' hm'' => HS _ (hs w'' hm''.fr))) (stb hm' (fun w'' hm'' => (hw w'' hm''.fr).drop (fun s hs => hmem1 s (by simp [hs]))))) ?_⟩
 rintro e m' (⟨rfl, hno⟩ | ⟨s1, ws1, x1, A1, cap1, rfl, rfl, hc, hS, hq1, rfl⟩)
 ·refine fin_panic (fun w' hm => ⟨_, .inl ⟨rfl, fun a ha ho more h => ?_⟩, hm⟩)
  have o1 := onlyOk_cons ho
  have o2 := onlyOk_cons o1.2
  have p1 := onlyOk_cons o2.2
  have h := (hq0 a ha (by simp only [onlyOk, List.all_cons, List.all_nil, o1.1, o2.1, Bool.and_true]) ([66, 82, 112].map (fun c => letS c a) ++ more) (by rw [h]; rfl)).2
  simp only [List.map_cons, List.map_nil, List.cons_append, List.nil_append, List.cons.injEq] at h
  exact hno _ _ h a ha p1.1 rfl
 replace hx := hq1.ok
 replace HS := fun w h => hS w (HS w h)
 replace HL := fun s hs => HL s (List.mem_cons_of_mem _ hs)
 conv => whnf
 (repeat ((first | (refine dr_tail 7 tab_ok mixed (by kernel_rfl) rfl rfl ?_) | refine stp (by (repeat constructor); first | done | fail) ?_ | refine stn (by (repeat constructor); first | done | fail) ?_ | refine sto (by (repeat constructor); first | done | fail) (by first | omega | (simp only; omega)) ?_ | refine .mk fun Ap capp => ?_ | refine ⟨?_, trivial⟩ | intro _); conv => whnf))
 refine ⟨naR_whole _ rfl _, ?_⟩
 conv => whnf
 (repeat ((first | refine stp (by (repeat constructor); first | done | fail) ?_ | refine stn (by (repeat constructor); first | done | fail) ?_ | refine sto (by (repeat constructor); first | done | fail) (by first | omega | (simp only; omega)) ?_ | refine .mk fun Ap capp => ?_ | refine ⟨?_, trivial⟩ | intro _); conv => whnf))
 refine ⟨_, _, mdR_whole _ rfl _, rwhole_ent, cl_mem (.cons .here (.cons .here .nil)) (fun w' hm' => rR_any rB A1 cap1 ws1 aB x1 _ pA _ pc w' hc hx HL hm'.part (stb hm' (fun w'' hm'' => HS _ (hs w'' hm''.fr))) (stb hm' (fun w'' hm'' => (hw w'' hm''.fr).drop (fun s hs => hmem1 s (by simp [hs]))))) ?_⟩
 rintro e m' (⟨rfl, hno⟩ | ⟨s2, ws2, x2, A2, cap2, rfl, rfl, hc, hS, hq2, rfl⟩)
 ·refine fin_panic (fun w' hm => ⟨_, .inl ⟨rfl, fun a ha ho more h => ?_⟩, hm⟩)
  have o1 := onlyOk_cons ho
  have o2 := onlyOk_cons o1.2
  have p1 := onlyOk_cons o2.2
  have p2 := onlyOk_cons p1.2
  have h := (hq0 a ha (by simp only [onlyOk, List.all_cons, List.all_nil, o1.1, o2.1, Bool.and_true]) ([66, 82, 112].map (fun c => letS c a) ++ more) (by rw [h]; rfl)).2
  simp only [List.map_cons, List.map_nil, List.cons_append, List.nil_append, List.cons.injEq] at h
  exact hno _ _ h.2 a ha p2.1 rfl
 replace hx := hq2.ok
 replace HS := fun w h => hS w (HS w h)
 replace HL := fun s hs => HL s (List.mem_cons_of_mem _ hs)
 conv => whnf
 (repeat ((first | (refine dr_tail 7 tab_ok mixed (by kernel_rfl) rfl rfl ?_) | refine stp (by (repeat constructor); first | done | fail) ?_ | refine stn (by (repeat constructor); first | done | fail) ?_ | refine sto (by (repeat constructor); first | done | fail) (by first | omega | (simp only; omega)) ?_ | refine .mk fun Ap capp => ?_ | refine ⟨?_, trivial⟩ | intro _); conv => whnf))
 refine ⟨naR_flag _ rfl _, ?_⟩
 conv => whnf
 (repeat ((first | refine stp (by (repeat constructor); first | done | fail) ?_ | refine stn (by (repeat constructor); first | done | fail) ?_ | refine sto (by (repeat constructor); first | done | fail) (by first | omega | (simp only; omega)) ?_ | refine .mk fun Ap capp => ?_ | refine ⟨?_, trivial⟩ | intro _); conv => whnf))
 refine ⟨_, _, mdR_flag _ rfl _, rflag_ent, cl_mem (.cons .here (.cons .here .nil)) (fun w' hm' => rFp_any rB A2 cap2 ws2 aB x2 _ pA _ pc w' hc hx HL hm'.part (stb hm' (fun w'' hm'' => HS _ (hs w'' hm''.fr)))) ?_⟩
 rintro e m' (⟨rfl, hno⟩ | ⟨s3, ws3, x3, A3, cap3, rfl, rfl, hc, hS, hq3, rfl⟩)
 ·refine fin_panic (fun w' hm => ⟨_, .inl ⟨rfl, fun a ha ho more h => ?_⟩, hm⟩)
  have o1 := onlyOk_cons ho
  have o2 := onlyOk_cons o1.2
  have p1 := onlyOk_cons o2.2
  have p2 := onlyOk_cons p1.2
  have p3 := onlyOk_cons p2.2
  have h := (hq0 a ha (by simp only [onlyOk, List.all_cons, List.all_nil, o1.1, o2.1, Bool.and_true]) ([66, 82, 112].map (fun c => letS c a) ++ more) (by rw [h]; rfl)).2
  simp only [List.map_cons, List.map_nil, List.cons_append, List.nil_append, List.cons.injEq] at h
  exact hno _ _ h.2.2 a ha p3.1 rfl
 replace hx := hq3.ok
 replace HS := fun w h => hS w (HS w h)
 replace HL := fun s hs => HL s (List.mem_cons_of_mem _ hs)
 conv => whnf
 refine fin0 rfl (fun w' hm => ?_) (by first | exact .inr rfl | exact .inl rfl)
 have snd : ∀ a : PAct, a.Ok → onlyOk [97, 111, 66, 82, 112] a = true → ∀ more, ws = ([97, 111, 66, 82, 112] : List UInt8).map (fun c => letS c a) ++ more → x3 = onlyX [97, 111, 66, 82, 112] a x ∧ ws3 = more := by
  intro a ha ho more h
  have o1 := onlyOk_cons ho
  have o2 := onlyOk_cons o1.2
  have p1 := onlyOk_cons o2.2
  have p2 := onlyOk_cons p1.2
  have p3 := onlyOk_cons p2.2
  have h0 := hq0 a ha (by simp only [onlyOk, List.all_cons, List.all_nil, o1.1, o2.1, Bool.and_true]) ([66, 82, 112].map (fun c => letS c a) ++ more) (by rw [h]; rfl)
  have h := h0.2
  simp only [List.map_cons, List.map_nil, List.cons_append, List.nil_append, List.cons.injEq] at h
  have r1 := hq1.sound a ha p1.1 (fun hh => absurd hh (by decide)) h.1
  have r2 := hq2.sound a ha p2.1 (fun hh => absurd hh (by decide)) h.2.1
  have r3 := hq3.sound a ha p3.1 (fun hh => absurd hh (by decide)) h.2.2.1
  refine ⟨?_, h.2.2.2⟩
  rw [r3, r2, r1, h0.1]
  rfl
 exact ⟨_, .inr ⟨ws3, x3, A3, cap3, none, 0, rfl, hc, ⟨p00, pre0 ++ [s1, s2, s3], by rw [hpre0]; simp⟩, HS, hx, (hq3.kind.trans (hq2.kind.trans (hq1.kind.trans hk0))), fun w hn h => (hq3.num w (hn s3 (hmem0 _ (by simp))) (hq2.num w (hn s2 (hmem0 _ (by simp))) (hq1.num w (hn s1 (hmem0 _ (by simp))) (hN0 w hn h)))), (hq3.picks.trans (hq2.picks.trans (hq1.picks.trans hp0))), snd, ⟨by rw [hq3.bytes (by decide), hq2.bytes (by decide), hq1.bytes (by decide)]; exact hb0, rfl⟩⟩, hm.sel (by (repeat constructor); first | done | fail)⟩
end
end Go.Proofs.YtbfbjgakmnckbaaGreatDoor
namespace Go.Proofs.YtbfbjgakmnckbaaGreatDoor
open Go Go.RowKit Eng
attribute [local irreducible] Br Rn RnU Cl RdG CpG Ld Rd Lp Dr Oth Cut fin Fits Eng.Enters Md NA

/-- What becomes of an act of kind k + 1 whose words are read. -/
def RdKR (k : Nat) (rB : Nat) (ws : List (List UInt8)) (aB : Nat) (e : Ending) (m' : Mem) : Prop :=
 (e = .panicked (refusal 410) ∧ ∀ a : PAct, a.Ok → mayB a = true → a.kind = (k + 1 : Nat) → ws ≠ restW a) ∨
 ∃ (A' : Option Addr) (n' cap' : Nat) (x' : PAct) (bA' pA' : Option Addr) (bc' pc' : Nat), e = .returned (.tuple #[]) ∧ x'.Ok ∧ x'.kind = (k + 1 : Nat) ∧ (∀ w, (∀ s ∈ ws, NumW w s) → NumAct w x') ∧ (∀ a : PAct, a.Ok → mayB a = true → a.kind = (k + 1 : Nat) → ws = restW a → x' = a) ∧
  m' = RM rB A' n' cap' aB x' bA' pA' bc' pc' ++ [BR bA' bc' x'.bytes, PR pA' pc' x'.picks]

theorem may_picks {a : PAct} (h : mayB a = true) (hk : a.kind ≠ 25) : a.picks = [] := by
 have hf := sameB_full h
 have : (fullX a).picks = [] := by
  unfold fullX
  simp only
  rw [if_neg hk]
  split
  ·exact onlyX_picks _ _ _
  ·exact onlyX_picks _ _ _
 rw [hf] at this
 exact this
theorem may_bytes0 {a : PAct} (h : mayB a = true) (hk : a.kind = 24 ∨ a.kind = 25) : a.bytes = [] ∧ a.name = Str [] ∧ a.other = Str [] ∧ a.third = Str [] ∧ a.at_ = 0 ∧ a.n = 0 ∧ a.bits = 0 ∧ a.order = 0 ∧ a.on = false := by
 have hf := sameB_full h
 have hl : lettersL a.kind = [] := by rcases hk with hk | hk <;> rw [hk] <;> rfl
 unfold fullX at hf
 simp only [hl] at hf
 rcases hk with hk | hk
 ·rw [if_neg (by omega), if_pos hk] at hf
  rw [← hf]; exact ⟨rfl, rfl, rfl, rfl, rfl, rfl, rfl, rfl, rfl⟩
 ·rw [if_pos hk, if_neg (by omega)] at hf
  rw [← hf]; exact ⟨rfl, rfl, rfl, rfl, rfl, rfl, rfl, rfl, rfl⟩
theorem rest_letters {a : PAct} (h : mayB a = true) (h24 : a.kind ≠ 24) (h25 : a.kind ≠ 25) : restW a = (lettersL a.kind).map (fun c => letS c a) ++ [] := by
 rw [restW, fateW, if_neg h24, may_picks h h25]; rfl
theorem full_letters {a : PAct} (h : mayB a = true) (h24 : a.kind ≠ 24) (h25 : a.kind ≠ 25) : onlyX (lettersL a.kind) a (nilAct a.kind) = a := by
 have hf := sameB_full h
 unfold fullX at hf
 simp only at hf
 rwa [if_neg h25, if_neg h24] at hf
theorem numNil (w : World) (k : Int) : NumAct w (nilAct k) := by
 have h0 : NumOk w 0 := ⟨by omega, .inr (by omega)⟩
 exact ⟨h0, h0, h0, h0, h0, fun _ h => by cases h⟩

section
variable (rB : Nat) (A : Option Addr) (cap : Nat) (ws : List (List UInt8)) (aB : Nat) (w : World) (hc : ws.length ≤ cap) (hl : ∀ s ∈ ws, s.length ≤ 1099511627776) (hwl : ws.length ≤ 1073741824)

/-- From letters to an act. -/
theorem ov_rd (k : Nat) (hk : k < 23) (g : Nat) (bx : Bool) (hm : MemOk w (Foot (RM rB A ws.length cap aB (nilAct (k + 1 : Nat)) none none 0 0)) (RM rB A ws.length cap aB (nilAct (k + 1 : Nat)) none none 0 0) w)
  (h : Ctr Tryz.prog g [.pointer (some ⟨aB, 0, none⟩), .iface 83 (.pointer (some ⟨rB, 0, none⟩))] (RM rB A ws.length cap aB (nilAct (k + 1 : Nat)) none none 0 0) (OvR bx (lettersL (k + 1 : Nat)) rB A ws aB (nilAct (k + 1 : Nat)) none 0) w) :
  Ctr Tryz.prog g [.pointer (some ⟨aB, 0, none⟩), .iface 83 (.pointer (some ⟨rB, 0, none⟩))] (RM rB A ws.length cap aB (nilAct (k + 1 : Nat)) none none 0 0) (RdKR k rB ws aB) w := by
 refine h.mono ?_
 rintro e w' ⟨m', hr, hm'⟩
 rcases hr with ⟨rfl, hno⟩ | ⟨ws', x', A', cap', bA', bc', rfl, hc', _, _, hx', hkx, hN, hp, hsnd, hb⟩
 ·refine ⟨m', .inl ⟨rfl, fun a ha hmay hak h => ?_⟩, hm'⟩
  refine hno a ha (by rw [← hak]; exact may_ok hmay) [] ?_
  rw [h, rest_letters hmay (by omega) (by omega), hak]
 ·have hp0 : x'.picks = [] := hp
  have hsound : ∀ a : PAct, a.Ok → mayB a = true → a.kind = (k + 1 : Nat) → ws = restW a → x' = a := by
   intro a ha hmay hak h
   have := (hsnd a ha (by rw [← hak]; exact may_ok hmay) [] (by rw [h, rest_letters hmay (by omega) (by omega), hak])).1
   rw [this, ← hak]
   exact full_letters hmay (by omega) (by omega)
  cases bx with
  | true =>
   simp only at hb
   subst hb
   refine ⟨_, .inr ⟨A', ws'.length, cap', x', bA', none, bc', 0, rfl, hx', hkx, fun w h => hN w h (numNil w _), hsound, rfl⟩, ?_⟩
   rw [hp0]
   exact (hm'.nilRow 3 1).sel (.cons (.there .here) (.cons (.there .here) (.cons (.there .here) (.cons .here .nil))))
  | false =>
   simp only at hb
   obtain ⟨hb0, rfl⟩ := hb
   refine ⟨_, .inr ⟨A', ws'.length, cap', x', none, none, 0, 0, rfl, hx', hkx, fun w h => hN w h (numNil w _), hsound, rfl⟩, ?_⟩
   rw [hp0, hb0]
   exact ((hm'.nilRow 3 1).nilRow 5 1).sel (.cons (.there (.there .here)) (.cons (.there (.there .here)) (.cons .here (.cons .here .nil))))

set_option maxRecDepth 100000 in
theorem rk11_any (hm : MemOk w (Foot (RM rB A ws.length cap aB (nilAct (23 + 1 : Nat)) none none 0 0)) (RM rB A ws.length cap aB (nilAct (23 + 1 : Nat)) none none 0 0) w) (hs : Stb (RM rB A ws.length cap aB (nilAct (23 + 1 : Nat)) none none 0 0) w (fun w => StrsIn w A ws)) (hw : Stb (RM rB A ws.length cap aB (nilAct (23 + 1 : Nat)) none none 0 0) w (LWT ws)) (hc : ws.length ≤ cap) (hl : ∀ s ∈ ws, s.length ≤ 1099511627776) :
  Ctr Tryz.prog 86 [.pointer (some ⟨aB, 0, none⟩), .iface 83 (.pointer (some ⟨rB, 0, none⟩))] (RM rB A ws.length cap aB (nilAct (23 + 1 : Nat)) none none 0 0) (RdKR 23 rB ws aB) w := by
 have hx : (nilAct (23 + 1 : Nat)).Ok := nilAct_ok (by omega)
 refine enter (cx := CXS 12 [] w (Foot (RM rB A ws.length cap aB (nilAct (23 + 1 : Nat)) none none 0 0))) [(0, .pointer (some ⟨aB, 0, none⟩)), (1, .iface 83 (.pointer (some ⟨rB, 0, none⟩)))] tab_ok Tryz.func86 rfl rfl rfl rfl hm ?_
 conv => whnf
 (repeat ((first | (refine dr_tail 7 tab_ok mixed (by kernel_rfl) rfl rfl ?_) | refine stp (by (repeat constructor); first | done | fail) ?_ | refine stn (by (repeat constructor); first | done | fail) ?_ | refine sto (by (repeat constructor); first | done | fail) (by first | omega | (simp only; omega)) ?_ | refine .mk fun Ap capp => ?_ | refine ⟨?_, trivial⟩ | intro _); conv => whnf))
 refine ⟨naR_fate _ rfl _, ?_⟩
 conv => whnf
 (repeat ((first | refine stp (by (repeat constructor); first | done | fail) ?_ | refine stn (by (repeat constructor); first | done | fail) ?_ | refine sto (by (repeat constructor); first | done | fail) (by first | omega | (simp only; omega)) ?_ | refine .mk fun Ap capp => ?_ | refine ⟨?_, trivial⟩ | intro _); conv => whnf))
 refine ⟨_, _, mdR_fate _ rfl _, rfate_ent, cl_mem (.cons .here (.cons .here .nil)) (fun w' hm' => rfate_any rB A cap ws aB (nilAct (23 + 1 : Nat)) none none 0 0 w' hc hx hl hm'.part (stb hm' (fun w'' hm'' => hs w'' hm''.fr)) (stb hm' (fun w'' hm'' => hw w'' hm''.fr))) ?_⟩
 rintro e m' (⟨rfl, hno⟩ | ⟨ws', x', A', cap', rfl, hx', hkx, hN, hb, hp, hsnd, rfl⟩)
 ·refine fin_panic (fun w' hm => ⟨_, .inl ⟨rfl, fun a ha hmay hak h => ?_⟩, hm⟩)
  refine hno a ha (by rw [hak]; rfl) hmay ?_
  rw [h, restW, may_picks hmay (by rw [hak]; decide), hak]
  simp [letters24]
 ·have hb0 : x'.bytes = [] := hb
  have hp0 : x'.picks = [] := hp
  conv => whnf
  refine fin0 rfl (fun w' hm => ?_) (by first | exact .inr rfl | exact .inl rfl)
  refine ⟨_, .inr ⟨A', ws'.length, cap', x', none, none, 0, 0, rfl, hx', hkx, fun w h => hN w h (numNil w _), ?_, rfl⟩, ?_⟩
  ·intro a ha hmay hak h
   have h24 : a.kind = 24 := by rw [hak]; rfl
   have := hsnd a ha h24 hmay rfl rfl (by
    rw [h, restW, may_picks hmay (by omega), h24]
    simp [letters24])
   rw [this]
   obtain ⟨q1, q2, q3, q4, q5, q6, q7, q8, q9⟩ := may_bytes0 hmay (.inl h24)
   have hpk := may_picks hmay (by omega)
   cases a
   simp only at *
   subst q1 q2 q3 q4 q5 q6 q7 q8 q9 hpk h24
   rfl
  ·rw [hp0, hb0]
   exact ((hm.nilRow 3 1).nilRow 5 1).sel (.cons (.there (.there .here)) (.cons (.there (.there .here)) (.cons .here (.cons .here .nil))))

set_option maxRecDepth 100000 in
theorem rk12_any (hm : MemOk w (Foot (RM rB A ws.length cap aB (nilAct (24 + 1 : Nat)) none none 0 0)) (RM rB A ws.length cap aB (nilAct (24 + 1 : Nat)) none none 0 0) w) (hs : Stb (RM rB A ws.length cap aB (nilAct (24 + 1 : Nat)) none none 0 0) w (fun w => StrsIn w A ws)) (hw : Stb (RM rB A ws.length cap aB (nilAct (24 + 1 : Nat)) none none 0 0) w (LWW ws)) (hc : ws.length ≤ cap) (hl : ∀ s ∈ ws, s.length ≤ 1099511627776) (hwl : ws.length ≤ 1073741824) :
  Ctr Tryz.prog 87 [.pointer (some ⟨aB, 0, none⟩), .iface 83 (.pointer (some ⟨rB, 0, none⟩))] (RM rB A ws.length cap aB (nilAct (24 + 1 : Nat)) none none 0 0) (RdKR 24 rB ws aB) w := by
 refine enter (cx := CXS 12 [] w (Foot (RM rB A ws.length cap aB (nilAct (24 + 1 : Nat)) none none 0 0))) [(0, .pointer (some ⟨aB, 0, none⟩)), (1, .iface 83 (.pointer (some ⟨rB, 0, none⟩)))] tab_ok Tryz.func87 rfl rfl rfl rfl hm ?_
 conv => whnf
 (repeat ((first | (refine dr_tail 7 tab_ok mixed (by kernel_rfl) rfl rfl ?_) | refine stp (by (repeat constructor); first | done | fail) ?_ | refine stn (by (repeat constructor); first | done | fail) ?_ | refine sto (by (repeat constructor); first | done | fail) (by first | omega | (simp only; omega)) ?_ | refine .mk fun Ap capp => ?_ | refine ⟨?_, trivial⟩ | intro _); conv => whnf))
 refine ⟨naR_picks _ rfl _, ?_⟩
 conv => whnf
 (repeat ((first | refine stp (by (repeat constructor); first | done | fail) ?_ | refine stn (by (repeat constructor); first | done | fail) ?_ | refine sto (by (repeat constructor); first | done | fail) (by first | omega | (simp only; omega)) ?_ | refine .mk fun Ap capp => ?_ | refine ⟨?_, trivial⟩ | intro _); conv => whnf))
 refine ⟨_, _, mdR_picks _ rfl _, rpicks_ent, cl_mem (.cons .here (.cons .here .nil)) (fun w' hm' => rpicks_any rB A cap ws aB (nilAct (24 + 1 : Nat)) none 0 w' hc rfl hl hwl hm'.part (stb hm' (fun w'' hm'' => hs w'' hm''.fr)) (stb hm' (fun w'' hm'' => hw w'' hm''.fr))) ?_⟩
 rintro e m' (⟨rfl, hno⟩ | ⟨ps, A', n', cap', pA', pc', rfl, hps, rfl⟩)
 ·refine fin_panic (fun w' hm => ⟨_, .inl ⟨rfl, fun a ha hmay hak h => ?_⟩, hm⟩)
  refine hno a.picks ha.picksR ?_
  rw [h, restW, fateW, if_neg (by rw [hak]; decide), hak]
  simp [letters25]
 ·have hmem : ∀ p ∈ ps, ∃ s ∈ ws, Lib.parseIntB 64 s = .ok p := by
   intro p hp
   have : Lib.NumEnd.ok p ∈ ws.map (Lib.parseIntB 64) := by rw [hps]; exact List.mem_map.2 ⟨p, hp, rfl⟩
   obtain ⟨s, hs, he⟩ := List.mem_map.1 this
   exact ⟨s, hs, he⟩
  have hlen : ps.length = ws.length := by
   have := congrArg List.length hps
   simpa using this.symm
  conv => whnf
  refine fin0 rfl (fun w' hm => ?_) (by first | exact .inr rfl | exact .inl rfl)
  refine ⟨_, .inr ⟨A', n', cap', { nilAct (24 + 1 : Nat) with picks := ps }, none, pA', 0, pc', rfl, ?_, rfl, ?_, ?_, rfl⟩, ?_⟩
  ·refine { nilAct_ok (k := (24 + 1 : Nat)) (by omega) with picksR := fun p hp => ?_, picks := by show ps.length ≤ _; omega }
   obtain ⟨s, _, he⟩ := hmem p hp
   exact parse_range he
  ·intro w hn
   refine { numNil w (24 + 1 : Nat) with picks := fun p hp => ?_ }
   obtain ⟨s, hs, he⟩ := hmem p hp
   exact hn s hs p he
  ·intro a ha hmay hak h
   have h25 : a.kind = 25 := by rw [hak]; rfl
   have hr : ws = a.picks.map Lib.itoa := by
    rw [h, restW, fateW, if_neg (by omega), h25]
    simp [letters25]
   have hpk : ps = a.picks := by
    rw [hr, List.map_map] at hps
    have e1 : a.picks.map (Lib.parseIntB 64 ∘ Lib.itoa) = a.picks.map Lib.NumEnd.ok := List.map_congr_left fun p hp => parse_itoa p (ha.picksR p hp)
    rw [e1] at hps
    have inj : ∀ {l m : List Int}, l.map Lib.NumEnd.ok = m.map Lib.NumEnd.ok → l = m := by
     intro l
     induction l with
     | nil => intro m h; cases m with
      | nil => rfl
      | cons _ _ => cases h
     | cons x l ih => intro m h; cases m with
      | nil => cases h
      | cons y m =>
       simp only [List.map_cons, List.cons.injEq, Lib.NumEnd.ok.injEq] at h
       rw [h.1, ih h.2]
    exact (inj hps).symm
   obtain ⟨q1, q2, q3, q4, q5, q6, q7, q8, q9⟩ := may_bytes0 hmay (.inr h25)
   have hf := sameB_full hmay
   have hfk : a.fk = 0 ∧ a.keep = 0 := by
    unfold fullX at hf
    simp only at hf
    rw [if_pos h25, if_neg (by omega), h25] at hf
    rw [← hf]; exact ⟨rfl, rfl⟩
   obtain ⟨q10, q11⟩ := hfk
   rw [hpk]
   clear hf hmay ha h hr hak hpk hps
   cases a
   simp only at *
   subst q1 q2 q3 q4 q5 q6 q7 q8 q9 q10 q11 h25
   rfl
  ·exact (hm.nilRow 5 1).sel (.cons (.there .here) (.cons (.there .here) (.cons .here (.cons .here .nil))))

theorem rover_any (k : Nat) (hk : k < 25) (hm : MemOk w (Foot (RM rB A ws.length cap aB (nilAct (k + 1 : Nat)) none none 0 0)) (RM rB A ws.length cap aB (nilAct (k + 1 : Nat)) none none 0 0) w) (hs : Stb (RM rB A ws.length cap aB (nilAct (k + 1 : Nat)) none none 0 0) w (fun w => StrsIn w A ws)) (hw : Stb (RM rB A ws.length cap aB (nilAct (k + 1 : Nat)) none none 0 0) w (LWK k ws)) (hc : ws.length ≤ cap) (hl : ∀ s ∈ ws, s.length ≤ 1099511627776) (hwl : ws.length ≤ 1073741824) :
  Ctr Tryz.prog (overF k) [.pointer (some ⟨aB, 0, none⟩), .iface 83 (.pointer (some ⟨rB, 0, none⟩))] (RM rB A ws.length cap aB (nilAct (k + 1 : Nat)) none none 0 0) (RdKR k rB ws aB) w := by
 have hx : (nilAct (k + 1 : Nat)).Ok := nilAct_ok (by omega)
 match k, hk with
 | 0, _ => exact ov_rd rB A cap ws aB w 0 (by decide) _ false hm (rk1_any rB A cap ws aB _ none 0 w hc hx rfl hl hm hs (fun w h => (hw w h).1))
 | 1, _ => exact ov_rd rB A cap ws aB w 1 (by decide) _ false hm (rk2_any rB A cap ws aB _ none 0 w hc hx rfl hl hm hs (fun w h => (hw w h).1))
 | 2, _ => exact ov_rd rB A cap ws aB w 2 (by decide) _ false hm (rone_any rB A cap ws aB _ none 0 w hc hx rfl hl hm hs (fun w h => (hw w h).1))
 | 3, _ => exact ov_rd rB A cap ws aB w 3 (by decide) _ false hm (rspan_any rB A cap ws aB _ none 0 w hc hx rfl hl hm hs (fun w h => (hw w h).1))
 | 4, _ => exact ov_rd rB A cap ws aB w 4 (by decide) _ true hm (rk3_any rB A cap ws aB _ none 0 w hc hx rfl hl hm hs (fun w h => (hw w h).1))
 | 5, _ => exact ov_rd rB A cap ws aB w 5 (by decide) _ false hm (rspan_any rB A cap ws aB _ none 0 w hc hx rfl hl hm hs (fun w h => (hw w h).1))
 | 6, _ => exact ov_rd rB A cap ws aB w 6 (by decide) _ true hm (rk4_any rB A cap ws aB _ none 0 w hc hx rfl hl hm hs (fun w h => (hw w h).1))
 | 7, _ => exact ov_rd rB A cap ws aB w 7 (by decide) _ false hm (rone_any rB A cap ws aB _ none 0 w hc hx rfl hl hm hs (fun w h => (hw w h).1))
 | 8, _ => exact ov_rd rB A cap ws aB w 8 (by decide) _ false hm (rtwo_any rB A cap ws aB _ none 0 w hc hx rfl hl hm hs (fun w h => (hw w h).1))
 | 9, _ => exact ov_rd rB A cap ws aB w 9 (by decide) _ false hm (rtwo_any rB A cap ws aB _ none 0 w hc hx rfl hl hm hs (fun w h => (hw w h).1))
 | 10, _ => exact ov_rd rB A cap ws aB w 10 (by decide) _ false hm (rtwo_any rB A cap ws aB _ none 0 w hc hx rfl hl hm hs (fun w h => (hw w h).1))
 | 11, _ => exact ov_rd rB A cap ws aB w 11 (by decide) _ false hm (rk5_any rB A cap ws aB _ none 0 w hc hx rfl hl hm hs (fun w h => (hw w h).1))
 | 12, _ => exact ov_rd rB A cap ws aB w 12 (by decide) _ false hm (rtwo_any rB A cap ws aB _ none 0 w hc hx rfl hl hm hs (fun w h => (hw w h).1))
 | 13, _ => exact ov_rd rB A cap ws aB w 13 (by decide) _ false hm (rk6_any rB A cap ws aB _ none 0 w hc hx rfl hl hm hs (fun w h => (hw w h).1))
 | 14, _ => exact ov_rd rB A cap ws aB w 14 (by decide) _ false hm (rtwo_any rB A cap ws aB _ none 0 w hc hx rfl hl hm hs (fun w h => (hw w h).1))
 | 15, _ => exact ov_rd rB A cap ws aB w 15 (by decide) _ false hm (rk7_any rB A cap ws aB _ none 0 w hc hx rfl hl hm hs (fun w h => (hw w h).1))
 | 16, _ => exact ov_rd rB A cap ws aB w 16 (by decide) _ false hm (rk8_any rB A cap ws aB _ none 0 w hc hx rfl hl hm hs (fun w h => (hw w h).1))
 | 17, _ => exact ov_rd rB A cap ws aB w 17 (by decide) _ false hm (rone_any rB A cap ws aB _ none 0 w hc hx rfl hl hm hs (fun w h => (hw w h).1))
 | 18, _ => exact ov_rd rB A cap ws aB w 18 (by decide) _ false hm (rk9_any rB A cap ws aB _ none 0 w hc hx rfl hl hm hs (fun w h => (hw w h).1))
 | 19, _ => exact ov_rd rB A cap ws aB w 19 (by decide) _ false hm (rk10_any rB A cap ws aB _ none 0 w hc hx rfl hl hm hs (fun w h => (hw w h).1))
 | 20, _ => exact ov_rd rB A cap ws aB w 20 (by decide) _ false hm (rtwo_any rB A cap ws aB _ none 0 w hc hx rfl hl hm hs (fun w h => (hw w h).1))
 | 21, _ => exact ov_rd rB A cap ws aB w 21 (by decide) _ false hm (rone_any rB A cap ws aB _ none 0 w hc hx rfl hl hm hs (fun w h => (hw w h).1))
 | 22, _ => exact ov_rd rB A cap ws aB w 22 (by decide) _ false hm (rone_any rB A cap ws aB _ none 0 w hc hx rfl hl hm hs (fun w h => (hw w h).1))
 | 23, _ => exact rk11_any rB A cap ws aB w hm hs (fun w h => (hw w h).1) hc hl
 | 24, _ => exact rk12_any rB A cap ws aB w hm hs (fun w h => (hw w h).2 rfl) hc hl hwl
 | k + 25, h => exact absurd h (by omega)
end
end Go.Proofs.YtbfbjgakmnckbaaGreatDoor
namespace Go.Proofs.YtbfbjgakmnckbaaGreatDoor
open Go Go.RowKit Eng
attribute [local irreducible] Br Rn RnU Cl RdG CpG Ld Rd Lp Dr Oth Cut fin Fits Eng.Enters Md NA
abbrev WM (cB : Nat) (A : Option Addr) (n cap : Nat) : Mem := [.blk cB (.cells #[.slice A n cap] 68)]
theorem StrsIn.ld {cx : Cx} (hP : cx.P = Tryz.prog) (ht : cx.tab = tab) {A : Option Addr} {ws : List (List UInt8)} (m : Mem) (hn : 0 < ws.length) (h : ∀ w, MemOk cx.w0 cx.S m w → StrsIn w A ws) : Ld cx m 9 (.pointer (pl A 0)) (.string (Str (ws.getD 0 []))) := by
 unfold Ld
 intro w hm
 obtain ⟨b, o, rfl, hc⟩ := h w hm hn
 rw [hP]
 have := hc 0 (ws.getD 0 []) (by rw [List.getD, List.getElem?_eq_getElem hn]; rfl)
 exact run_load1 (tab_ok _ _ rfl) rfl this
set_option maxRecDepth 100000 in
theorem read1_any (k : Nat) (cB : Nat) (A : Option Addr) (cap : Nat) (ws : List (List UInt8)) (w : World) (hn : 0 < ws.length) (hpl : Pl A) (hm : MemOk w (Foot (WM cB A ws.length cap)) (WM cB A ws.length cap) w) (hs : Stb (WM cB A ws.length cap) w (fun w => StrsIn w A ws)) :
  Ctr Tryz.prog 38 [.agg (kindV k).toArray, .pointer (some ⟨cB, 0, none⟩)] (WM cB A ws.length cap) (fun e m' => e = .returned (.bool (decide (wordL (k + 1 : Nat) = ws.getD 0 []))) ∧ m' = WM cB A ws.length cap) w := by
 refine enter (cx := CXS 10 [] w (Foot (WM cB A ws.length cap))) [(0, .agg (kindV k).toArray), (1, .pointer (some ⟨cB, 0, none⟩))] tab_ok Tryz.func38 rfl rfl rfl rfl hm ?_
 conv => whnf
 intro kB
 conv => whnf
 refine dr_quiet tab_ok mixed (by kernel_rfl) rfl ?_; conv => whnf
 (repeat ((first | refine stp (by (repeat constructor); first | done | fail) ?_ | refine stn (by (repeat constructor); first | done | fail) ?_ | refine sto (by (repeat constructor); first | done | fail) (by first | omega | (simp only; omega)) ?_ | refine .mk fun Ap capp => ?_ | refine ⟨?_, trivial⟩ | intro _); conv => whnf))
 refine ⟨⟨by omega, by omega, hpl⟩, ?_⟩
 conv => whnf
 refine ⟨_, Ld.g (StrsIn.ld rfl rfl _ hn (fun w hm => hs w hm.fr)), ?_⟩
 conv => whnf
 (repeat ((first | refine stp (by (repeat constructor); first | done | fail) ?_ | refine stn (by (repeat constructor); first | done | fail) ?_ | refine sto (by (repeat constructor); first | done | fail) (by first | omega | (simp only; omega)) ?_ | refine .mk fun Ap capp => ?_ | refine ⟨?_, trivial⟩ | intro _); conv => whnf))
 refine fin1 rfl rfl (fun w' hm => ⟨_, ⟨?_, rfl⟩, hm.sel (by (repeat constructor); first | done | fail)⟩)
 refine ret_bool ?_
 rw [Bool.eq_iff_iff, decide_eq_true_eq, decide_eq_true_eq, Str.inj]
theorem read1_enters : Eng.Enters Tryz.prog 38 := enters_mk fun _ _ => by kernel_rfl
/-- Which kind has this word. -/
def KindIs (w0 : List UInt8) (r : Int) : Prop := (r = -1 ∧ ∀ k, k < 25 → wordL (k + 1 : Nat) ≠ w0) ∨ ∃ k : Nat, k < 25 ∧ r = k ∧ wordL (k + 1 : Nat) = w0
set_option maxRecDepth 100000 in
theorem indexF_any (kB cB : Nat) (A : Option Addr) (cap : Nat) (ws : List (List UInt8)) (w : World) (hn : 0 < ws.length) (hpl : Pl A) (hm : MemOk w (Foot (.blk kB (.cells kindsV.toArray 78) :: WM cB A ws.length cap)) (.blk kB (.cells kindsV.toArray 78) :: WM cB A ws.length cap) w) (hs : Stb (.blk kB (.cells kindsV.toArray 78) :: WM cB A ws.length cap) w (fun w => StrsIn w A ws)) :
  Ctr Tryz.prog 36 [.slice (some ⟨kB, 0, none⟩) 25 25, .func (.func 38) #[] #[.pointer (some ⟨cB, 0, none⟩)]] (.blk kB (.cells kindsV.toArray 78) :: WM cB A ws.length cap) (fun e m' => (∃ r, KindIs (ws.getD 0 []) r ∧ e = .returned (.int .i64 r)) ∧ m' = WM cB A ws.length cap) w := by
 refine enter (cx := CXS 19 [] w (Foot (.blk kB (.cells kindsV.toArray 78) :: WM cB A ws.length cap))) [(0, .slice (some ⟨kB, 0, none⟩) 25 25), (1, .func (.func 38) #[] #[.pointer (some ⟨cB, 0, none⟩)])] tab_ok Tryz.func36 rfl rfl rfl rfl hm ?_
 conv => whnf
 refine lp tab_ok (γ := Nat) (fun i => i ≤ 25 ∧ ∀ k, k < i → wordL (k + 1 : Nat) ≠ ws.getD 0 []) (fun i => [(8, .int .i64 i), (7, .int .i64 (25 : Nat)), (0, .slice (some ⟨kB, 0, none⟩) 25 25), (1, .func (.func 38) #[] #[.pointer (some ⟨cB, 0, none⟩)])]) (fun _ => _) (fun i => 25 - i) 0 ⟨by omega, fun k h => by omega⟩ ⟨rfl, rfl, rfl, rfl, trivial⟩ (SubM.refl _ _) ?_
 rintro i ⟨hi, hk⟩
 conv => whnf
 (repeat ((first | refine stp (by (repeat constructor); first | done | fail) ?_ | refine stn (by (repeat constructor); first | done | fail) ?_ | refine sto (by (repeat constructor); first | done | fail) (by first | omega | (simp only; omega)) ?_ | refine .mk fun Ap capp => ?_ | refine ⟨?_, trivial⟩ | intro _); conv => whnf))
 refine br_d (fun hlt => ?_) (fun hge => ?_)
 ·have hi25 : i < 25 := by omega
  conv => whnf
  (repeat ((first | refine stp (by (repeat constructor); first | done | fail) ?_ | refine stn (by (repeat constructor); first | done | fail) ?_ | refine sto (by (repeat constructor); first | done | fail) (by first | omega | (simp only; omega)) ?_ | refine .mk fun Ap capp => ?_ | refine ⟨?_, trivial⟩ | intro _); conv => whnf))
  refine ⟨⟨by omega, by omega, Pl.mk _ _⟩, ?_⟩
  conv => whnf
  refine rn_load (v := .agg (kindV i).toArray) ?_ ?_
  ·rw [Int.toNat_natCast]
   match i, hi25 with
   | 0, _ | 1, _ | 2, _ | 3, _ | 4, _ | 5, _ | 6, _ | 7, _ | 8, _ | 9, _ | 10, _ | 11, _ | 12, _ | 13, _ | 14, _ | 15, _ | 16, _ | 17, _ | 18, _ | 19, _ | 20, _ | 21, _ | 22, _ | 23, _ | 24, _ => exact ldN tab_ok .here rfl rfl rfl rfl
   | n + 25, h => exact absurd h (by omega)
  conv => whnf
  refine ⟨read1_enters, cl_mem (.cons (.there .here) .nil) (fun w' hm' => read1_any i cB A cap ws w' hn hpl hm'.part (stb hm' (fun w'' hm'' => hs w'' hm''.fr))) ?_⟩
  rintro e m' ⟨rfl, rfl⟩
  conv => whnf
  refine br_d (fun he => ?_) (fun hne => ?_)
  ·conv => whnf
   exact fin1 rfl rfl (fun w' hm => ⟨_, ⟨⟨_, .inr ⟨i, hi25, rfl, he⟩, rfl⟩, rfl⟩, hm.sel (by (repeat constructor); first | done | fail)⟩)
  ·conv => whnf
   (repeat ((first | refine stp (by (repeat constructor); first | done | fail) ?_ | refine stn (by (repeat constructor); first | done | fail) ?_ | refine sto (by (repeat constructor); first | done | fail) (by first | omega | (simp only; omega)) ?_ | refine .mk fun Ap capp => ?_ | refine ⟨?_, trivial⟩ | intro _); conv => whnf))
   exact ⟨i + 1, ⟨by omega, fun k hk' => (Nat.lt_succ_iff_lt_or_eq.1 hk').elim (hk k) (fun e => e ▸ hne)⟩, by omega, ⟨rfl, rfl, rfl, rfl, trivial⟩, SubM.sel (by (repeat constructor); first | done | fail)⟩
 ·conv => whnf
  exact fin1 rfl rfl (fun w' hm => ⟨_, ⟨⟨_, .inl ⟨rfl, fun k hk' => hk k (by omega)⟩, rfl⟩, rfl⟩, hm.sel (by (repeat constructor); first | done | fail)⟩)
theorem indexF_enters : Eng.Enters Tryz.prog 36 := enters_mk fun _ _ => by kernel_rfl
end Go.Proofs.YtbfbjgakmnckbaaGreatDoor
