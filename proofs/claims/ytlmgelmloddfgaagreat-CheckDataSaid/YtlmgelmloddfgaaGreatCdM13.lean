/- Part of a proof: contracts of the functions that the law reaches. No statement of the seat is proved here. -/
import Derived.Test.YtlmgelmloddfgaaGreatCdM12
import Derived.Test.YtlmgelmloddfgaaGreatShelf
import Derived.Shelf.SlSortCmp.NoneTotal
import Derived.Handy
import Derived.LoopTactic
import Derived.StillTailTactics
set_option linter.unusedVariables false
set_option linter.unusedSimpArgs false
set_option linter.unusedSectionVars false
set_option maxRecDepth 100000
namespace Go.Proofs.YtlmgelmloddfgaaGreat
open Go Go.RowKit Eng
abbrev evW (p:WP):List Ev:=zcy zdK zaQ za3 p
def zxq (bs:List UInt8) (A:Option Addr) (cap:Nat) (e:Ending) (m':Mem):Prop :=
 (zb7 bs=none∧e=.returned (.tuple #[.pointer none,.int .i64 180])∧m'=[]) ∨
 ∃ p s' g,zb7 bs=some p.h∧p.A=A∧p.cap=cap∧p.bs=bs∧p.c=clus p.h.bits∧p.Ok∧HOk p.h∧CmpR p (appL s0W (evW p)) s'∧WOk s' g∧e=.returned (.tuple #[.pointer (some ⟨p.wB,0,none⟩),.int .i64 0])∧m'=WM p s' g
theorem zkK {bs:List UInt8} {h:Hd} (hh:zb7 bs=some h):HOk h:=by
 unfold zb7 at hh
 split at hh
 ·cases hh
 ·split at hh
  ·rename_i h3
   injection hh with hh
   subst hh
   refine zgT ?_ h3.2.1
   show 0≤IntKind.u64.wrap _
   rw [IntKind.wrap_u64];omega
  ·cases hh
theorem zmi {bs:List UInt8} {h:Hd} (hh:zb7 bs=some h):mayH h=true:=by
 unfold zb7 at hh
 split at hh
 ·cases hh
 ·split at hh
  ·rename_i h3
   injection hh with hh
   subst hh
   exact h3.2.1
  ·cases hh
theorem zeD {cx:Cx} {m m1 m2:Mem} (h:m=m1) (hs:SubM cx m1 m2):SubM cx m m2:=h ▸ hs
theorem zx8 {cx:Cx} {id:Nat} {ops:Array Oper} {k:Exit→Env→Mem→Prop} {e:Env} {m m':Mem} (hs:SubM cx m m') (h:Dr cx id ops k e m'):Dr cx id ops k e m:=fun a w he hm=>h a w he (hs w hm)
abbrev wHD (dB:Nat) (h:Hd):Res:=.blk dB (.cells h.cells.toArray 34)
abbrev wEnd (A:Option Addr) (c:Nat) (bs:List UInt8) (dB wB:Nat):Env:=[(6,.pointer (some ⟨wB,0,none⟩)),(4,.pointer (some ⟨dB,0,none⟩)),(0,.slice A bs.length c)]
abbrev wNew (A:Option Addr) (c:Nat) (bs:List UInt8) (h:Hd) (wB hB fB:Nat):Res:=.blk wB (.cells (zbb ⟨A,c,bs,h,clus h.bits,0,wB,hB,fB⟩ s0W).toArray 68)
theorem zdW {cx:Cx} (A:Option Addr) (c:Nat) (bs:List UInt8) (h:Hd) (dB hB fB wB:Nat) (e:Env) (m:Mem) (he:Env.sub (wEnd A c bs dB wB) e) (hs:SubM cx m [wNew A c bs h wB hB fB,.blk hB (.map #[] 0),.blk fB (.map #[] 0),wHD dB h]) :
  ∃ g:Nat × Nat × Nat,True∧Env.sub (wEnd A c bs dB g.1) e∧SubM cx m [wNew A c bs h g.1 g.2.1 g.2.2,.blk g.2.1 (.map #[] 0),.blk g.2.2 (.map #[] 0),wHD dB h] :=
 ⟨(wB,hB,fB),trivial,he,hs⟩
attribute [local irreducible] Br Rn RnU Cl RdG CpG Ld Rd Lp Dr Oth Cut fin Fits Eng.Enters Md NA
theorem zjS:Eng.Enters Tryz.prog 25:=zab fun _ _=>by kernel_rfl
set_option maxHeartbeats 4000000 in
theorem zo0 (bs:List UInt8) (A:Option Addr) (c:Nat) (w:World) (hb:BytsIn w A bs) (hl:bs.length≤20000000) (hc:bs.length≤c) :
  Ctr Tryz.prog 25 [.slice A bs.length c] [] (zxq bs A c) w:=by
 refine enter (cx:=CXS 60 [] w (Foot [])) [(0,.slice A bs.length c)] zaa Tryz.func25 rfl rfl rfl rfl (MemOk.nil w _) ?_
 refine gGw ?_
 refine⟨zmb,zae _ (fun w' hm'=>zrW bs A c w' ((BytsIn.byts (cx:=CXS 60 [] w (Foot [])) hb zao).in_ hm') hc hl) ?_⟩
 cases hh:zb7 bs with
 | none =>
  refine gGw ?_;(repeat ((first|refine .mk fun Ap capp=>?_|intro _);(conv=>whnf);refine gG0 ?_))
  refine br_n (br_f rfl ?_)
  refine gGw ?_
  exact fin2 rfl rfl rfl (fun w' hm=>⟨_,.inl ⟨hh,rfl,rfl⟩,hm.sublist (List.nil_sublist _)⟩)
 | some h =>
  have hk:=zkK hh
  have hmay:=zmi hh
  refine gGw ?_;(repeat ((first|refine .mk fun Ap capp=>?_|intro _);(conv=>whnf);refine gG0 ?_))
  refine br_n (br_t rfl ?_)
  refine gGw ?_
  rename_i dB
  refine zx8 (m':=[.blk dB (.cells h.cells.toArray 34)]) SubM.sl ?_
  refine zbc (γ:=Nat × Nat × Nat) (Tr.hs [0,1,2] (.alts 3 (.alts 4 (.sq [5] (.hs [6] (.sq [7,8] .done))) (.alts 5 (.sq [4] (.hs [6] (.sq [7,8] .done))) .stop)) (.alts 4 (.alts 3 (.sq [5] (.hs [6] (.sq [7,8] .done))) (.alts 5 (.sq [3] (.hs [6] (.sq [7,8] .done))) .stop)) (.alts 5 (.alts 3 (.sq [4] (.hs [6] (.sq [7,8] .done))) (.alts 4 (.sq [3] (.hs [6] (.sq [7,8] .done))) .stop)) .stop))))
   [.blk dB (.cells h.cells.toArray 34)] zaa mixed (by kernel_rfl) rfl (fun _=>True)
   (fun g=>[(6,.pointer (some ⟨g.1,0,none⟩)),(4,.pointer (some ⟨dB,0,none⟩)),(0,.slice A bs.length c)])
   (fun g=>[.blk g.1 (.cells (zbb ⟨A,c,bs,h,clus h.bits,0,g.1,g.2.1,g.2.2⟩ s0W).toArray 68),.blk g.2.1 (.map #[] 0),.blk g.2.2 (.map #[] 0),.blk dB (.cells h.cells.toArray 34)]) SubM.sl ?_ ?_
  ·refine gGw ?_
   refine⟨?_,?_⟩
   ·skip
    refine⟨zcV,zae _ (fun w' _=>ze0 h w' hk.flags.1 hmay) ?_⟩
    refine gGs ?_
    conv=>whnf
    refine⟨?_,?_⟩
    ·skip
     intro hB
     refine gGs ?_
     conv=>whnf
     refine⟨?_,trivial⟩
     intro fB
     refine gGs ?_
     refine gGt ?_;(repeat ((first|refine .mk fun Ap capp=>?_|intro _);(conv=>whnf);refine gGS ?_))
     rename_i wB
     exact zdW A c bs h dB hB fB wB _ _ ⟨rfl,rfl,rfl,trivial⟩ (zeD (m1:=wNew A c bs h wB hB fB::.blk fB (.map #[] 0)::.blk hB (.map #[] 0)::[wHD dB h]) (by kernel_rfl) SubM.sl)
    conv=>whnf
    refine⟨?_,trivial⟩
    intro fB
    refine gGs ?_
    conv=>whnf
    refine⟨?_,trivial⟩
    intro hB
    refine gGs ?_
    refine gGt ?_;(repeat ((first|refine .mk fun Ap capp=>?_|intro _);(conv=>whnf);refine gGS ?_))
    rename_i wB
    exact zdW A c bs h dB hB fB wB _ _ ⟨rfl,rfl,rfl,trivial⟩ (zeD (m1:=wNew A c bs h wB hB fB::.blk hB (.map #[] 0)::.blk fB (.map #[] 0)::[wHD dB h]) (by kernel_rfl) SubM.sl)
   conv=>whnf
   refine⟨?_,?_⟩
   ·skip
    intro hB
    refine gGs ?_
    conv=>whnf
    refine⟨?_,?_⟩
    ·skip
     refine⟨zcV,zae _ (fun w' _=>ze0 h w' hk.flags.1 hmay) ?_⟩
     refine gGs ?_
     conv=>whnf
     refine⟨?_,trivial⟩
     intro fB
     refine gGs ?_
     refine gGt ?_;(repeat ((first|refine .mk fun Ap capp=>?_|intro _);(conv=>whnf);refine gGS ?_))
     rename_i wB
     exact zdW A c bs h dB hB fB wB _ _ ⟨rfl,rfl,rfl,trivial⟩ (zeD (m1:=wNew A c bs h wB hB fB::.blk fB (.map #[] 0)::.blk hB (.map #[] 0)::[wHD dB h]) (by kernel_rfl) SubM.sl)
    conv=>whnf
    refine⟨?_,trivial⟩
    intro fB
    refine gGs ?_
    conv=>whnf
    refine⟨?_,trivial⟩
    refine⟨zcV,zae _ (fun w' _=>ze0 h w' hk.flags.1 hmay) ?_⟩
    refine gGs ?_
    refine gGt ?_;(repeat ((first|refine .mk fun Ap capp=>?_|intro _);(conv=>whnf);refine gGS ?_))
    rename_i wB
    exact zdW A c bs h dB hB fB wB _ _ ⟨rfl,rfl,rfl,trivial⟩ (zeD (m1:=wNew A c bs h wB hB fB::.blk fB (.map #[] 0)::.blk hB (.map #[] 0)::[wHD dB h]) (by kernel_rfl) SubM.sl)
   conv=>whnf
   refine⟨?_,trivial⟩
   intro fB
   refine gGs ?_
   conv=>whnf
   refine⟨?_,?_⟩
   ·skip
    refine⟨zcV,zae _ (fun w' _=>ze0 h w' hk.flags.1 hmay) ?_⟩
    refine gGs ?_
    conv=>whnf
    refine⟨?_,trivial⟩
    intro hB
    refine gGs ?_
    refine gGt ?_;(repeat ((first|refine .mk fun Ap capp=>?_|intro _);(conv=>whnf);refine gGS ?_))
    rename_i wB
    exact zdW A c bs h dB hB fB wB _ _ ⟨rfl,rfl,rfl,trivial⟩ (zeD (m1:=wNew A c bs h wB hB fB::.blk hB (.map #[] 0)::.blk fB (.map #[] 0)::[wHD dB h]) (by kernel_rfl) SubM.sl)
   conv=>whnf
   refine⟨?_,trivial⟩
   intro hB
   refine gGs ?_
   conv=>whnf
   refine⟨?_,trivial⟩
   refine⟨zcV,zae _ (fun w' _=>ze0 h w' hk.flags.1 hmay) ?_⟩
   refine gGs ?_
   refine gGt ?_;(repeat ((first|refine .mk fun Ap capp=>?_|intro _);(conv=>whnf);refine gGS ?_))
   rename_i wB
   exact zdW A c bs h dB hB fB wB _ _ ⟨rfl,rfl,rfl,trivial⟩ (zeD (m1:=wNew A c bs h wB hB fB::.blk hB (.map #[] 0)::.blk fB (.map #[] 0)::[wHD dB h]) (by kernel_rfl) SubM.sl)
  ·rintro ⟨wB,hB,fB⟩ -
   have hcb:=zc4 hk.bits
   have hq0:0≤(bs.length:Int)/clus h.bits:=Int.ediv_nonneg (by omega) (by omega)
   have hq1:(bs.length:Int)/clus h.bits≤bs.length:=Int.ediv_le_self _ (by omega)
   have hq:IntKind.i64.wrap ((bs.length:Int).tdiv (clus h.bits))=(bs.length:Int)/clus h.bits:=by
    rw [Int.tdiv_eq_ediv_of_nonneg (by omega)];exact IntWalk.i64_in _ (by omega)
   obtain ⟨p,hpe⟩:∃ p:WP,p=⟨A,c,bs,h,clus h.bits,(bs.length:Int)/clus h.bits,wB,hB,fB⟩:=⟨_,rfl⟩
   have hp:p.Ok:=by subst hpe;exact⟨hl,hcb.1,hcb.2.1,hcb.2.2,⟨by have:=hk.counts;show 0≤h.counts;omega,hk.counts.2⟩,hk.countsLen,rfl⟩
   have hph:p.h=h:=by subst hpe;rfl
   have hpc:p.c=clus p.h.bits:=by subst hpe;rfl
   have hHL:HL p.h:=by rw [hph];exact⟨hk.snaps,hk.snapsAt,hk.snapsLen,hk.bitmaps,hk.bitmapsAt,hk.bitmapsLen⟩
   have hcap:p.bs.length≤p.cap:=by subst hpe;exact hc
   have hbits:9≤p.h.bits∧p.h.bits≤16:=by rw [hph];exact hk.bits
   have hBI:∀ (s:WS) (g:MG) (w':World),MemOk w (Foot []) (WM p s g++[wHD dB h]) w'→BIn p w':=by
    subst hpe
    intro s g w' hm' w2 hf
    refine (BytsIn.byts (cx:=CXS 60 [] w (Foot [])) (m:=[]) hb zao).in_ ((hm'.sublist (List.nil_sublist _)).step hf (fun b hb9 hT=>?_) (fun r hr=>by cases hr))
    exfalso
    have hown:∀ r∈WM ⟨A,c,bs,h,clus h.bits,(bs.length:Int)/clus h.bits,wB,hB,fB⟩ s g,∀ b,r.foot=some b→w.heap.size≤b:=fun r hr b hrb=>(hm'.own r (List.mem_append_left _ hr) b hrb).elim id (fun h=>absurd h (zao _))
    rcases hT with rfl|rfl|rfl
    ·exact absurd hb9 (Nat.not_lt.2 (hown _ (List.mem_cons_self ..) _ rfl))
    ·exact absurd hb9 (Nat.not_lt.2 (hown _ (List.mem_cons_of_mem _ (List.mem_cons_self ..)) _ rfl))
    ·exact absurd hb9 (Nat.not_lt.2 (hown _ (List.mem_cons_of_mem _ (List.mem_cons_of_mem _ (List.mem_cons_self ..))) _ rfl))
   have hg0:WOk s0W ⟨#[],0,#[],0⟩:=⟨MapIs.nil _ _,MapIs.nil _ _⟩
   refine gGw ?_
   rw [hq]
   refine gGw ?_
   refine⟨ziB,zcm (m1:=WM ⟨A,c,bs,h,clus h.bits,(bs.length:Int)/clus h.bits,wB,hB,fB⟩ s0W ⟨#[],0,#[],0⟩++[wHD dB h]) (zeD (by kernel_rfl) (SubM.refl _ _)) ?_⟩
   rw [← hpe]
   dsimp only
   obtain ⟨rfl,rfl,rfl⟩:p.wB=wB∧p.hB=hB∧p.fB=fB:=by subst hpe;exact⟨rfl,rfl,rfl⟩
   refine zac (m1:=WM p s0W ⟨#[],0,#[],0⟩) (by repeat constructor) (fun w' hm'=>zoD p s0W ⟨#[],0,#[],0⟩ 0 0 w' hg0 hm'.part) ?_
   rintro e m' ⟨rfl,g1,hg1,rfl⟩
   refine gGw ?_
   refine⟨zk3,zac (m1:=WM p (znn s0W 0 0) g1) (by repeat constructor) (fun w' hm'=>zqi p _ g1 w' hp hg1 (hBI _ _ w' hm') hm'.part) ?_⟩
   rintro e m' ⟨rfl,g2,hg2,rfl⟩
   refine gGw ?_
   refine⟨zhP,zac (m1:=WM p (zgW p (znn s0W 0 0)) g2) (by repeat constructor) (fun w' hm'=>znW zdK zje p _ g2 h.l1 h.l1len 24 w' hp hbits hpc hcap hg2 (hBI _ _ w' hm') (by have:=hk.l1;omega) (by have:=hk.l1len;omega) hm'.part) ?_⟩
   rintro e m' ⟨rfl,g3,hg3,rfl⟩
   refine gGw ?_
   refine⟨zlv,zac (m1:=WM p _ g3) (by repeat constructor) (fun w' hm'=>zq8 zdK zje zaQ zq7 p _ g3 w' hp hHL hbits hpc hcap hg3 (hBI _ _ w' hm') hm'.part) ?_⟩
   rintro e m' ⟨rfl,g4,hg4,rfl⟩
   refine gGw ?_
   refine⟨zmY,zac (m1:=WM p _ g4) (by repeat constructor) (fun w' hm'=>zug za3 zvu p _ g4 w' hp hHL hbits hcap hg4 (hBI _ _ w' hm') hm'.part) ?_⟩
   rintro e m' ⟨rfl,g5,hg5,rfl⟩
   refine gGw ?_
   refine⟨zjb,zac (m1:=WM p _ g5) (by repeat constructor) (fun w' hm'=>znA p _ g5 w' hp (by rw [hph];exact hk.order) hcap hg5 (hBI _ _ w' hm') hm'.part) ?_⟩
   rintro e m' ⟨rfl,s6,g6,hc6,hg6,rfl⟩
   refine gGw ?_
   refine fin2 rfl rfl rfl (fun w' hm=>⟨_,.inr ⟨p,s6,g6,?_,?_,?_,?_,hpc,hp,by rw [hph];exact hk,?_,hg6,rfl,rfl⟩,hm.sl⟩)
   ·rw [hph];exact hh
   ·rw [hpe]
   ·rw [hpe]
   ·rw [hpe]
   ·have e0:zlN za3 p (zhb zdK zaQ p (ziW zdK p (zgW p (znn s0W 0 0)) p.h.l1 p.h.l1len 24))=appL s0W (evW p):=by
     rw [zrp,zpp,zls,znz,← zbw,← zbw,← zbw]
     rfl
    rw [← e0,hph]
    exact hc6
end Go.Proofs.YtlmgelmloddfgaaGreat
namespace Go.Proofs.YtlmgelmloddfgaaGreat
open Go Go.RowKit Eng
theorem zqS {cx:Cx} {m m':Mem} {b t n s:Nat} {xs:List Value} (h:Out m (.blk b (.cells xs.toArray t)) m') (hn:xs.length=n*s) (hmax:Nat.ble n 9223372036854775807=true) (hs:0<s):SubM cx m (.row (some ⟨b,0,none⟩) n n t s xs::m'):=by
 intro w hm
 have hm1:=hm.perm h.perm
 have hb:w.heap[b]?=some (.cells xs.toArray t):=hm1.ok _ (List.mem_cons_self ..)
 have hown:=hm1.own _ (List.mem_cons_self ..) b rfl
 refine hm1.tail.cons ⟨hn,.inr ⟨b,n,xs.toArray,rfl,Nat.zero_le _,hb,Nat.le_refl _,by simp only [maxLen];exact Nat.le_of_ble_eq_true hmax,by simp [hn],by simp [← hn]⟩⟩ (fun b' hb'=>?_) (fun b' hb' s hs=>?_)
 ·cases hb';exact hown
 ·cases hb'
  exact (List.pairwise_cons.1 hm1.apart).1 s hs b rfl
theorem zxc {cx:Cx} {x y:Code} {k:KK} {e:Env} {m m1:Mem} (hs:SubM cx m m1) (h:Cut cx x y k e m1):Cut cx x y k e m:=fun a w he hm=>h a w he (hs w hm)
theorem zev:∀ (l:List Ev) (s:RS),(zaw s l).holds=s.holds++zax l
 | [],s=>by simp [zaw,zax]
 | e::l,s=>by
  have ih:=zev l (appR s e)
  show (zaw (appR s e) l).holds=_
  rw [ih]
  cases e<;>simp only [appR,zax,List.filterMap_cons,Ev.held]
  ·simp
  all_goals (split<;>rfl)
theorem zvz {A:Option Addr} {c:Nat} {bs:List UInt8} {h:Hd} (wB hB fB:Nat) (hl:bs.length≤20000000) (hk:HOk h):WP.Ok ⟨A,c,bs,h,clus h.bits,(bs.length:Int)/clus h.bits,wB,hB,fB⟩:=by
 have hcb:=zc4 hk.bits
 exact⟨hl,hcb.1,hcb.2.1,hcb.2.2,⟨by have:=hk.counts;show 0≤h.counts;omega,hk.counts.2⟩,hk.countsLen,rfl⟩
theorem zoy {n a l c:Int} (h:liOk n a l c=true) (hn:0<n):1≤l:=by
 unfold liOk at h
 rw [if_neg (by omega)] at h
 simp only [Bool.and_eq_true,decide_eq_true_eq,zgQ] at h
 omega
theorem zrL {h:Hd} (hm:mayH h=true):(0<h.snaps→1≤h.snapsLen)∧(0<h.bitmaps→1≤h.bitmapsLen):=by
 rw [zir] at hm
 simp only [Bool.and_eq_true] at hm
 obtain ⟨⟨⟨⟨⟨⟨⟨hA,h0⟩,h1⟩,h2⟩,h3⟩,h4⟩,h5⟩,h6⟩:=hm
 exact⟨zoy h4,zoy h5⟩
theorem zhR {p:WP} (hp:p.Ok) (hlb:p.bs.length≤20000):(zbd p).length≤30000000:=by
 have hnb:=n_bd hp
 have h1:=zb9 hp p.h.counts (p.h.countsLen*p.c) 40 0
 unfold zbd
 rw [List.length_append]
 split
 ·rename_i hw
  have hle:=zaI hp hw
  have h2:=zh9 (f:=fun i=>zbz p (p.h.counts+8*(i:Nat))) (M:=1) (p.h.countsLen*p.c/8).toNat (fun k=>by
   unfold zbz
   split
   ·simp
   ·exact zf6 hp _ _ _)
  omega
 ·simp;omega
def sW0:RS:=⟨[(0,1)],[],[],0,0,0,false⟩
def actR (s:RS) (b:Bool):RS:={ s with active:=b }
def zmQ (U:List UInt8→Int→Bool) (p:WP):RS :=
 zaw (actR (zaw (actR (zce p sW0) true) (zbB U p p.h.l1 p.h.l1len 24)) false) (zby U zaQ p++zdY za3 p)
theorem zmP (U:List UInt8→Int→Bool) (p:WP):(zmQ U p).holds=zax (zcy U zaQ za3 p):=by
 unfold zmQ
 rw [zev]
 show (zaw _ _).holds++_=_
 rw [zev]
 show ((zce p sW0).holds++_)++_=_
 unfold zce
 show ((zaw sW0 (zbd p)).holds++_)++_=_
 rw [zev]
 show (([((0:Int),(1:Int))]++zax (zbd p))++zax _)++zax _=_
 unfold zcy zax
 rw [List.filterMap_cons]
 simp only [Ev.held,List.filterMap_append,List.append_assoc,List.singleton_append]
 rfl
def zyr (U:List UInt8→Int→Bool) (bs:List UInt8) (A:Option Addr) (cap:Nat) (e:Ending) (m':Mem):Prop :=
 (zb7 bs=none∧e=.returned (.tuple #[.pointer none,.int .i64 180])∧m'=[]) ∨
 ∃ h wB g,zb7 bs=some h∧e=.returned (.tuple #[.pointer (some ⟨wB,0,none⟩),.int .i64 0])∧m'=rM ⟨A,cap,bs,h,clus h.bits,(bs.length:Int)/clus h.bits,wB,0,0⟩ (zmQ U ⟨A,cap,bs,h,clus h.bits,(bs.length:Int)/clus h.bits,wB,0,0⟩) g
attribute [local irreducible] Br Rn RnU Cl RdG CpG Ld Rd Lp Dr Oth Cut fin Fits Eng.Enters Md NA
theorem zlP:Eng.Enters Tryz.prog 31:=zab fun _ _=>by kernel_rfl
theorem zdM:Eng.Enters Tryz.prog 9:=zab fun _ _=>by kernel_rfl
set_option maxHeartbeats 2000000 in
theorem zru (U:List UInt8→Int→Bool) (hU:zda U) (bs:List UInt8) (A:Option Addr) (c:Nat) (w:World) (hb:BytsIn w A bs) (hl:bs.length≤20000) (hc:bs.length≤c) :
  Ctr Tryz.prog 31 [.slice A bs.length c] [] (zyr U bs A c) w:=by
 refine enter (cx:=⟨Tryz.prog,37,w,Foot [],tab,[],[],[4],[]⟩) [(0,.slice A bs.length c)] zaa Tryz.func31 rfl rfl rfl rfl (MemOk.nil w _) ?_
 refine gGw ?_
 refine⟨zdM,zae _ (fun w' hm'=>zh7 bs A c w' ((BytsIn.byts (cx:=CXS 37 [] w (Foot [])) hb zao).in_ hm') hc (by omega)) ?_⟩
 rw [zkJ]
 cases hh:zb7 bs with
 | none =>
  refine gGw ?_;(repeat ((first|refine .mk fun Ap capp=>?_|intro _);(conv=>whnf);refine gG0 ?_))
  refine br_n (br_f rfl ?_)
  refine gGw ?_
  exact fin2 rfl rfl rfl (fun w' hm=>⟨_,.inl ⟨hh,rfl,rfl⟩,hm.sublist (List.nil_sublist _)⟩)
 | some h =>
  have hk:=zkK hh
  have hmay:=zmi hh
  have hml:=zrL hmay
  have hcb:=zc4 hk.bits
  refine gGw ?_;(repeat ((first|refine .mk fun Ap capp=>?_|intro _);(conv=>whnf);refine gG0 ?_))
  refine br_n (br_t rfl ?_)
  refine gGw ?_
  rename_i hB
  refine zxc (m1:=[.blk hB (.cells h.cells.toArray 34)]) (zeD (by kernel_rfl) (SubM.refl _ _)) ?_
  refine cut (γ:=Nat × Nat) [] [] zaa (fun _=>True) (fun q=>[(6,.pointer (some ⟨q.1,0,none⟩)),(4,.pointer (some ⟨hB,0,none⟩)),(0,.slice A bs.length c)])
   (fun q=>.blk hB (.cells h.cells.toArray 34)::rM ⟨A,c,bs,h,clus h.bits,(bs.length:Int)/clus h.bits,q.1,0,0⟩ sW0 ⟨some ⟨q.2,0,none⟩,1,none,0,none,0⟩) ?_ ?_
  ·conv=>whnf
   (iterate 3 ((first|refine stp (by (repeat constructor);first|done|fail) ?_|refine stn (by (repeat constructor);first|done|fail) ?_|refine sto (by (repeat constructor);first|done|fail) (by first|omega|(simp only;omega)|decide) ?_|(refine zaO (And.intro (fun hg=>?_) ?_);focus (simp only [Bool.and_eq_true,Bool.or_eq_true,Bool.not_eq_true',decide_eq_true_eq,decide_eq_false_iff_not] at hg;first|omega|exact zaf (by omega)|exact zak (by omega)|assumption))|refine .mk fun Ap capp=>?_|refine⟨?_,trivial⟩|intro _);conv=>whnf))
   rename_i sB wB
   refine⟨(wB,sB),trivial,⟨rfl,rfl,rfl,trivial⟩,?_⟩
   refine zj4 (SubM.row0 (SubM.row0 (zj4 (zeD (m1:=[.blk wB (.cells (zif ⟨A,c,bs,h,clus h.bits,(bs.length:Int)/clus h.bits,wB,0,0⟩ sW0 ⟨some ⟨sB,0,none⟩,1,none,0,none,0⟩).toArray 81),.blk sB (.cells [Value.int .i64 0,Value.int .i64 1].toArray 83),.blk hB (.cells h.cells.toArray 34)]) (by kernel_rfl) (SubM.refl _ _)) (zqS (n:=1) (s:=2) (.there .here) rfl rfl (by decide))) 2 1) 61 4) ?_
   exact SubM.sl
  ·rintro ⟨wB,sB⟩ _
   obtain ⟨p,hpe⟩:∃ p:WP,p=⟨A,c,bs,h,clus h.bits,(bs.length:Int)/clus h.bits,wB,0,0⟩:=⟨_,rfl⟩
   have hp:p.Ok:=by subst hpe;exact zvz wB 0 0 (by omega) hk
   have hph:p.h=h:=by subst hpe;rfl
   have hpc:p.c=clus p.h.bits:=by subst hpe;rfl
   have hpb:p.bs=bs:=by subst hpe;rfl
   have hpA:p.A=A:=by subst hpe;rfl
   have hpw:p.wB=wB:=by subst hpe;rfl
   have hpn:p.cap=c:=by subst hpe;rfl
   have hHL:HL p.h:=by rw [hph];exact⟨hk.snaps,hk.snapsAt,hk.snapsLen,hk.bitmaps,hk.bitmapsAt,hk.bitmapsLen⟩
   have hbits:9≤p.h.bits∧p.h.bits≤16:=by rw [hph];exact hk.bits
   have hBI:∀ (s:RS) (g:RG) (r:Mem) (w':World),MemOk w (Foot []) (rM p s g++r) w'→BInR p s g w':=fun s g r w' hm' =>
    stb hm' (cx:=CXS 37 [] w (Foot [])) (fun w3 h3=>by rw [hpA,hpb];exact (BytsIn.byts (cx:=CXS 37 [] w (Foot [])) hb zao).in_ h3)
   dsimp only
   rw [← hpe,← hpw]
   have hend:∀ (g:RG),zyr U bs A c (.returned (.tuple #[.pointer (some ⟨p.wB,0,none⟩),.int .i64 0])) (rM p (zmQ U p) g):=fun g=>.inr ⟨h,wB,g,hh,by rw [hpw],by rw [hpe]⟩
   rw [← hpb] at hl hc
   rw [← hpn] at hc
   refine gGw ?_
   refine⟨zly,zac (m1:=rM p sW0 ⟨some ⟨sB,0,none⟩,1,none,0,none,0⟩) (by repeat constructor) (fun w' hm'=>zrf p sW0 _ w' hp hl (by omega) hpc (by decide) rfl (hBI _ _ _ w' hm') hm'.part) ?_⟩
   rintro e' m' ⟨rfl,g1,rfl⟩
   have hn1:=za1 (zbd p) sW0
   have hc1:=zhR hp hl
   have h01:sW0.len=1:=rfl
   have hN1:(actR (zce p sW0) true).len=(zaw sW0 (zbd p)).len:=rfl
   unfold zmQ at hend
   refine gGw ?_
   refine⟨zhY,zcm (m1:=rM p (actR (zce p sW0) true) g1) SubM.sl (zac (m1:=rM p (actR (zce p sW0) true) g1) (by repeat constructor) (fun w' hm'=>zn5 U hU p _ g1 h.l1 h.l1len 24 w' hp hl hc hbits hpc (by omega) (by have:=hk.l1;omega) (by have:=hk.l1len;omega) (hBI _ _ _ w' hm') hm'.part) ?_)⟩
   rintro e' m' ⟨rfl,g2,rfl⟩
   have hn2:=za1 (zbB U p h.l1 h.l1len 24) (actR (zce p sW0) true)
   have ht2:=zf5 (U:=U) hp hl h.l1 h.l1len 24
   rw [show p.h.l1=h.l1 by rw [hph],show p.h.l1len=h.l1len by rw [hph]] at hend
   generalize zaw (actR (zce p sW0) true) (zbB U p h.l1 h.l1len 24)=s2 at hend hn2 ⊢
   have hN2:(actR s2 false).len=s2.len:=rfl
   refine gGw ?_
   refine⟨zmU,zcm (m1:=rM p (actR s2 false) g2) SubM.sl (zac (m1:=rM p (actR s2 false) g2) (by repeat constructor) (fun w' hm'=>zuc U hU p _ g2 w' hp hHL (by rw [hph];exact hml.1) (by rw [hph];exact hml.2) hl hc hbits hpc (by omega) rfl (hBI _ _ _ w' hm') hm'.part) ?_)⟩
   rintro e' m' ⟨rfl,g3,rfl⟩
   refine gGw ?_
   exact fin2 rfl rfl rfl (fun w' hm=>⟨_,hend g3,hm⟩)
end Go.Proofs.YtlmgelmloddfgaaGreat
namespace Go.Proofs.YtlmgelmloddfgaaGreat
open Go Go.RowKit Eng
abbrev pOf (A:Option Addr) (cap:Nat) (bs:List UInt8) (h:Hd) (wB hB fB:Nat):WP:=⟨A,cap,bs,h,clus h.bits,(bs.length:Int)/clus h.bits,wB,hB,fB⟩
def howL (U:List UInt8→Int→Bool) (p:WP):List Int:=(List.range p.n.toNat).map fun k=>howF (zax (zcy U zaQ za3 p)) (k:Nat)
def HowR (U:List UInt8→Int→Bool) (bs:List UInt8) (A:Option Addr) (cap:Nat) (e:Ending) (m':Mem):Prop :=
 (zb7 bs=none∧e=.returned (.slice none 0 0)∧m'=[]) ∨
 ∃ h lA lc,zb7 bs=some h∧e=.returned (.slice lA (howL U (pOf A cap bs h 0 0 0)).length lc)∧m'=[IR lA lc (howL U (pOf A cap bs h 0 0 0)).length (howL U (pOf A cap bs h 0 0 0))]
theorem zme {H:List (Int × Int)} {k:Int} {j:Nat} {q:Int × Int} (h:H[j]?=some q):(H.take (j+1)).foldl (zaZ k) (0,0)=zaZ k ((H.take j).foldl (zaZ k) (0,0)) q:=by
 rw [List.take_add_one,h,List.foldl_append];rfl
theorem zmd (k:Int):∀ (H:List (Int × Int)) (st:Nat × Int),(st.1=0→st.2=0)→(H.foldl (zaZ k) st).1=0→(H.foldl (zaZ k) st).2=0
 | [],_,h=>h
 | q::H,st,h=>by
  refine zmd k H (zaZ k st q) ?_
  unfold zaZ
  split
  ·intro h0;simp at h0
  ·exact h
theorem zuP (k:Int) (H:List (Int × Int)):(H.foldl (zaZ k) (0,0)).1=0→(H.foldl (zaZ k) (0,0)).2=0:=zmd k H _ fun _=>rfl
theorem zoB (k:Int):∀ (H:List (Int × Int)) (st:Nat × Int),(H.foldl (zaZ k) st).1≤st.1+H.length
 | [],_=>Nat.le_refl _
 | q::H,st=>by
  have h1:=zoB k H (zaZ k st q)
  have h2:(zaZ k st q).1≤st.1+1:=by
   unfold zaZ
   split
   ·exact Nat.le_refl _
   ·omega
  show (H.foldl (zaZ k) (zaZ k st q)).1≤_
  rw [List.length_cons]
  omega
theorem zwT (k:Int) (H:List (Int × Int)):(H.foldl (zaZ k) (0,0)).1≤H.length:=by
 have:=zoB k H (0,0)
 omega
theorem zs1 (f:Nat→Int) (n i:Nat):(upL f n i).set i 0=upL f n i:=by
 apply List.ext_getElem
 ·rw [List.length_set]
 ·intro j h1 h2
  rw [List.getElem_set]
  split
  ·rename_i h
   subst h
   simp [upL]
  ·rfl
theorem setI {l:List Int} {i:Nat} {a b:Int}:zbu i (zaX (.int .i64 b)) ((l.set i a).map (.int .i64))=(l.set i b).map (Value.int .i64):=by
 show ((l.set i a).map (Value.int .i64)).set i (.int .i64 b)=_
 rw [List.map_set,List.map_set,List.set_set]
theorem znc (l:List Ev):(zdj l).length≤l.length:=List.length_filter_le _ _
theorem zpc {U:List UInt8→Int→Bool} {p:WP} (hp:p.Ok) (hlb:p.bs.length≤20000):(zby U zaQ p++zdY za3 p).length≤8000000000:=by
 have hnb:=n_bd hp
 rw [List.length_append]
 have h1:(zby U zaQ p).length≤20000001+64*90000000:=by
  unfold zby
  split
  ·simp
  ·rw [List.length_append]
   have h:=zb9 hp p.h.snapsAt p.h.snapsLen 56 0
   split
   ·split
    ·simp;omega
    ·rename_i l hl
     have h64:=(zjt hl).2.1
     have h2:=znc (l.flatMap fun x=>zbB U p x.l1 x.l1len p.h.snapsAt)
     have h3:=zmk (f:=fun x:Snp=>zbB U p x.l1 x.l1len p.h.snapsAt) (n:=90000000) (fun x=>zf5 hp hlb _ _ _) l
     have h4:l.length*90000000≤64*90000000:=Nat.mul_le_mul_right _ h64
     omega
   ·simp;omega
 have h2:(zdY za3 p).length≤20000001+64*20000001:=by
  unfold zdY
  split
  ·simp
  ·rw [List.length_append]
   have h:=zb9 hp p.h.bitmapsAt p.h.bitmapsLen 72 0
   split
   ·split
    ·simp;omega
    ·rename_i l hl
     have h64:=(zju hl).2.1
     have h3:=zmk (f:=fun x:Rwp=>if 0<x.len then tRun p x.at_ x.len p.h.bitmapsAt 0 else []) (n:=20000001) (fun x=>by split;exact (by have:=zb9 hp x.at_ x.len p.h.bitmapsAt 0;omega);simp) l
     have h4:l.length*20000001≤64*20000001:=Nat.mul_le_mul_right _ h64
     omega
   ·simp;omega
 omega
theorem zrd (U:List UInt8→Int→Bool) {p:WP} (hp:p.Ok) (hlb:p.bs.length≤20000):(zmQ U p).len≤10000000000:=by
 have h1:=za1 (zbd p) sW0
 have h2:=zhR hp hlb
 have h3:=za1 (zbB U p p.h.l1 p.h.l1len 24) (actR (zce p sW0) true)
 have h4:=zf5 (U:=U) hp hlb p.h.l1 p.h.l1len 24
 have h5:=za1 (zby U zaQ p++zdY za3 p) (actR (zaw (actR (zce p sW0) true) (zbB U p p.h.l1 p.h.l1len 24)) false)
 have h6:(actR (zce p sW0) true).len=(zaw sW0 (zbd p)).len:=rfl
 have h7:(actR (zaw (actR (zce p sW0) true) (zbB U p p.h.l1 p.h.l1len 24)) false).len=(zaw (actR (zce p sW0) true) (zbB U p p.h.l1 p.h.l1len 24)).len:=rfl
 have h8:sW0.len=1:=rfl
 have h9:=zpc (U:=U) hp hlb
 show (zaw _ _).len≤_
 omega
attribute [local irreducible] Br Rn RnU Cl RdG CpG Ld Rd Lp Dr Oth Cut fin Fits Eng.Enters Md NA
theorem zic:Eng.Enters Tryz.prog 8:=zab fun _ _=>by kernel_rfl
set_option maxHeartbeats 2000000 in
theorem zob (U:List UInt8→Int→Bool) (hU:zda U) (bs:List UInt8) (A:Option Addr) (c:Nat) (w:World) (hb:BytsIn w A bs) (hl:bs.length≤20000) (hc:bs.length≤c) :
  Ctr Tryz.prog 8 [.slice A bs.length c] [] (HowR U bs A c) w:=by
 refine enter (cx:=CXS 76 [] w (Foot [])) [(0,.slice A bs.length c)] zaa Tryz.func8 rfl rfl rfl rfl (MemOk.nil w _) ?_
 refine gGw ?_
 refine⟨zlP,zac (m1:=[]) .nil (fun w' hm'=>zru U hU bs A c w' ((BytsIn.byts (cx:=CXS 76 [] w (Foot [])) hb zao).in_ hm') hl hc) ?_⟩
 rintro e m' (⟨hh,rfl,rfl⟩|⟨h,wB,⟨hA,hc2,fA,fc,bA,bc⟩,hh,rfl,rfl⟩)
 ·refine gGw ?_
  refine br_t rfl ?_
  refine gGw ?_
  exact fin1 rfl rfl (fun w' hm=>⟨_,.inl ⟨hh,rfl,rfl⟩,hm.sublist (List.nil_sublist _)⟩)
 have hk:=zkK hh
 obtain ⟨p,hpe⟩:∃ p:WP,p=⟨A,c,bs,h,clus h.bits,(bs.length:Int)/clus h.bits,wB,0,0⟩:=⟨_,rfl⟩
 have hp:p.Ok:=by subst hpe;exact zvz wB 0 0 (by omega) hk
 have hph:p.h=h:=by subst hpe;rfl
 have hpc:p.c=clus p.h.bits:=by subst hpe;rfl
 have hpb:p.bs=bs:=by subst hpe;rfl
 have hpw:p.wB=wB:=by subst hpe;rfl
 have hbits:9≤p.h.bits∧p.h.bits≤16:=by rw [hph];exact hk.bits
 have hnb:=n_bd hp
 have hH:=zmP U p
 have hS:=zrd U hp (by rw [hpb];exact hl)
 obtain ⟨L,hL⟩:∃ L,L=(fun k:Nat=>howF (zax (zcy U zaQ za3 p)) (k:Nat)):=⟨_,rfl⟩
 have hLe:howL U (pOf A c bs h 0 0 0)=(List.range p.n.toNat).map L:=by rw [hL,hpe];rfl
 rw [← hH] at hL
 rw [← hpe,← hpw]
 generalize zmQ U p=S at hH hS hL ⊢
 have hHl:S.holds.length≤10000000000:=by unfold RS.len at hS;omega
 refine gGw ?_
 refine br_f rfl ?_
 refine gGw ?_
 refine⟨zeJ,zae _ (fun w' hm'=>zhZ p S _ w' hp (by omega) hpc (zdB (r:=[]) hm')) ?_⟩
 refine gGw ?_
 refine rn_w (fun ⟨w9,hw9⟩=>?_)
 refine zc6 zaa rfl rfl rfl rfl rfl (by omega) (by show 8*_≤_;omega) (by omega) (fun lB=>?_)
 refine gGw ?_
 have hex:∀ (j:Nat) (q:Int × Int),S.holds[j]?=some q→∃ b,hA=some ⟨b,0,none⟩:=fun j q hq=>by
  obtain ⟨b,e,_⟩:=zaV (hw9.ok (.row hA hc2 S.holds.length 83 2 (S.holds.flatMap hdC)) (by simp)) (zer (f:=hdC) (n:=2) (fun _=>rfl) hq (j:=0) rfl)
  exact⟨b,e⟩
 clear hw9
 obtain ⟨n,hn⟩:∃ n,n=p.n.toNat:=⟨_,rfl⟩
 rw [← hn] at hLe ⊢
 refine lp zaa (γ:=Nat) (fun i=>i≤n) (fun i=>[(6,.int .i64 (i:Int)),(5,.slice (some ⟨lB,0,none⟩) n n),(3,.pointer (some ⟨p.wB,0,none⟩))])
  (fun i=>IR (some ⟨lB,0,none⟩) n n (upL L n i)::rM p S ⟨hA,hc2,fA,fc,bA,bc⟩) (fun i=>n-i) 0 (Nat.zero_le _) ⟨rfl,rfl,rfl,trivial⟩ ?_ ?_
 ·show SubM _ _ (.row (some ⟨lB,0,none⟩) n n 3 1 ((upL L n 0).map (.int .i64))::rM p S ⟨hA,hc2,fA,fc,bA,bc⟩)
  rw [zs0,List.map_replicate]
  exact SubM.sl
 rintro i hi
 dsimp only
 refine gGw ?_
 refine br_d (fun hlt=>?_) (fun hge=>?_)
 ·have hLi:L i=((S.holds.take S.holds.length).foldl (zaZ i) (0,0)).2:=by rw [List.take_length,hL];rfl
  refine gGw ?_
  refine lp zaa (γ:=Nat) (fun j=>j≤S.holds.length) (fun j=>[(8,.int .i64 (j:Int)),(7,.int .i64 ((((S.holds.take j).foldl (zaZ i) (0,0)).1:Nat):Int)),(6,.int .i64 (i:Int)),(5,.slice (some ⟨lB,0,none⟩) n n),(3,.pointer (some ⟨p.wB,0,none⟩))])
   (fun j=>IR (some ⟨lB,0,none⟩) n n ((upL L n i).set i ((S.holds.take j).foldl (zaZ i) (0,0)).2)::rM p S ⟨hA,hc2,fA,fc,bA,bc⟩) (fun j=>S.holds.length-j) 0 (Nat.zero_le _) ⟨rfl,rfl,rfl,rfl,rfl,trivial⟩ ?_ ?_
  ·show SubM _ _ (IR (some ⟨lB,0,none⟩) n n ((upL L n i).set i 0)::rM p S ⟨hA,hc2,fA,fc,bA,bc⟩)
   rw [zs1]
   exact SubM.sl
  rintro j hj
  dsimp only
  refine gGw ?_
  refine br_d (fun hlj=>?_) (fun hgj=>?_)
  ·have hj':j<S.holds.length:=by omega
   have hq:=List.getElem?_eq_getElem hj'
   have hst:=zme (k:=i) hq
   have hz:=zuP i (S.holds.take j)
   have hcn:=zwT i (S.holds.take j)
   rw [List.length_take] at hcn
   obtain ⟨b9,rfl⟩:=hex _ _ hq
   have hlen:=zfL L n i
   generalize S.holds[j]=q at hq hst
   generalize (S.holds.take j).foldl (zaZ i) (0,0)=st at hst hz hcn ⊢
   obtain ⟨st1,st2⟩:=st
   simp only at hz hcn ⊢
   refine gGw ?_
   refine And.intro ⟨by omega,by omega,Pl.mk _ _⟩ ?_
   refine gGw ?_
   refine zaj (zeW (f:=hdC) (k:=2) zaa (by repeat constructor) (fun _=>rfl) rfl rfl hq (j:=0) rfl) ?_
   refine gGw ?_
   refine br_n (br_d (fun hc0=>?_) (fun hc0=>?_))
   ·rw [show zaZ i (st1,st2) q=(st1+1,if st1=0 then q.2 else if st2=q.2 then st2 else 0) from if_pos hc0] at hst
    refine gGw ?_
    refine br_d (fun h0=>?_) (fun h0=>?_)
    ·skip
     rw [if_pos (by omega)] at hst
     refine gGw ?_
     refine And.intro ⟨by omega,by omega,Pl.mk _ _⟩ ?_
     refine gGw ?_
     refine zaj (zeW (f:=hdC) (k:=2) zaa (by repeat constructor) (fun _=>rfl) rfl rfl hq (j:=1) rfl) ?_
     refine gGw ?_
     refine And.intro ⟨by omega,by omega,Pl.mk _ _⟩ ?_
     refine gGw ?_
     refine zaz (off:=i) (xs':=((upL L n i).set i (q.2)).map (.int .i64)) zaa rfl (by repeat constructor) rfl rfl (by show i+1≤n*1;omega) Nat.one_pos setI ?_
     refine gGw ?_
     refine⟨j+1,by omega,by omega,⟨congrArg (fun x=>some (Value.int .i64 x)) (by push_cast;rfl),?_,rfl,rfl,rfl,trivial⟩,?_⟩
     ·rw [hst]
      exact congrArg (fun x=>some (Value.int .i64 x)) (by push_cast;rfl)
     ·rw [hst]
      exact SubM.sl
    ·skip
     rw [if_neg (by omega)] at hst
     have hget:((upL L n i).set i st2).getD i 0=st2:=by rw [List.getD_eq_getElem?_getD,List.getElem?_set_self (by omega)];rfl
     conv=>whnf
     refine zar zaa mixed (by kernel_rfl) rfl ?_;conv=>whnf
     refine gG0 ?_
     refine And.intro ⟨by omega,by omega,Pl.mk _ _⟩ ?_
     refine gGw ?_
     refine⟨.int .i64 st2,Ld.g (ldR (j:=i) zaa (by repeat constructor) rfl rfl (by rw [zbm (by rw [List.length_set];omega),hget])),?_⟩
     refine gGw ?_
     refine And.intro ⟨by omega,by omega,Pl.mk _ _⟩ ?_
     refine gGw ?_
     refine⟨.int .i64 q.2,Ld.g (zeW (f:=hdC) (k:=2) zaa (by repeat constructor) (fun _=>rfl) rfl rfl hq (j:=1) rfl),?_⟩
     refine gGw ?_
     refine br_n (br_d (fun heq=>?_) (fun heq=>?_))
     ·rw [if_pos heq] at hst
      refine gGw ?_
      refine⟨j+1,by omega,by omega,⟨congrArg (fun x=>some (Value.int .i64 x)) (by push_cast;rfl),?_,rfl,rfl,rfl,trivial⟩,?_⟩
      ·rw [hst]
       exact congrArg (fun x=>some (Value.int .i64 x)) (by push_cast;rfl)
      ·rw [hst]
       exact SubM.sl
     ·rw [if_neg heq] at hst
      refine gGw ?_
      refine And.intro ⟨by omega,by omega,Pl.mk _ _⟩ ?_
      refine gGw ?_
      refine zaz (off:=i) (xs':=((upL L n i).set i (0)).map (.int .i64)) zaa rfl (by repeat constructor) rfl rfl (by show i+1≤n*1;omega) Nat.one_pos setI ?_
      refine gGw ?_
      refine⟨j+1,by omega,by omega,⟨congrArg (fun x=>some (Value.int .i64 x)) (by push_cast;rfl),?_,rfl,rfl,rfl,trivial⟩,?_⟩
      ·rw [hst]
       exact congrArg (fun x=>some (Value.int .i64 x)) (by push_cast;rfl)
      ·rw [hst]
       exact SubM.sl
   ·skip
    rw [show zaZ i (st1,st2) q=(st1,st2) from if_neg hc0] at hst
    refine gGw ?_
    refine⟨j+1,by omega,by omega,⟨congrArg (fun x=>some (Value.int .i64 x)) (by push_cast;rfl),?_,rfl,rfl,rfl,trivial⟩,?_⟩
    ·rw [hst];rfl
    ·rw [hst];exact SubM.sl
  ·have ej:j=S.holds.length:=by omega
   refine gGw ?_
   refine⟨i+1,by omega,by omega,⟨congrArg (fun x=>some (Value.int .i64 x)) (by push_cast;rfl),rfl,rfl,trivial⟩,?_⟩
   rw [ej,← hLi,zhH]
   exact SubM.sl
 ·have ei:i=n:=by omega
  subst ei
  refine gGw ?_
  refine fin1 rfl rfl (fun w' hm=>⟨_,.inr ⟨h,some ⟨lB,0,none⟩,i,hh,?_,rfl⟩,?_⟩)
  ·rw [hLe,List.length_map,List.length_range]
  ·rw [hLe,List.length_map,List.length_range,← zqJ L i]
   exact hm.sl
end Go.Proofs.YtlmgelmloddfgaaGreat
namespace Go.Proofs.YtlmgelmloddfgaaGreat
open Go Go.RowKit Eng
def zsB (n:Nat):ByteArray:=⟨(List.replicate n (0:UInt8)).toArray⟩
theorem zed (n:Nat):(zsB n).size=n:=by unfold zsB;show (List.replicate n (0:UInt8)).toArray.size=n;simp
theorem zvl:Tryz.prog.underlying 3=some (.int .i64):=by kernel_rfl
theorem znN (n:Nat):(((zsB n).extract 0 n).data.map fun b=>Value.int .u8 (b.toNat:Int))=Builtin.zeroCells (Value.int .u8 0).cells n:=by
 apply Array.ext'
 have h1:(zsB n).extract 0 n=zsB n:=by
  have:=ByteArray.extract_zero_size (b:=zsB n)
  rwa [zed] at this
 rw [h1]
 have hz:(Value.int IntKind.u8 0).cells=#[Value.int IntKind.u8 0]:=rfl
 rw [hz]
 unfold Builtin.zeroCells zsB
 simp only [Array.toList_map,List.map_replicate]
 apply List.ext_getElem
 ·simp
 ·intro i h3 h4
  simp [Nat.mod_one]
theorem zlf (n:Nat):((zsB n).data.map fun b=>Value.int .u8 (b.toNat:Int)).extract 0 n=Builtin.zeroCells (Value.int .u8 0).cells n:=by
 rw [← znN]
 have h1:(zsB n).extract 0 n=zsB n:=by
  have:=ByteArray.extract_zero_size (b:=zsB n)
  rwa [zed] at this
 rw [h1]
 apply Array.ext'
 have hl:(zsB n).data.size=n:=zed n
 simp only [Array.toList_extract,Array.toList_map]
 rw [List.extract_eq_take_drop]
 simp [hl]
 exact List.take_of_length_le (by rw [List.length_map,Array.length_toList,hl];exact Nat.le_refl _)
theorem zqz (n:Nat):List.take n (List.map (fun b=>Value.int .u8 (b.toNat:Int)) (zsB n).data.toList)=(Builtin.zeroCells (Value.int .u8 0).cells n).toList:=by
 rw [← zlf]
 simp [List.extract_eq_take_drop]
theorem zqA {w:World} {ty n cap m:Nat} {A:Option Addr} (h0:0<m) (hb:n+m≤140737488355328) :
  (Builtin.append_ #[22,3] ty #[.slice A n cap,.int .i64 (m:Int)]).run Tryz.prog w=(Builtin.append_ #[22,9] ty #[.slice A n cap,.string (zsB m)]).run Tryz.prog w:=by
 obtain ⟨i0,hi,hz0,hz1,hz2⟩:=info_parts zuO
 have hw:IntKind.i64.wrap (m:Int)=m:=IntWalk.i64_in _ (by omega)
 have hne:¬ ((m:Int)<0):=by omega
 have hm0:m≠0:=by omega
 have h48:¬ (281474976710656<(m:Int)):=by omega
 have hcells:=znN m
 have hc2:=zlf m
 have hc3:=zqz m
 by_cases hr:n+m≤cap
 ·rcases A with _|a<;>simp [Builtin.append_,run_underlying zdv,run_underlying zjf,run_underlying zvl,sizeOf,typeInfo,zeroValue,hi,hz0,hz1,hz2,asInt,asIntOf,hw,hne,hm0,h48,Builtin.lenOf,zed,hr,Builtin.firstCells,hcells,hc2,hc3]
 ·have h63:¬ (9223372036854775807<((n:Int)+(m:Int))):=by omega
  have hfit:¬ (281474976710656<Builtin.nextslicecap (n+m) cap):=by
   have:=growslice_fits (need:=n+m) (old:=cap) (bytes:=1) (by omega) (by omega)
   omega
  rcases A with _|a<;>simp [Builtin.append_,run_underlying zdv,run_underlying zjf,run_underlying zvl,sizeOf,typeInfo,zeroValue,hi,hz0,hz1,hz2,asInt,asIntOf,hw,hne,hm0,h48,Builtin.lenOf,zed,hr,Builtin.firstCells,hcells,h63,hfit,hc2,hc3]
theorem zwB {cx:Cx} (hP:cx.P=Tryz.prog) {m m':Mem} {ty n cap k:Nat} {A:Option Addr} {xs:List Value} {K:Value→Mem→Prop} (hu:Out m (.row A cap n 5 1 xs) m') (h0:0<k) (hb:n+k≤140737488355328)
  (hK:∀ A' cap',K (.slice A' (n+k) cap') (.row A' cap' (n+k) 5 1 (xs++(zah (List.replicate k (0:UInt8))).map (Value.int .u8))::m')):Rn cx m (Builtin.append_ #[22,3] ty #[.slice A n cap,.int .i64 (k:Int)]) K:=by
 have h:=zib (s:=zsB k) (K:=K) (ty:=ty) hP hu (by rw [zed];exact hb) (by
  rw [zed]
  intro A' cap'
  have:=hK A' cap'
  rw [zek]
  exact this)
 intro w hm
 obtain ⟨v,w',m2,hr,h2⟩:=h w hm
 exact⟨v,w',m2,by rw [hP] at hr ⊢;rw [zqA h0 hb];exact hr,h2⟩
end Go.Proofs.YtlmgelmloddfgaaGreat

namespace Go.Proofs.YtlmgelmloddfgaaGreat
open Go Go.RowKit Eng
def orI (a b:Int):Int:=if a=0 then b else a
def znC (x y:Fi):Int:=orI (Lib.compareInt x.at_ y.at_) (Lib.compareInt x.kind y.kind)
instance:Inhabited Fi:=⟨⟨0,0,0,0⟩⟩
abbrev Fi.cells (x:Fi):List Value:=[.int .i64 x.kind,.int .i64 x.at_,.int .u64 x.want,.int .u64 x.have_]
set_option maxHeartbeats 1000000 in
theorem zuB (a b:Int) (B:Nat) (W:World) (h0:W.cell? ⟨B,0,none⟩=some (.int .i64 a)) (h1:W.cell? ⟨B,1,none⟩=some (.int .i64 b)) :
  Calls Tryz.prog 28 #[.slice (some ⟨B,0,none⟩) 2 2] W fun e w'=>e=.returned (.int .i64 (orI a b))∧w'=W:=by
 go_enter Tryz.func28,Tryz.ntmps28
 go_wp2
 go_rounds 3
 ·have ha:(a != 0)=true:=by assumption
  have ha:a≠0:=by simpa using ha
  go_ret
  refine⟨?_,rfl⟩
  show Ending.returned (.int .i64 a)=_
  rw [orI,if_neg ha]
 ·have ha:(a != 0)=false:=by assumption
  have ha:a=0:=by simpa using ha
  go_ret
  refine⟨?_,rfl⟩
  show Ending.returned (.int .i64 b)=_
  rw [orI,if_pos ha]
 ·have ha:(a != 0)=false:=by assumption
  have ha:a=0:=by simpa using ha
  have hb:(b != 0)=false:=by assumption
  have hb:b=0:=by simpa using hb
  go_ret
  refine⟨?_,rfl⟩
  show Ending.returned (.int .i64 0)=_
  rw [orI,if_pos ha,hb]
set_option maxHeartbeats 1000000 in
theorem znB (x y:Fi) (W:World):Calls Tryz.prog 27 #[.agg x.cells.toArray,.agg y.cells.toArray] W fun e w'=>e=.returned (.int .i64 (znC x y))∧∃ q os',w'=Sort.grow (W.drewN q) os':=by
 have h1:=fun W'=>AnyG.cmp_Compare_int Tryz.cmpI64 x.at_ y.at_ W'
 change ∀ W',Calls Tryz.prog 29 _ _ _ at h1
 have h2:=fun W'=>AnyG.cmp_Compare_int Tryz.cmpKind x.kind y.kind W'
 change ∀ W',Calls Tryz.prog 30 _ _ _ at h2
 unfold znC
 generalize Lib.compareInt x.at_ y.at_=r1 at h1 ⊢
 generalize Lib.compareInt x.kind y.kind=r2 at h2 ⊢
 go_enter Tryz.func27,Tryz.ntmps27
 go_wp2
 refine wp_region_still_tail 10 mixed (by kernel_rfl) ?_
 obtain ⟨w1,hw1⟩:∃ w1,w1=W.alloc (.cells x.cells.toArray 61):=⟨_,rfl⟩
 obtain ⟨w3,hw3⟩:∃ w3,w3=(w1.alloc (.cells y.cells.toArray 61)).drew:=⟨_,rfl⟩
 have hz:w1.heap.size=W.heap.size+1:=by rw [hw1];simp
 have hx:w3.heap[W.heap.size]?=some (.cells x.cells.toArray 61):=by
  rw [hw3]
  show (w1.alloc _).heap[W.heap.size]?=_
  rw [Below.heap_alloc w1 _ _ (by omega),hw1]
  exact heap_alloc_new W _
 have hy:w3.heap[W.heap.size+1]?=some (.cells y.cells.toArray 61):=by
  rw [hw3,← hz]
  exact heap_alloc_new w1 _
 have c0:w3.cell? ⟨W.heap.size,0,none⟩=some (.int .i64 x.kind):=zaM hx 0
 have c1:w3.cell? ⟨W.heap.size,1,none⟩=some (.int .i64 x.at_):=zaM hx 1
 have d0:w3.cell? ⟨W.heap.size+1,0,none⟩=some (.int .i64 y.kind):=zaM hy 0
 have d1:w3.cell? ⟨W.heap.size+1,1,none⟩=some (.int .i64 y.at_):=zaM hy 1
 have hend:∀ o,∃ q os',w3.alloc o=Sort.grow (W.drewN q) os':=fun o=>⟨1,#[.cells x.cells.toArray 61,.cells y.cells.toArray 61,o],by
  subst hw3 hw1
  show ({ W with heap:=((W.heap.push _).push _).push o,drawn:=W.drawn+1 }:World)={ W with heap:=W.heap++#[_,_,o],drawn:=W.drawn+1 }
  congr 1⟩
 change wpStill _ _ ((W.alloc (.cells x.cells.toArray 61)).alloc (.cells y.cells.toArray 61)).drew (fun a'=>wpList _ _ _ _ a' ((W.alloc (.cells x.cells.toArray 61)).alloc (.cells y.cells.toArray 61)).drew) _ _
 rw [← hw1,← hw3]
 clear hw3 hx hy
 simp only [List.take_succ_cons,List.take_zero,List.drop_succ_cons,List.drop_zero]
 repeat still_step
 still_call (h1 _)
 repeat still_step
 still_call (h2 _)
 refine wpStill_nil ?_
 go_wp2_with (go_at_call 28;refine (zuB r1 r2 _ _ ?_ ?_).mono ?_)
 ·exact zaM (heap_alloc_new w3 _) 0
 ·exact zaM (heap_alloc_new w3 _) 1
 ·rintro e w' ⟨rfl,rfl⟩
  go_wp2
  go_ret
  exact⟨rfl,hend _⟩
/-! ## The row -/
theorem zoL {α:Type} {f:α→List Value} {k:Nat} (hk:∀ x,(f x).length=k) (h0:0<k):∀ (L:List α) (t:Nat),(L.flatMap f)[t]?=(L[t/k]?).bind fun x=>(f x)[t%k]?
 | [],t=>by simp
 | y::L,t=>by
  rw [List.flatMap_cons]
  by_cases h:t<k
  ·rw [List.getElem?_append_left (by rw [hk];exact h),Nat.div_eq_of_lt h,Nat.mod_eq_of_lt h];rfl
  ·rw [List.getElem?_append_right (by rw [hk];omega),hk,zoL hk h0 L (t-k)]
   have e1:t/k=(t-k)/k+1:=by rw [Nat.div_eq_sub_div h0 (by omega)]
   have e2:(t-k)%k=t%k:=(Nat.mod_eq_sub_mod (by omega)).symm
   rw [e1,e2];rfl
theorem zjG (d:Array Fi):(Go.Sort.flatK Fi.cells 4 d).toList=d.toList.flatMap Fi.cells:=by
 have hs:(Go.Sort.flatK Fi.cells 4 d).toList.length=d.size*4:=by simp
 apply List.ext_getElem?
 intro t
 rw [zoL (k:=4) (fun _=>rfl) (by decide)]
 by_cases h:t<d.size*4
 ·have h4:t/4<d.size:=by omega
  have e:=Go.Sort.get_flatK Fi.cells 4 d t h
  rw [Array.getElem?_toList,Array.getElem?_eq_getElem (by simpa using h)]
  rw [getElem!_pos (Go.Sort.flatK Fi.cells 4 d) t (by simpa using h)] at e
  rw [e,Array.getElem?_toList,Array.getElem?_eq_getElem h4,getElem!_pos d (t/4) h4]
  simp only [Option.bind_some]
  have h5:t%4<(Fi.cells d[t/4]).length:=by show t%4<4;omega
  rw [List.getElem?_eq_getElem h5,getElem!_pos (Fi.cells d[t/4]) (t%4) h5]
 ·rw [List.getElem?_eq_none (by omega),List.getElem?_eq_none (by rw [Array.length_toList];omega)];rfl
theorem znF {w:World} {b:Nat} {cur:Array Value} {t:Nat} {fr:Nat × Nat} (h:w.heap[b]?=some (.cells cur t fr)) (off:Nat):w.cell? ⟨b,off,none⟩=cur[off]?:=by
 simp [World.cell?,h]
theorem zrY {w:World} {b t cap:Nat} {cur:Array Value} {L:List Fi} (h:w.heap[b]?=some (.cells cur t (0,0))) (hc:cur.size=cap*4) (hL:L.length≤cap) (ht:cur.toList.take (L.length*4)=L.flatMap Fi.cells):Go.Sort.HoldsK Fi.cells 4 w b 0 L.toArray:=by
 intro j hj
 have hj':j<L.length*4:=by simpa using hj
 refine⟨?_,by simp [World.frozen?,h]⟩
 rw [znF h,Nat.zero_add]
 have e1:(Go.Sort.flatK Fi.cells 4 L.toArray).toList[j]?=cur.toList[j]?:=by
  rw [zjG,← ht,List.getElem?_take,if_pos hj']
 rw [Array.getElem?_toList,Array.getElem?_toList] at e1
 rw [← e1,Array.getElem?_eq_getElem hj]
 show _=some ((Go.Sort.flatK Fi.cells 4 L.toArray)[j]!)
 rw [getElem!_pos (Go.Sort.flatK Fi.cells 4 L.toArray) j hj]
theorem zpY {w:World} {b t m cap:Nat} {cur:Array Value} {d:Array Fi} {os:Array Obj} (h:w.heap[b]?=some (.cells cur t (0,0))) (hc:cur.size=cap*4) (hd:d.size≤cap) :
  ∃ cur',(Go.Proofs.sortWorldK Fi.cells 4 w b 0 m d os).heap[b]?=some (.cells cur' t (0,0))∧cur'.size=cap*4∧cur'.toList.take (d.size*4)=d.toList.flatMap Fi.cells:=by
 have hb:b<w.heap.size:=(Array.getElem?_eq_some_iff.1 h).1
 refine⟨Go.Sort.putCells id 0 (Go.Sort.flatK Fi.cells 4 d) cur,?_,?_,?_⟩
 ·show (w.heap.modify b (Go.Sort.onCells _)++os)[b]?=_
  rw [Array.getElem?_append_left (by simpa using hb),Array.getElem?_modify,if_pos rfl,h]
  rfl
 ·simp [Go.Sort.putCells,hc]
 ·rw [← zjG]
  apply List.ext_getElem?
  intro j
  rw [List.getElem?_take]
  by_cases hj:j<d.size*4
  ·have hjc:j<cur.size:=by omega
   have hjf:j<(Go.Sort.flatK Fi.cells 4 d).size:=by simpa using hj
   rw [if_pos hj,Array.getElem?_toList,Array.getElem?_toList]
   unfold Go.Sort.putCells
   rw [Array.getElem?_mapIdx,Array.getElem?_eq_getElem hjc,Option.map_some,if_pos ⟨Nat.zero_le _,by omega⟩,Nat.sub_zero,Array.getElem?_eq_getElem hjf,getElem!_pos (Go.Sort.flatK Fi.cells 4 d) j hjf]
   rfl
  ·rw [if_neg hj,List.getElem?_eq_none (by simpa using hj)]
theorem fr_sortw {w:World} {b m:Nat} {d:Array Fi} {os:Array Obj}:Fr (fun k=>k=b) w (Go.Proofs.sortWorldK Fi.cells 4 w b 0 m d os):=by
 refine⟨rfl,rfl,rfl,?_,fun k hk hs=>?_⟩
 ·show w.heap.size≤(w.heap.modify b _++os).size
  simp
 ·show (w.heap.modify b (Go.Sort.onCells _)++os)[k]?=_
  rw [Array.getElem?_append_left (by simpa using hk),Array.getElem?_modify,if_neg (fun e=>hs e.symm)]
/-! ## The order -/
theorem zow (x y:Fi):Go.Proofs.ltOf znC x y=true↔ltFi x y:=by
 unfold Go.Proofs.ltOf znC orI Lib.compareInt ltFi
 rw [decide_eq_true_eq]
 by_cases h1:x.at_<y.at_
 ·simp [h1]
 ·by_cases h2:y.at_<x.at_
  ·have:x.at_≠y.at_:=by omega
   simp [h1,h2,this]
  ·have h3:x.at_=y.at_:=by omega
   by_cases h4:x.kind<y.kind
   ·simp [h1,h2,h3,h4]
   ·by_cases h5:y.kind<x.kind<;>simp [h1,h2,h3,h4,h5]
theorem ltFi_no {x y:Fi}:Go.Proofs.ltOf znC x y=false↔¬ ltFi x y:=by
 rw [← zow];simp
theorem swoFi:Go.Sort.SWO (Go.Proofs.ltOf znC) where
 irrefl x:=ltFi_no.2 (ltFi.irr x)
 trans x y z h1 h2:=by rw [zow] at *;unfold ltFi at *;omega
 ntrans x y z h1 h2:=by rw [ltFi_no] at *;unfold ltFi at *;omega
abbrev FR (A:Option Addr) (cap:Nat) (L:List Fi):Res:=.row A cap L.length 61 4 (L.flatMap Fi.cells)
theorem zka:Eng.Enters Tryz.prog 26:=zab fun _ _=>by kernel_rfl
theorem zpm (L:List Fi) (A:Option Addr) (cap:Nat) (w:World) (hl:L.length<4611686018427387904) (hm:MemOk w (Foot [FR A cap L]) [FR A cap L] w) :
  Ctr Tryz.prog 26 [.slice A L.length cap,.func (.func 27) #[] #[]] [FR A cap L]
   (fun e m'=>e=.returned (.tuple #[])∧∃ L':List Fi,L'.Perm L∧L'.Pairwise (fun x y=>¬ ltFi y x)∧m'=[FR A cap L']) w:=by
 have hok:w.ownsRow 0 61 4 (.slice A L.length cap) L.length (L.flatMap Fi.cells):=hm.ok _ (List.mem_singleton.2 rfl)
 rcases hok.2 with ⟨hv,hn⟩|⟨b,cap',cur,hv,_,hb,hle,hmax,hsz,htk⟩
 ·injection hv with h1 _ h3
  subst h1 h3
  obtain rfl:L=[]:=List.eq_nil_of_length_eq_zero hn
  have h:=AnyF.slices_SortFunc_none Tryz.sortFind none 0 (.func (.func 27) #[] #[]) w
  refine Calls.mono (h:Calls Tryz.prog 26 _ w _) ?_
  rintro e w' ⟨rfl,rfl⟩
  exact⟨_,⟨rfl,[],List.Perm.refl _,List.Pairwise.nil,rfl⟩,hm⟩
 ·injection hv with h1 _ h3
  subst h1 h3
  have hbs:b<w.heap.size:=(Array.getElem?_eq_some_iff.1 hb).1
  have h:=AnyQ.slices_SortFunc Tryz.sortFind 4 (fun w=>by kernel_rfl) (fun w=>by kernel_rfl) Fi.cells (fun _=>rfl) (fun x v hv=>by simp only [Fi.cells,List.mem_cons,List.not_mem_nil,or_false] at hv;rcases hv with rfl|rfl|rfl|rfl<;>rfl) znC swoFi
   27 #[] b 0 cap L.toArray w (fun args w=>by kernel_rfl) (fun _ _ _ _ x y=>znB x y _) (zrY hb hsz hle htk) hbs hl
  refine Calls.mono (h:Calls Tryz.prog 26 _ w _) ?_
  rintro e w' ⟨rfl,d',n,os,hp,hs,rfl⟩
  have hds:d'.size=L.length:=hp.1
  have hperm:d'.toList.Perm L:=by
   have h3:=hp.2.2
   have e1:d'.extract 0 L.toArray.size=d':=by rw [show L.toArray.size=d'.size from hds.symm];simp
   have e2:L.toArray.extract 0 L.toArray.size=L.toArray:=by simp
   rw [e1,e2] at h3
   exact h3
  obtain ⟨cur',q1,q2,q3⟩:=zpY (m:=n) (d:=d') (os:=os) hb hsz (by omega)
  refine⟨[FR (some ⟨b,0,none⟩) cap d'.toList],⟨rfl,d'.toList,hperm,?_,rfl⟩,?_,?_,?_,?_⟩
  ·rw [List.pairwise_iff_getElem]
   intro i j hi hj hij
   have hi':i<d'.size:=by simpa using hi
   have hj':j<d'.size:=by simpa using hj
   have:=hs i j (Nat.zero_le _) hij (by show j<L.length;omega)
   rw [getElem!_pos d' i hi',getElem!_pos d' j hj',ltFi_no] at this
   exact this
  ·exact fr_sortw.mono (fun k _ hk=>⟨_,List.mem_singleton.2 rfl,by rw [hk];rfl⟩)
  ·intro r hr
   rw [List.mem_singleton] at hr
   subst hr
   have hle':d'.toList.length≤cap:=by rw [Array.length_toList];omega
   refine⟨by rw [zhz (f:=Fi.cells) (n:=4) (fun _=>rfl)],.inr ⟨b,cap,cur',rfl,Nat.zero_le _,q1,hle',hmax,q2,?_⟩⟩
   rw [Array.length_toList];exact q3
  ·intro r hr k hk
   rw [List.mem_singleton] at hr
   subst hr
   exact .inr ⟨_,List.mem_singleton.2 rfl,hk⟩
  ·exact List.pairwise_singleton _ _
end Go.Proofs.YtlmgelmloddfgaaGreat
namespace Go.Proofs.YtlmgelmloddfgaaGreat
open Go Go.RowKit Eng
section
variable {cx:Cx} {m:Mem} {es:Array MapEntry} {clock b t kt et ty:Nat}
theorem zrr (ht:cx.P.underlying t=some (.map kt et)) (hh:Has m (.blk b (.map es clock))) {KK:Value→Mem→Prop} (hk:KK (.int .i64 (es.size:Int)) m):Rn cx m (Builtin.len_ #[t] ty #[.map (some b)]) KK:=by
 intro w hm
 have hb:=hm.ok _ hh.mem
 refine⟨_,_,_,?_,hm,hk⟩
 simp [Builtin.len_,run_underlying ht,MapKept.run_getObj_map hb,goInt]
end
abbrev zbo (A:Option Addr) (cap:Nat) (r:Rep):List Value:=[.slice A r.finds.length cap,.bool r.broken,.int .i64 r.clusters,.int .i64 r.held,.int .i64 r.data,.int .i64 r.packed,.int .i64 r.zero]
def repZ:Rep:=⟨false,0,0,0,0,0,[]⟩
def anyB (l:List Fi):Bool:=l.any fun x=>!decide (x.kind=7)
def ChkR (bs:List UInt8) (e:Ending) (m':Mem):Prop :=
 (zb7 bs=none∧e=.returned (.tuple #[.agg (zbo none 0 repZ).toArray,.int .i64 180])∧m'=[]) ∨
 ∃ p r A cap,zb7 bs=some p.h∧p.bs=bs∧p.c=clus p.h.bits∧p.Ok∧HOk p.h∧zhj (evW p) p r∧e=.returned (.tuple #[.agg (zbo A cap r).toArray,.int .i64 0])∧m'=[FR A cap r.finds]
theorem HOk.hl {h:Hd} (hk:HOk h):HL h:=⟨hk.snaps,hk.snapsAt,hk.snapsLen,hk.bitmaps,hk.bitmapsAt,hk.bitmapsLen⟩
theorem zjA {K V:Type} {x:K} {v:V}:∀ {l:List (K × V)} {j:Nat},l[j]?=some (x,v)→([x]++keys (l.eraseIdx j)).Perm (keys l)
 | [],j,h=>by simp at h
 | y::l,0,h=>by
  simp only [List.getElem?_cons_zero,Option.some.injEq] at h
  subst h
  exact List.Perm.refl _
 | y::l,j+1,h=>by
  have ih:=zjA (l:=l) (j:=j) (by simpa using h)
  show ([x]++(y.1::keys (l.eraseIdx j))).Perm (y.1::keys l)
  exact (List.Perm.swap y.1 x _).trans (ih.cons _)
theorem zve (l:List Fi) (x:Fi):anyB (l++[x])=(anyB l||!decide (x.kind=7)):=by unfold anyB;simp
attribute [local irreducible] Br Rn RnU Cl RdG CpG Ld Rd Lp Dr Oth Cut fin Fits Eng.Enters Md NA
theorem zc9:Eng.Enters Tryz.prog 7:=zab fun _ _=>by kernel_rfl
set_option maxHeartbeats 2000000 in
theorem zjL (bs:List UInt8) (A:Option Addr) (c:Nat) (w:World) (hb:BytsIn w A bs) (hl:bs.length≤100000) (hc:bs.length≤c) :
  Ctr Tryz.prog 7 [.slice A bs.length c] [] (ChkR bs) w:=by
 refine enter (cx:=CXS 54 [] w (Foot [])) [(0,.slice A bs.length c)] zaa Tryz.func7 rfl rfl rfl rfl (MemOk.nil w _) ?_
 refine gGw ?_;(repeat ((first|refine .mk fun Ap capp=>?_|intro _);(conv=>whnf);refine gG0 ?_))
 rename_i oB
 refine⟨zjS,zac (m1:=[]) .nil (fun w' hm'=>zo0 bs A c w' ((BytsIn.byts (cx:=CXS 54 [] w (Foot [])) hb zao).in_ hm') (by omega) hc) ?_⟩
 rintro e m' (⟨hh,rfl,rfl⟩|⟨p,s',g,hh,hA,hcap,hbs,hpc,hp,hk,hcmp,hg,rfl,rfl⟩)
 ·refine gGw ?_
  refine br_n (br_f rfl ?_)
  refine gGw ?_
  exact zbW rfl rfl (ldN (vs:=zbo none 0 repZ) zaa (by repeat constructor) rfl rfl rfl rfl) rfl (fun w' hm=>⟨_,.inl ⟨hh,rfl,rfl⟩,hm.sublist (List.nil_sublist _)⟩)
 ·have hev:=znX (U:=zdK) (S:=zaQ) (R:=za3) hp
  have hsok:SOk (appL s0W (evW p)):=SOk.zero.apps hev
  have hlen:s'.finds.length≤16000000000:=zxg hp (by rw [hbs];exact hl) hsok (zxi (s:=s0W) (fun x hx=>by cases hx) (ztU hp hk.hl)) hcmp hg.f.keys
  have hsc:=hcmp.1
  refine gGw ?_
  refine br_n (br_t rfl ?_)
  refine gGw ?_;(repeat ((first|refine .mk fun Ap capp=>?_|intro _);(conv=>whnf);refine gG0 ?_))
  rename_i rpB
  refine zkl zbg (by repeat constructor) (fun rB=>?_)
  conv=>whnf
  refine lp zaa (γ:=List Fi × Array Nat × List (Fi × Int) × Option Addr × Nat) (fun q=>ItIs Fi.enc (Value.int .i64) g.fs q.2.1 q.2.2.1∧(q.1++keys q.2.2.1).Perm (keys s'.finds))
   (fun _=>[(25,.pointer (some ⟨rB,0,none⟩)),(6,.pointer (some ⟨rpB,0,none⟩)),(4,.pointer (some ⟨p.wB,0,none⟩)),(2,.pointer (some ⟨oB,0,none⟩))])
   (fun q=>FR q.2.2.2.1 q.2.2.2.2 q.1::.blk rB (.mapIter (some p.fB) g.fk q.2.1 g.fk)::.blk rpB (.cells (zbo q.2.2.2.1 q.2.2.2.2 ⟨anyB q.1,p.n,0,s'.data,s'.packed,s'.zero,q.1⟩).toArray 27)::(WM p s' g++[.blk oB (.cells (zbo none 0 repZ).toArray 27)]))
   (fun q=>q.2.2.1.length) ([],#[],s'.finds,none,0) ⟨ItIs.start hg.f,List.Perm.refl _⟩ ⟨rfl,rfl,rfl,rfl,trivial⟩ (SubM.row0 SubM.sl _ _) ?_
  rintro ⟨l,seen,rem,fA,fc⟩ ⟨hit,hperm⟩
  simp only at hit hperm
  have hlb:l.length+rem.length≤16000000000:=by
   have h1:=hperm.length_eq
   rw [List.length_append,List.length_map,List.length_map] at h1
   omega
  dsimp only
  conv=>whnf
  refine zm1 _ (b:=p.fB) (es:=g.fs) (rem:=rem) (by repeat constructor) (by repeat constructor) hg.f hit (fun h0=>?_) (fun j q seen' hj hit' hlast=>⟨_,(by repeat constructor),?_⟩)
  ·subst h0
   have hperm:l.Perm (keys s'.finds):=by simpa using hperm
   refine gGw ?_
   refine br_f rfl ?_
   refine gGw ?_
   refine⟨zka,zac (m1:=[FR fA fc l]) (by repeat constructor) (fun w' hm'=>zpm l fA fc w' (by omega) hm'.part) ?_⟩
   rintro e m' ⟨rfl,L',hL,hsrt,rfl⟩
   refine gGw ?_
   refine zrr zhM (by repeat constructor) ?_
   refine gGw ?_
   refine zbW rfl rfl (ldN (vs:=[.slice fA l.length fc,.bool (anyB l),.int .i64 p.n,.int .i64 (g.es.size:Int),.int .i64 s'.data,.int .i64 s'.packed,.int .i64 s'.zero]) zaa (by repeat constructor) rfl rfl rfl rfl) rfl
    (fun w' hm=>⟨_,.inr ⟨p,⟨anyB l,p.n,(g.es.size:Int),s'.data,s'.packed,s'.zero,L'⟩,fA,fc,hh,hbs,hpc,hp,hk,⟨s',hcmp,hg.f.keys,hL.trans hperm,hsrt,?_,rfl,?_,?_,?_,?_⟩,?_,rfl⟩,hm.sl⟩)
   ·exact (hL.any_eq).symm
   ·show (g.es.size:Int)=_
    rw [hg.h.len,hsc.1]
   ·exact hsc.2.1
   ·exact hsc.2.2.1
   ·exact hsc.2.2.2
   ·rw [← hL.length_eq]
  ·obtain ⟨x,v⟩:=q
   have hlt:(rem.eraseIdx j).length<rem.length:=by
    have:=(List.getElem?_eq_some_iff.1 hj).1
    rw [List.length_eraseIdx_of_lt this];omega
   have hpm:((l++[x])++keys (rem.eraseIdx j)).Perm (keys s'.finds):=by
    refine List.Perm.trans ?_ hperm
    rw [List.append_assoc]
    refine List.Perm.append_left _ ?_
    exact zjA hj
   have el:(l++[x]).flatMap Fi.cells=l.flatMap Fi.cells++x.cells:=by rw [List.flatMap_append];simp
   have ll:(l++[x]).length=l.length+1:=by simp
   refine gGw ?_
   refine br_t rfl ?_
   refine gGw ?_
   refine zkm (b:=p.fB) (r:=rB) (by repeat constructor) (by repeat constructor) hg.f.nodup hlast ?_
   refine gGw ?_;(repeat ((first|refine .mk fun Ap capp=>?_|intro _);(conv=>whnf);refine gG0 ?_))
   refine⟨(l++[x],seen',rem.eraseIdx j,Ap,capp),⟨hit',hpm⟩,hlt,⟨rfl,rfl,rfl,rfl,trivial⟩,?_⟩
   show SubM _ _ (.row Ap capp (l++[x]).length 61 4 ((l++[x]).flatMap Fi.cells)::.blk rB (.mapIter (some p.fB) g.fk seen' g.fk)::.blk rpB (.cells [.slice Ap (l++[x]).length capp,.bool (anyB (l++[x])),.int .i64 p.n,.int .i64 0,.int .i64 s'.data,.int .i64 s'.packed,.int .i64 s'.zero].toArray 27)::(WM p s' g++[.blk oB (.cells (zbo none 0 repZ).toArray 27)]))
   rw [el,ll,zve]
   exact SubM.sl
end Go.Proofs.YtlmgelmloddfgaaGreat
namespace Go.Proofs.YtlmgelmloddfgaaGreat
open Go Go.RowKit Eng
def hdPl:Hd:=⟨9,0,0,0,0,3,512,1,0,0,0,0,0,0,⟨#[]⟩⟩
theorem zwV:HOk hdPl:=by
 refine⟨?_,?_,?_,?_,?_,?_,?_,?_,?_,?_,?_,?_,?_,?_,?_⟩<;>decide
def putL (bs:List UInt8) (at_ x:Nat):Nat→List UInt8
 | 0=>bs
 | n+1=>putL (bs.set at_ (UInt8.ofNat (x%256))) (at_+1) (x/256) n
theorem zof:∀ (n:Nat) (bs:List UInt8) (a x:Nat),(putL bs a x n).length=bs.length
 | 0,_,_,_=>rfl
 | n+1,bs,a,x=>by rw [putL,zof n,List.length_set]
def plF (B:List UInt8):List UInt8:=(((putL (B++List.replicate 1024 0) 512 1024 8).set 1024 1).set 1025 1).set 1026 1
def plB1:List UInt8:=plF (zbe hdPl)
theorem set8 {l:List UInt8} {i:Nat} {v:UInt8} {x:Int} (hx:x=(v.toNat:Int)):zbu i (zaX (.int .u8 x)) ((zah l).map (.int .u8))=(zah (l.set i v)).map (Value.int .u8):=by
 subst hx
 show ((zah l).map (Value.int .u8)).set i (.int .u8 (v.toNat:Int))=_
 unfold zah
 rw [List.map_set,List.map_set]
attribute [local irreducible] Br Rn RnU Cl RdG CpG Ld Rd Lp Dr Oth Cut fin Fits Eng.Enters Md NA
theorem zcF:Eng.Enters Tryz.prog 10:=zab fun _ _=>by kernel_rfl
theorem zng:Eng.Enters Tryz.prog 54:=zab fun _ _=>by kernel_rfl
theorem zkD:Eng.Enters Tryz.prog 24:=zab fun _ _=>by kernel_rfl
theorem zfj (e:Int) (w:World):Calls Tryz.prog 10 #[.int .i64 e] w fun r w'=>r=.returned (.int .i64 e)∧Fr (fun _=>False) w w':=by
 refine enter (cx:=CX 4 [] w) [(0,.int .i64 e)] zaa Tryz.func10 rfl rfl rfl rfl (MemOk.nil w _) ?_
 refine gGw ?_
 exact fin1 rfl rfl (fun w' hm=>⟨rfl,hm.fr⟩)
theorem zuI (A:Option Addr) (c:Nat) (bs:List UInt8) (a x n:Nat) (w:World) (hl:bs.length≤1000000) (ha:a+n≤bs.length) (hn:n≤8) (hx:x<18446744073709551616) (hm:MemOk w (Foot [BR8 A c bs.length bs]) [BR8 A c bs.length bs] w) :
  Ctr Tryz.prog 54 [.slice A bs.length c,.int .i64 (a:Int),.int .u64 (x:Int),.int .i64 (n:Int)] [BR8 A c bs.length bs] (fun e m'=>e=.returned (.tuple #[])∧m'=[BR8 A c bs.length (putL bs a x n)]) w:=by
 refine enter (cx:=CXS 23 [19] w (Foot [BR8 A c bs.length bs])) [(0,.slice A bs.length c),(1,.int .i64 (a:Int)),(2,.int .u64 (x:Int)),(3,.int .i64 (n:Int))] zaa Tryz.func54 rfl rfl rfl rfl hm ?_
 generalize hR:putL bs a x n=R
 refine gGw ?_
 refine lp_w zaa (γ:=Nat × List UInt8 × Nat) (fun q=>q.1≤n∧q.2.1.length=bs.length∧q.2.2<18446744073709551616∧putL q.2.1 (a+q.1) q.2.2 (n-q.1)=R)
  (fun q=>[(8,.int .i64 (q.1:Int)),(0,.slice A bs.length c),(1,.int .i64 (a:Int)),(2,.int .u64 (q.2.2:Int)),(3,.int .i64 (n:Int))]) (fun q=>[BR8 A c bs.length q.2.1]) (fun q=>n-q.1) (0,bs,x) ⟨Nat.zero_le _,rfl,hx,hR⟩ ⟨rfl,rfl,rfl,rfl,rfl,trivial⟩ SubM.sl ?_
 clear hR hx
 rintro ⟨i,bs2,x2⟩ ⟨hi,hb2,hx2,hR⟩ ⟨w9,hw9⟩
 simp only at hi hb2 hx2 hR hw9
 dsimp only
 refine gGw ?_
 refine br_d (fun hlt=>?_) (fun hge=>?_)
 ·obtain ⟨f,hf⟩:∃ f,n-i=f+1:=⟨n-i-1,by omega⟩
  rw [hf,putL] at hR
  obtain ⟨b9,rfl,_⟩:=zaV (hw9.ok (BR8 A c bs.length bs2) (List.mem_cons_self ..)) (zdn bs2 0 (by omega))
  refine gGw ?_
  refine And.intro ⟨by omega,by omega,Pl.mk _ _⟩ ?_
  refine gGw ?_
  refine zaz (off:=a+i) (xs':=(zah (bs2.set (a+i) (UInt8.ofNat (x2%256)))).map (.int .u8)) zaa rfl (by repeat constructor) rfl rfl (by show a+i+1≤bs.length*1;omega) Nat.one_pos (set8 (by rw [IntKind.wrap_u8,UInt8.toNat_ofNat'];omega)) ?_
  refine gGw ?_
  refine⟨(i+1,bs2.set (a+i) (UInt8.ofNat (x2%256)),x2/256),⟨by show i+1≤n;omega,by show (bs2.set _ _).length=bs.length;rw [List.length_set];exact hb2,by show x2/256<18446744073709551616;omega,?_⟩,by show n-(i+1)<n-i;omega,⟨congrArg (fun x=>some (Value.int .i64 x)) (by push_cast;rfl),rfl,rfl,?_,rfl,trivial⟩,SubM.sl⟩
  ·show putL (bs2.set (a+i) (UInt8.ofNat (x2%256))) (a+(i+1)) (x2/256) (n-(i+1))=R
   rw [show n-(i+1)=f by omega]
   exact hR
  ·refine congrArg (fun x=>some (Value.int .u64 x)) ?_
   show _=((x2/256:Nat):Int)
   push_cast
   omega
 ·have ei:i=n:=by omega
  subst ei
  rw [Nat.sub_self,putL] at hR
  subst hR
  refine gGw ?_
  exact fin0 rfl (fun w' hm=>⟨_,⟨rfl,rfl⟩,hm⟩) (by first|exact .inl rfl|exact .inr rfl)
theorem zxO (A:Option Addr) (c m:Nat) (bs:List UInt8) (a x n:Nat) (w:World) (hb:bs.length=m) (hl:m≤1000000) (ha:a+n≤m) (hn:n≤8) (hx:x<18446744073709551616) (hm:MemOk w (Foot [BR8 A c m bs]) [BR8 A c m bs] w) :
  Ctr Tryz.prog 54 [.slice A m c,.int .i64 (a:Int),.int .u64 (x:Int),.int .i64 (n:Int)] [BR8 A c m bs] (fun e m'=>e=.returned (.tuple #[])∧m'=[BR8 A c m (putL bs a x n)]) w:=by
 subst hb
 exact zuI A c bs a x n w hl ha hn hx hm
theorem zpQ (w:World):Ctr Tryz.prog 24 [] [] (fun e m'=>∃ A c,e=.returned (.slice A 1536 c)∧m'=[BR8 A c 1536 plB1]) w:=by
 refine enter (cx:=CXS 17 [] w (Foot [])) [] zaa Tryz.func24 rfl rfl rfl rfl (MemOk.nil w _) ?_
 have h5:(zbe hdPl).length=512:=by decide
 have hby:=fun w'=>zid hdPl w' zwV
 obtain ⟨L0,hL0⟩:∃ L0,L0=hdPl.cells:=⟨_,rfl⟩
 unfold plB1
 generalize zbe hdPl=B at h5 hby ⊢
 conv=>whnf
 refine⟨zfy,zac (m1:=[]) .nil (fun w' hm'=>hby w') ?_⟩
 rintro e m' ⟨gA,gc,rfl,rfl⟩
 conv=>whnf
 (iterate 1 ((first|refine stp (by (repeat constructor);first|done|fail) ?_|refine stn (by (repeat constructor);first|done|fail) ?_|refine sto (by (repeat constructor);first|done|fail) (by first|omega|(simp only;omega)|decide) ?_|(refine zaO (And.intro (fun hg=>?_) ?_);focus (simp only [Bool.and_eq_true,Bool.or_eq_true,Bool.not_eq_true',decide_eq_true_eq,decide_eq_false_iff_not] at hg;first|omega|exact zaf (by omega)|exact zak (by omega)|assumption))|refine .mk fun Ap capp=>?_|refine⟨?_,trivial⟩|intro _);conv=>whnf))
 rename_i eB
 refine zfS (m1:=[BR8 (some ⟨eB,0,none⟩) 0 0 [],BR8 gA gc 512 B]) (zj4 (zeD (m1:=[.blk eB (.cells ([]:List Value).toArray 5),BR8 gA gc 512 B]) (by kernel_rfl) (SubM.refl _ _)) (zqS (n:=0) (s:=1) (by repeat constructor) rfl rfl (by decide))) ?_
 refine zbh (acc:=[]) (ys:=B) zaa rfl (by repeat constructor) (by repeat constructor) h5 (by omega) (fun A1 c1=>?_)
 rw [List.nil_append]
 conv=>whnf
 refine zwB (k:=1024) rfl (by repeat constructor) (by decide) (by decide) (fun A2 c2=>?_)
 rw [← zdi]
 conv=>whnf
 have hl6:(B++List.replicate 1024 (0:UInt8)).length=0+512+1024:=by rw [List.length_append,h5,List.length_replicate]
 refine⟨zng,zac (m1:=[BR8 A2 c2 (0+512+1024) (B++List.replicate 1024 0)]) (by repeat constructor) (fun w' hm'=>(zxO A2 c2 (0+512+1024) (B++List.replicate 1024 0) 512 1024 8 w' hl6 (by decide) (by decide) (by decide) (by decide) hm'.part).ex) ?_⟩
 rintro e m' ⟨⟨rfl,rfl⟩,w9,hw9⟩
 unfold plF
 have hl7:=zof 8 (B++List.replicate 1024 0) 512 1024
 rw [hl6] at hl7
 generalize putL (B++List.replicate 1024 0) 512 1024 8=D at hl7 hw9 ⊢
 obtain ⟨b9,rfl,_⟩:=zaV (hw9 (BR8 A2 c2 (0+512+1024) D) (List.mem_cons_self ..)) (zdn D 0 (by omega))
 conv=>whnf
 refine And.intro ⟨by decide,by decide,Pl.mk _ _⟩ ?_
 refine gGw ?_
 refine zaz (off:=1024) (xs':=(zah (D.set 1024 1)).map (.int .u8)) zaa rfl (by repeat constructor) rfl rfl (by decide) Nat.one_pos (set8 (v:=1) rfl) ?_
 refine gGw ?_
 refine And.intro ⟨by decide,by decide,Pl.mk _ _⟩ ?_
 refine gGw ?_
 refine zaz (off:=1025) (xs':=(zah ((D.set 1024 1).set 1025 1)).map (.int .u8)) zaa rfl (by repeat constructor) rfl rfl (by decide) Nat.one_pos (set8 (v:=1) rfl) ?_
 refine gGw ?_
 refine And.intro ⟨by decide,by decide,Pl.mk _ _⟩ ?_
 refine gGw ?_
 refine zaz (off:=1026) (xs':=(zah (((D.set 1024 1).set 1025 1).set 1026 1)).map (.int .u8)) zaa rfl (by repeat constructor) rfl rfl (by decide) Nat.one_pos (set8 (v:=1) rfl) ?_
 refine gGw ?_
 exact fin1 rfl rfl (fun w' hm=>⟨_,⟨_,c2,rfl,rfl⟩,hm.sl⟩)
end Go.Proofs.YtlmgelmloddfgaaGreat
namespace Go.Proofs.YtlmgelmloddfgaaGreat
open Go Go.RowKit Eng
def plB2:List UInt8:=plB1.set 1030 2
theorem zlV:zb7 plB1=some hdPl:=by kernel_rfl
theorem zlU:zb7 plB2=some hdPl:=by kernel_rfl
theorem plW1 (A:Option Addr) (cap wB hB fB:Nat):appL s0W (evW ⟨A,cap,plB1,hdPl,512,3,wB,hB,fB⟩)=⟨[(0,⟨1,0,false⟩),(1,⟨1,0,false⟩),(2,⟨1,0,false⟩)],[],0,0,0⟩:=by kernel_rfl
theorem plH1 (A:Option Addr) (cap wB hB fB:Nat):za7 ⟨A,cap,plB1,hdPl,512,3,wB,hB,fB⟩=[(0,1),(1,1),(2,1)]:=by kernel_rfl
theorem plH2 (A:Option Addr) (cap wB hB fB:Nat):za7 ⟨A,cap,plB2,hdPl,512,3,wB,hB,fB⟩=[(0,1),(1,1),(2,1),(6,2)]:=by kernel_rfl
theorem plW2 (A:Option Addr) (cap wB hB fB:Nat):appL s0W (evW ⟨A,cap,plB2,hdPl,512,3,wB,hB,fB⟩)=⟨[(0,⟨1,0,false⟩),(1,⟨1,0,false⟩),(2,⟨1,0,false⟩)],[],0,0,0⟩:=by kernel_rfl
theorem plP {p:WP} {bs:List UInt8} (hh:zb7 bs=some hdPl) (hb:bs.length=1536) (h1:zb7 bs=some p.h) (h2:p.bs=bs) (h3:p.c=clus p.h.bits) (hp:p.Ok):∃ A cap wB hB fB,p=⟨A,cap,bs,hdPl,512,3,wB,hB,fB⟩:=by
 obtain ⟨A,cap,bs',h,c,n,wB,hB,fB⟩:=p
 have hn:=hp.n
 simp only at h1 h2 h3 hn
 rw [hh] at h1
 injection h1 with h1
 subst h1
 subst h2
 have hc:c=512:=by rw [h3];decide
 subst hc
 rw [hb] at hn
 have:n=3:=by rw [hn];decide
 subst this
 exact⟨A,cap,wB,hB,fB,rfl⟩
def plS:WS:=⟨[(0,⟨1,0,false⟩),(1,⟨1,0,false⟩),(2,⟨1,0,false⟩)],[],0,0,0⟩
theorem plHe {p:WP} {hv:List (Int × Int)} (h0:mget hv 0=some 1) (h1:mget hv 1=some 1) (h2:mget hv 2=some 1) (x:Fi):¬ ∃ q∈plS.holders,heX p hv q x:=by
 rintro ⟨q,hq,hx⟩
 have hq':q=(0,⟨1,0,false⟩)∨q=(1,⟨1,0,false⟩)∨q=(2,⟨1,0,false⟩):=by
  have:q∈[((0:Int),(⟨1,0,false⟩:Hl)),(1,⟨1,0,false⟩),(2,⟨1,0,false⟩)]:=hq
  simpa using this
 rcases hx with hx|hx
 ·rcases hq' with rfl|rfl|rfl<;>(obtain ⟨h,_⟩:=hx;simp at h)
 ·unfold oddX at hx
  rcases hq' with rfl|rfl|rfl<;>simp [h0,h1,h2] at hx
theorem zxH {p:WP} {r:Rep} (h1:zb7 plB1=some p.h) (h2:p.bs=plB1) (h3:p.c=clus p.h.bits) (hp:p.Ok) (h:zhj (evW p) p r):r.finds=[]∧r.broken=false∧r.clusters=3∧r.held=3:=by
 obtain ⟨A,cap,wB,hB,fB,rfl⟩:=plP zlV (by kernel_rfl) h1 h2 h3 hp
 obtain ⟨s',⟨_,hx⟩,_,hperm,_,hbr,hc,hh,_⟩:=h
 rw [plW1,plH1] at hx
 rw [plW1] at hh
 have hk:keys s'.finds=[]:=by
  rw [List.eq_nil_iff_forall_not_mem]
  intro x hm
  rw [hx] at hm
  rcases hm with (hm|hm)|⟨q,hq,hm⟩
  ·cases hm
  ·exact plHe (p:=⟨A,cap,plB1,hdPl,512,3,wB,hB,fB⟩) (by decide) (by decide) (by decide) x hm
  ·have hq':q=(0,1)∨q=(1,1)∨q=(2,1):=by simpa using hq
   obtain ⟨hs,_⟩:=hm
   rcases hq' with rfl|rfl|rfl<;>revert hs<;>decide
 rw [hk] at hperm
 have hf:r.finds=[]:=List.Perm.eq_nil hperm
 exact⟨hf,by rw [hbr,hf];rfl,hc,hh⟩
theorem zxG {p:WP} {r:Rep} (h1:zb7 plB2=some p.h) (h2:p.bs=plB2) (h3:p.c=clus p.h.bits) (hp:p.Ok) (h:zhj (evW p) p r):r.finds=[⟨7,3072,0,2⟩]∧r.broken=false:=by
 obtain ⟨A,cap,wB,hB,fB,rfl⟩:=plP zlU (by kernel_rfl) h1 h2 h3 hp
 obtain ⟨s',⟨_,hx⟩,hnd,hperm,_,hbr,hc,hh,_⟩:=h
 rw [plW2,plH2] at hx
 have hall:∀ x,x∈keys s'.finds↔x=⟨7,3072,0,2⟩:=by
  intro x
  rw [hx]
  constructor
  ·rintro ((hm|hm)|⟨q,hq,hm⟩)
   ·cases hm
   ·exact absurd hm (plHe (p:=⟨A,cap,plB2,hdPl,512,3,wB,hB,fB⟩) (by decide) (by decide) (by decide) x)
   ·have hq':q=(0,1)∨q=(1,1)∨q=(2,1)∨q=(6,2):=by simpa using hq
    obtain ⟨hs,ho⟩:=hm
    rcases hq' with rfl|rfl|rfl|rfl
    ·exact absurd hs (by decide)
    ·exact absurd hs (by decide)
    ·exact absurd hs (by decide)
    ·rcases ho with ⟨ho,_⟩|⟨_,ho⟩
     ·exact absurd ho (by decide)
     ·rw [ho];rfl
  ·rintro rfl
   exact .inr ⟨(6,2),by simp,by decide,.inr ⟨by decide,rfl⟩⟩
 have hk:keys s'.finds=[⟨7,3072,0,2⟩]:=by
  generalize keys s'.finds=l at hall hnd
  match l,hall,hnd with
  | [],hall,_=>exact absurd ((hall ⟨7,3072,0,2⟩).2 rfl) (by simp)
  | [a],hall,_=>rw [(hall a).1 (by simp)]
  | a::b::t,hall,hnd =>
   have ha:=(hall a).1 (by simp)
   have hb:=(hall b).1 (by simp)
   rw [List.nodup_cons] at hnd
   exact absurd (by rw [ha,hb];simp) hnd.1
 rw [hk] at hperm
 have hf:r.finds=[⟨7,3072,0,2⟩]:=List.perm_singleton.1 hperm
 exact⟨hf,by rw [hbr,hf];rfl⟩
end Go.Proofs.YtlmgelmloddfgaaGreat
namespace Go.Proofs.YtlmgelmloddfgaaGreat
open Go Go.RowKit Eng
theorem eqF1 (ox oy:Operand) (w:World):(zdS .eql 61 ox oy (.agg (Fi.cells ⟨7,3072,0,2⟩).toArray) (.agg (Fi.cells ⟨7,3072,0,2⟩).toArray)).run Tryz.prog w=.ok (.bool true) w:=by kernel_rfl
theorem zuX:Tryz.prog.eqGuardType Tryz.prog.depth 61=false:=by kernel_rfl
theorem zx4 (x y:Fi):(decide (x.kind=y.kind)&&(decide (x.at_=y.at_)&&(decide (x.want=y.want)&&decide (x.have_=y.have_))))=decide (x=y):=by
 rw [Bool.eq_iff_iff]
 simp only [Bool.and_eq_true,decide_eq_true_eq]
 constructor
 ·rintro ⟨h1,h2,h3,h4⟩
  cases x;cases y
  simp only at h1 h2 h3 h4
  subst h1 h2 h3 h4
  rfl
 ·rintro rfl;exact⟨rfl,rfl,rfl,rfl⟩
theorem zsl (op:BinOp) (hop:(op matches .eql|.neq)=true) (ox oy:Operand) (x y:Fi) (w:World):(eqGuard op 61 ox oy (.agg x.cells.toArray) (.agg y.cells.toArray)).run Tryz.prog w=.ok () w:=by
 unfold eqGuard
 simp [hop,zuX]
theorem zuY (x y:Fi) (w:World):(Op.equal 61 (.agg x.cells.toArray) (.agg y.cells.toArray)).run Tryz.prog w=.ok (decide (x=y)) w:=by
 rw [← zx4]
 exact zoO (Op.maxDepth-2) x.kind x.at_ x.want x.have_ y.kind y.at_ y.want y.have_ w
theorem neFi (ox oy:Operand) (x y:Fi) (w:World):(zdS .neq 61 ox oy (.agg x.cells.toArray) (.agg y.cells.toArray)).run Tryz.prog w=.ok (.bool (!decide (x=y))) w:=by
 unfold zdS
 rw [Sem.run_bind,zsl .neq rfl ox oy x y w,Result.andThen_ok]
 show (do pure (Value.bool (!(← Op.equal 61 (.agg x.cells.toArray) (.agg y.cells.toArray)))):Sem Value).run Tryz.prog w=_
 rw [Sem.run_bind,zuY x y w,Result.andThen_ok]
 rfl
end Go.Proofs.YtlmgelmloddfgaaGreat
namespace Go.Proofs.YtlmgelmloddfgaaGreat
open Go Go.RowKit Eng
attribute [local irreducible] Br Rn RnU Cl RdG CpG Ld Rd Lp Dr Oth Cut fin Fits Eng.Enters Md NA
theorem zc7:Eng.Enters Tryz.prog 6:=zab fun _ _=>by kernel_rfl
theorem zk9 (n:Nat) (bs:List UInt8) (A:Option Addr) (c:Nat) (w:World) (hn:bs.length=n) (hb:BytsIn w A bs) (hl:n≤100000) (hc:n≤c) :
  Ctr Tryz.prog 7 [.slice A n c] [] (ChkR bs) w:=by
 subst hn
 exact zjL bs A c w hb hl hc
set_option maxHeartbeats 1000000 in
theorem zpP (w:World):Ctr Tryz.prog 6 [] [] (fun e m'=>e=.returned (.bool true)∧m'=[]) w:=by
 refine enter (cx:=⟨Tryz.prog,67,w,Foot [],tab,[],[10],[],[]⟩) [] zaa Tryz.func6 rfl rfl rfl rfl (MemOk.nil w _) ?_
 have hlen1:plB1.length=1536:=by kernel_rfl
 have hlen2:plB2.length=1536:=by kernel_rfl
 have hset:plB2=plB1.set 1030 2:=rfl
 have hr1:=@zxH
 have hr2:=@zxG
 have hh1:=zlV
 have hh2:=zlU
 have hpl:=fun w'=>zpQ w'
 generalize plB1=B1 at hlen1 hset hr1 hh1 hpl
 generalize plB2=B2 at hlen2 hset hr2 hh2
 subst hset
 refine gGw ?_
 refine⟨zkD,zac (m1:=[]) .nil (fun w' hm'=>(hpl w').ex) ?_⟩
 rintro e m' ⟨⟨bA,bc,rfl,rfl⟩,w9,hw9⟩
 obtain ⟨b9,rfl,_⟩:=zaV (hw9 (BR8 bA bc 1536 B1) (List.mem_cons_self ..)) (zdn B1 0 (by omega))
 have hcap:1536≤bc:=zeO (hw9 (BR8 (some ⟨b9,0,none⟩) bc 1536 B1) (List.mem_cons_self ..))
 refine gGw ?_
 refine⟨zc9,zac (m1:=[]) .nil (fun w' hm'=>zk9 1536 B1 _ bc w' hlen1 (zaB (hm'.ok (BR8 (some ⟨b9,0,none⟩) bc 1536 B1) (by simp))) (by omega) hcap) ?_⟩
 rintro e m' (⟨hn,_⟩|⟨p1,r1,fA1,fc1,q1,q2,q3,q4,q5,q6,rfl,rfl⟩)
 ·rw [hh1] at hn;cases hn
 obtain ⟨z1,z2,z3,z4⟩:=hr1 q1 q2 q3 q4 q6
 refine gGw ?_;(repeat ((first|refine .mk fun Ap capp=>?_|intro _);(conv=>whnf);refine gG0 ?_))
 rename_i xB
 refine And.intro ⟨by decide,by decide,Pl.mk _ _⟩ ?_
 refine gGw ?_
 refine zaz (off:=1030) (xs':=(zah (B1.set 1030 2)).map (.int .u8)) zaa rfl (by repeat constructor) rfl rfl (by decide) Nat.one_pos (set8 (v:=2) rfl) ?_
 refine gGw ?_
 refine⟨zc9,zac (m1:=[]) .nil (fun w' hm'=>(zk9 1536 (B1.set 1030 2) _ bc w' hlen2 (zaB (hm'.ok (BR8 (some ⟨b9,0,none⟩) bc 1536 (B1.set 1030 2)) (by simp))) (by omega) hcap).ex) ?_⟩
 rintro e m' ⟨(⟨hn,_⟩|⟨p2,r2,fA2,fc2,q1,q2,q3,q4,q5,q6,rfl,rfl⟩),w8,hw8⟩
 ·rw [hh2] at hn;cases hn
 obtain ⟨y1,y2⟩:=hr2 q1 q2 q3 q4 q6
 have hw8':=hw8 (FR fA2 fc2 r2.finds) (List.mem_singleton.2 rfl)
 clear hw8
 rw [y1] at hw8'
 obtain ⟨b8,rfl,_⟩:=zaV hw8' (j:=0) (v:=.int .i64 7) rfl
 obtain ⟨r2b,r2c,r2h,r2d,r2p,r2z,r2f⟩:=r2
 simp only at y1 y2
 subst y1 y2
 obtain ⟨r1b,r1c,r1h,r1d,r1p,r1z,r1f⟩:=r1
 simp only at z1 z2 z3 z4
 subst z1 z2 z3 z4
 refine gGw ?_;(repeat ((first|refine .mk fun Ap capp=>?_|intro _);(conv=>whnf);refine gG0 ?_))
 refine⟨zcF,zae _ (fun w' _=>zfj 0 w') ?_⟩
 refine gGw ?_
 refine⟨_,cpg zcF (fun _ w' _=>zfj 0 w'),?_⟩
 refine gGw ?_
 refine br_t rfl ?_
 refine gGw ?_
 refine And.intro ⟨by decide,(show (0:Int)<1 by decide),Pl.mk _ _⟩ ?_
 refine gGw ?_
 refine zaj (zrQ (f:=Fi.cells) (k:=4) (L:=[⟨7,3072,0,2⟩]) (i:=0) zaa (by repeat constructor) (by decide) (fun _=>rfl) rfl rfl rfl rfl) ?_
 refine gGw ?_
 refine Rd.n (zco fun w=>eqF1 _ _ w) ?_
 refine gGw ?_
 exact fin1 rfl rfl (fun w' hm=>⟨[],⟨rfl,rfl⟩,hm.sublist (List.nil_sublist _)⟩)
theorem zu8 {P:Program} {f:Nat} {args:List Value} {v:Value} {w:World} (h:Ctr P f args [] (fun e m'=>e=.returned v∧m'=[]) w):Calls P f args.toArray w fun e w'=>e=.returned v∧Fr (fun _=>False) w w':=by
 refine Calls.mono h ?_
 rintro e w' ⟨m',⟨rfl,rfl⟩,hm⟩
 refine⟨rfl,?_⟩
 have hf:=hm.fr
 exact⟨hf.os,hf.tape,hf.output,hf.size,fun k hk _=>hf.block k hk (zao k)⟩
theorem zhy (w:World):Calls Tryz.prog 6 #[] w fun e w'=>e=.returned (.bool true)∧Fr (fun _=>False) w w':=zu8 (zpP w)
end Go.Proofs.YtlmgelmloddfgaaGreat
namespace Go.Proofs.YtlmgelmloddfgaaGreat
open Go Go.RowKit Eng
attribute [local irreducible] Br Rn RnU Cl RdG CpG Ld Rd Lp Dr Oth Cut fin Fits Eng.Enters Md NA
theorem zlM:Eng.Enters Tryz.prog 11:=zab fun _ _=>by kernel_rfl
set_option maxHeartbeats 1000000 in
theorem zrm (r:Rep) (A B:Option Addr) (c d:Nat) (w:World) (hl:r.finds.length≤9223372036854775807) (hA:RowIn w A r.finds Fi.cells 4) (hB:RowIn w B r.finds Fi.cells 4) :
  Calls Tryz.prog 11 #[.agg (zbo A c r).toArray,.agg (zbo B d r).toArray] w fun e w'=>e=.returned (.bool true)∧Fr (fun _=>False) w w':=by
 refine enter (cx:=CX 73 [] w) [(0,.agg (zbo A c r).toArray),(1,.agg (zbo B d r).toArray)] zaa Tryz.func11 rfl rfl rfl rfl (MemOk.nil w _) ?_
 refine gGw ?_;(repeat ((first|refine .mk fun Ap capp=>?_|intro _);(conv=>whnf);refine gG0 ?_))
 rename_i xB yB
 refine br_f (by cases r.broken<;>simp) ?_
 refine gGw ?_
 refine lp zaa (γ:=Nat) (fun i=>i≤r.finds.length) (fun i=>[(5,.int .i64 (i:Int)),(2,.pointer (some ⟨xB,0,none⟩)),(3,.pointer (some ⟨yB,0,none⟩))]) (fun _=>[.blk xB (.cells (zbo A c r).toArray 27),.blk yB (.cells (zbo B d r).toArray 27)]) (fun i=>r.finds.length-i) 0 (Nat.zero_le _) ⟨rfl,rfl,rfl,trivial⟩ SubM.sl ?_
 rintro i hi
 dsimp only
 refine gGw ?_
 refine br_d (fun hlt=>?_) (fun hge=>?_)
 ·have hi':i<r.finds.length:=by omega
  have hx:=List.getElem?_eq_getElem hi'
  obtain ⟨a,rfl,hca⟩:=hA _ _ hx
  obtain ⟨b,rfl,hcb⟩:=hB _ _ hx
  generalize r.finds[i]=x at hx hca hcb
  conv=>whnf
  refine zar zaa mixed (by kernel_rfl) rfl ?_;conv=>whnf
  refine gG0 ?_
  refine And.intro ⟨by omega,by omega,Pl.mk _ _⟩ ?_
  refine gGw ?_
  refine⟨.agg x.cells.toArray,Ld.g (zl6 (k:=4) zaa (fun h=>h) rfl rfl rfl rfl hca),?_⟩
  refine gGw ?_
  refine And.intro ⟨by omega,by omega,Pl.mk _ _⟩ ?_
  refine gGw ?_
  refine⟨.agg x.cells.toArray,Ld.g (zl6 (k:=4) zaa (fun h=>h) rfl rfl rfl rfl hcb),?_⟩
  refine gGw ?_
  refine⟨_,Rd.g (zco fun w=>neFi _ _ x x w),?_⟩
  refine gGw ?_
  refine br_f (by simp) ?_
  refine gGw ?_
  exact⟨i+1,by omega,by omega,⟨congrArg (fun x=>some (Value.int .i64 x)) (by push_cast;rfl),rfl,rfl,trivial⟩,SubM.sl⟩
 ·refine gGw ?_
  exact fin1 rfl rfl (fun w' hm=>⟨rfl,hm.fr⟩)
end Go.Proofs.YtlmgelmloddfgaaGreat
namespace Go.Proofs.YtlmgelmloddfgaaGreat
open Go Go.RowKit Eng
theorem zaH (l k:List Ev):zax (l++k)=zax l++zax k:=List.filterMap_append ..
theorem ziA {n:Nat} {f g:Nat→List Ev} (h:∀ i,zax (f i)=zax (g i)):zax (rng n f)=zax (rng n g):=by
 induction n with
 | zero=>rfl
 | succ n ih=>rw [zbD,zbD,zaH,zaH,ih,h n]
theorem zhe {α:Type} {f g:α→List Ev} (h:∀ x,zax (f x)=zax (g x)):∀ l:List α,zax (l.flatMap f)=zax (l.flatMap g)
 | []=>rfl
 | x::l=>by rw [List.flatMap_cons,List.flatMap_cons,zaH,zaH,h x,zhe h l]
theorem zgn (l:List Ev):zax (zdj l)=zax l:=by
 unfold zax zdj
 rw [List.filterMap_filter]
 congr 1
 funext e
 cases e<;>rfl
variable {U V:List UInt8→Int→Bool} {S:Int→List UInt8→Int→Option (List Snp)} {R:Int→List UInt8→Int→Option (List Rwp)} {p:WP}
theorem zmg (a:Int) (e:En):zax (zb2 U p a e)=zax (zb2 V p a e):=by
 unfold zb2
 split
 ·rfl
 ·split
  ·rw [zaH,zaH]
   congr 1
   split
   ·show zax (if U (pkB p e) p.c=true then _ else _)=zax (if V (pkB p e) p.c=true then _ else _)
    split<;>split<;>rfl
   ·rfl
  ·rfl
theorem zpX (a:Int):zax (tEnt U p a)=zax (tEnt V p a):=by
 unfold tEnt
 split
 ·exact zmg _ _
 ·rfl
theorem zrZ (a:Int):zax (tL1 U p a)=zax (tL1 V p a):=by
 unfold tL1
 split
 ·rfl
 ·rw [zaH,zaH]
  congr 1
  split
  ·exact ziA fun i=>zpX _
  ·rfl
theorem ziz (a l s:Int):zax (zbB U p a l s)=zax (zbB V p a l s):=by
 unfold zbB
 split
 ·rfl
 ·rw [zaH,zaH]
  congr 1
  split
  ·exact ziA fun i=>zrZ _
  ·rfl
theorem zmf:zax (zby U S p)=zax (zby V S p):=by
 unfold zby
 split
 ·rfl
 ·rw [zaH,zaH]
  congr 1
  split
  ·split
   ·rfl
   ·rw [zgn,zgn]
    exact zhe (fun x=>ziz _ _ _) _
  ·rfl
theorem zxX:zax (zcy U S R p)=zax (zcy V S R p):=by
 unfold zcy
 show (0,0+1)::zax _=(0,0+1)::zax _
 rw [zaH,zaH,zaH,zaH,zaH,zaH,ziz (U:=U) (V:=V),zmf (U:=U) (V:=V)]
theorem ztT {p q:WP} (h1:p.bs=q.bs) (h2:p.h=q.h) (h3:p.c=q.c) (h4:p.n=q.n):zcy U S R p=zcy U S R q:=by
 cases p;cases q
 simp only at h1 h2 h3 h4
 subst h1 h2 h3 h4
 rfl
structure Turned (bs ms:List UInt8) (c:Int) (H:List (Int × Int)):Prop where
 len:ms.length=bs.length
 at_:∀ j:Nat,howF H ((j:Int)/c)≠3→ms.getD j 0=bs.getD j 0
theorem Turned.refl (bs:List UInt8) (c:Int) (H:List (Int × Int)):Turned bs bs c H:=⟨rfl,fun _ _=>rfl⟩
theorem Turned.set {bs ms:List UInt8} {c:Int} {H:List (Int × Int)} (h:Turned bs ms c H) {k:Nat} (v:UInt8) (hk:howF H ((k:Int)/c)=3):Turned bs (ms.set k v) c H:=by
 refine⟨by rw [List.length_set];exact h.len,fun j hj=>?_⟩
 rw [List.getD_eq_getElem?_getD,List.getElem?_set]
 split
 ·rename_i e
  subst e
  exact absurd hk hj
 ·rw [← List.getD_eq_getElem?_getD]
  exact h.at_ j hj
theorem zwt {bs ms:List UInt8} {n:Nat} (hl:ms.length=bs.length) (h:∀ j,j<n→ms.getD j 0=bs.getD j 0):ms.take n=bs.take n:=by
 apply List.ext_getElem
 ·rw [List.length_take,List.length_take,hl]
 ·intro j h1 h2
  rw [List.length_take] at h1
  rw [List.getElem_take,List.getElem_take]
  have:=h j (by omega)
  rw [List.getD_eq_getElem?_getD,List.getD_eq_getElem?_getD,List.getElem?_eq_getElem (by omega),List.getElem?_eq_getElem (by omega)] at this
  exact this
theorem zpZ {bs ms:List UInt8} (hl:ms.length=bs.length) (ht:ms.take 512=bs.take 512):zb7 ms=zb7 bs:=by
 unfold zb7
 rw [hl,ht]
theorem zxW {U:List UInt8→Int→Bool} {p:WP}:howF (zax (zcy U zaQ za3 p)) 0≠3:=by
 intro h
 have:=zoC (by decide) h (0,1) (by unfold zcy;exact List.mem_filterMap.2 ⟨_,List.mem_cons_self ..,rfl⟩) rfl
 exact absurd this (by decide)
theorem zhO {bs ms:List UInt8} {U:List UInt8→Int→Bool} {p:WP} (hp:p.Ok) (h:Turned bs ms p.c (zax (zcy U zaQ za3 p))):zb7 ms=zb7 bs:=by
 have hc0:=hp.c0
 refine zpZ h.len (zwt h.len fun j hj=>h.at_ j ?_)
 rw [Int.ediv_eq_zero_of_lt (by omega) (by omega)]
 exact zxW
theorem zo8 {bs ms:List UInt8} {p p':WP} {r r':Rep} (hp:p.Ok) (hp':p'.Ok) (hk:HOk p.h) (hb:p.bs=bs) (hb':p'.bs=ms) (hc:p.c=clus p.h.bits) (hc':p'.c=clus p'.h.bits) (hh:zb7 bs=some p.h) (hh':zb7 ms=some p'.h) (ht:Turned bs ms p.c (zax (evW p)))
  (h:zhj (evW p) p r) (h':zhj (evW p') p' r'):r'=r:=by
 have hhe:p'.h=p.h:=by
  rw [zhO hp ht,hh] at hh'
  injection hh' with e
  exact e.symm
 have hce:p'.c=p.c:=by rw [hc',hc,hhe]
 have hne:p'.n=p.n:=by rw [hp'.n,hp.n,hce,hb',hb,ht.len]
 have ha:zft p p' fun cl=>howF (zax (evW p)) cl=3:=⟨hhe,hce,hne,by rw [hb',hb,ht.len],fun i hi=>by rw [hb',hb];exact ht.at_ i hi⟩
 obtain ⟨e1,e2⟩:=zu7 hp hc ha
 have e1':evW p'=evW p:=e1
 rw [e1'] at h'
 exact zxD hp hp' hk.order hhe hce hne e2 (znX hp) h h'
end Go.Proofs.YtlmgelmloddfgaaGreat
namespace Go.Proofs.YtlmgelmloddfgaaGreat
open Go Go.RowKit Eng
theorem zvW:∀ n:Nat,n<256→∃ m:Fin 256,Go.bits .xor .u8 (n:Int) 255=(m.val:Int):=by decide +kernel
theorem zxr (b:UInt8):∃ v:UInt8,Go.bits .xor .u8 (b.toNat:Int) 255=(v.toNat:Int):=by
 obtain ⟨m,hm⟩:=zvW b.toNat b.toNat_lt
 refine⟨UInt8.ofNat m.val,?_⟩
 rw [hm,UInt8.toNat_ofNat']
 have:=m.isLt
 omega
theorem zwA {w:World} {A:Option Addr} {cap n t k:Nat} {xs:List Value} (h:Res.ok w (.row A cap n t k xs)):n≤9223372036854775807:=by
 rcases h.2 with ⟨_,h0⟩|⟨g,cap',cur,_,_,_,hn,hc,_⟩
 ·omega
 ·have:cap'≤9223372036854775807:=hc
  omega
attribute [local irreducible] Br Rn RnU Cl RdG CpG Ld Rd Lp Dr Oth Cut fin Fits Eng.Enters Md NA
set_option maxHeartbeats 4000000 in
theorem zrP (U:List UInt8→Int→Bool) (hU:zda U) (bs:List UInt8) (ts:List Int) (A T:Option Addr) (c tc:Nat) (w:World) (hb:BytsIn w A bs) (ht:IntsIn .i64 w T ts) (hl:bs.length≤140737488355328) (htl:ts.length≤140737488355328) (hc:bs.length≤c) (hti:∀ x∈ts,-9223372036854775808≤x∧x≤9223372036854775807) :
  Ctr Tryz.prog 3 [.slice A bs.length c,.slice T ts.length tc] [] (fun e m'=>e=.returned (.bool true)∧m'=[]) w:=by
 refine enter (cx:=⟨Tryz.prog,117,w,Foot [],tab,[],[10,6,11],[],[]⟩) [(0,.slice A bs.length c),(1,.slice T ts.length tc)] zaa Tryz.func3 rfl rfl rfl rfl (MemOk.nil w _) ?_
 have hbw:=fun m=>BytsIn.byts (cx:=CXS 117 [] w (Foot [])) (m:=m) hb zao
 refine gGw ?_
 by_cases hbig:20000<bs.length∨200<ts.length
 ·refine br_t (by simp only [Bool.or_eq_true,decide_eq_true_eq];omega) ?_
  refine gGw ?_
  refine⟨zc7,zae _ (fun w' _=>zhy w') ?_⟩
  refine gGw ?_
  exact fin1 rfl rfl (fun w' hm=>⟨[],⟨rfl,rfl⟩,hm.sublist (List.nil_sublist _)⟩)
 refine br_f (by simp only [Bool.or_eq_false_iff,decide_eq_false_iff_not];omega) ?_
 refine gGw ?_
 refine⟨zc9,zac (m1:=[]) .nil (fun w' hm'=>zjL bs A c w' ((hbw []).in_ hm') (by omega) hc) ?_⟩
 rintro e m' (⟨hh,rfl,rfl⟩|⟨p,r,fA,fc,q1,q2,q3,q4,q5,q6,rfl,rfl⟩)
 ·refine gGw ?_;(repeat ((first|refine .mk fun Ap capp=>?_|intro _);(conv=>whnf);refine gG0 ?_))
  refine⟨zic,zac (m1:=[]) .nil (fun w' hm'=>zob U hU bs A c w' ((hbw _).in_ hm') (by omega) hc) ?_⟩
  rintro e m' (⟨_,rfl,rfl⟩|⟨h,lA,lc,hh2,_⟩)
  rotate_left
  ·rw [hh] at hh2;cases hh2
  refine gGw ?_
  refine⟨zdM,zae _ (fun w' hm'=>zh7 bs A c w' ((hbw _).in_ hm') hc (by omega)) ?_⟩
  rw [zkJ,hh]
  refine gGw ?_;(repeat ((first|refine .mk fun Ap capp=>?_|intro _);(conv=>whnf);refine gG0 ?_))
  refine br_t rfl ?_
  refine gGw ?_
  refine⟨zcF,zae _ (fun w' _=>zfj 180 w') ?_⟩
  refine gGw ?_
  refine⟨_,cpg zc7 (fun _ w' _=>zhy w'),?_⟩
  refine gGw ?_
  exact fin1 rfl rfl (fun w' hm=>⟨[],⟨rfl,rfl⟩,hm.sublist (List.nil_sublist _)⟩)
 ·refine gGw ?_;(repeat ((first|refine .mk fun Ap capp=>?_|intro _);(conv=>whnf);refine gG0 ?_))
  refine⟨zic,zac (m1:=[]) .nil (fun w' hm'=>zob U hU bs A c w' ((hbw _).in_ hm') (by omega) hc) ?_⟩
  rintro e m' (⟨hh2,_⟩|⟨h,lA,lc,hh2,rfl,rfl⟩)
  ·rw [q1] at hh2;cases hh2
  obtain rfl:p.h=h:=by rw [q1] at hh2;injection hh2
  have hnb:=n_bd q4
  have hHl:(howL U (pOf A c bs p.h 0 0 0)).length=p.n.toNat:=by
   unfold howL
   rw [List.length_map,List.length_range]
   show (((bs.length:Int)/clus p.h.bits)).toNat=_
   rw [q4.n,q2,q3]
  have hHg:∀ k:Nat,k<p.n.toNat→(howL U (pOf A c bs p.h 0 0 0)).getD k 0=howF (zax (evW p)) (k:Nat):=fun k hk=>by
   have hn:p.n.toNat=(pOf A c bs p.h 0 0 0).n.toNat:=by
    show _=(((bs.length:Int)/clus p.h.bits)).toNat
    rw [q4.n,q2,q3]
   have e:zax (zcy U zaQ za3 (pOf A c bs p.h 0 0 0))=zax (evW p):=by
    rw [zxX (U:=U) (V:=zdK),ztT (p:=pOf A c bs p.h 0 0 0) (q:=p) q2.symm rfl q3.symm (by show (bs.length:Int)/clus p.h.bits=p.n;rw [q4.n,q2,q3])]
   unfold howL
   rw [e,List.getD_eq_getElem?_getD,List.getElem?_map,List.getElem?_range (by omega)]
   rfl
  generalize howL U (pOf A c bs p.h 0 0 0)=HW at hHl hHg ⊢
  refine gGw ?_
  refine⟨zdM,zae _ (fun w' hm'=>zh7 bs A c w' ((hbw _).in_ hm') hc (by omega)) ?_⟩
  rw [zkJ,q1]
  refine gGw ?_;(repeat ((first|refine .mk fun Ap capp=>?_|intro _);(conv=>whnf);refine gG0 ?_))
  by_cases hn0:HW.length=0
  ·refine br_t (by rw [decide_eq_true (show (HW.length:Int)=0 by omega)];rfl) ?_
   refine gGw ?_
   refine⟨zcF,zae _ (fun w' _=>zfj 0 w') ?_⟩
   refine gGw ?_
   refine⟨_,cpg zc7 (fun _ w' _=>zhy w'),?_⟩
   refine gGw ?_
   exact fin1 rfl rfl (fun w' hm=>⟨[],⟨rfl,rfl⟩,hm.sublist (List.nil_sublist _)⟩)
  refine br_f (by rw [decide_eq_false (show ¬ (HW.length:Int)=0 by omega)];rfl) ?_
  conv=>whnf
  (iterate 1 ((first|refine stp (by (repeat constructor);first|done|fail) ?_|refine stn (by (repeat constructor);first|done|fail) ?_|refine sto (by (repeat constructor);first|done|fail) (by first|omega|(simp only;omega)|decide) ?_|(refine zaO (And.intro (fun hg=>?_) ?_);focus (simp only [Bool.and_eq_true,Bool.or_eq_true,Bool.not_eq_true',decide_eq_true_eq,decide_eq_false_iff_not] at hg;first|omega|exact zaf (by omega)|exact zak (by omega)|assumption))|refine .mk fun Ap capp=>?_|refine⟨?_,trivial⟩|intro _);conv=>whnf))
  rename_i xB hB eB
  refine zfS (m1:=[BR8 (some ⟨eB,0,none⟩) 0 0 [],.blk hB (.cells p.h.cells.toArray 34),IR lA lc HW.length HW,.blk xB (.cells (zbo fA fc r).toArray 27),FR fA fc r.finds]) (zj4 (zeD (m1:=[.blk eB (.cells ([]:List Value).toArray 5),.blk hB (.cells p.h.cells.toArray 34),IR lA lc HW.length HW,.blk xB (.cells (zbo fA fc r).toArray 27),FR fA fc r.finds]) (by kernel_rfl) (SubM.refl _ _)) (zqS (n:=0) (s:=1) (by repeat constructor) rfl rfl (by decide))) ?_
  refine zen (k:=.u8) (ys:=zah bs) (zag bs) zaa rfl rfl rfl rfl rfl rfl (by repeat constructor) (fun w' hm'=>(hbw []).in_ (hm'.sublist (List.nil_sublist _))) (by omega) (fun mA mc=>?_)
  rw [Nat.zero_add]
  conv=>whnf
  have hc0:=q4.c0
  have hc1:=q4.c1
  have hL:512≤bs.length:=by
   have h1:=q4.n
   rw [q2] at h1
   have h2:1≤p.n:=by omega
   have h3:=Int.mul_ediv_add_emod (bs.length:Int) p.c
   have h4:=Int.emod_nonneg (bs.length:Int) (show p.c≠0 by omega)
   rw [← h1] at h3
   have h5:p.c*1≤p.c*p.n:=Int.mul_le_mul_of_nonneg_left h2 (by omega)
   omega
  have hts:=fun m=>IntsIn.ints (cx:=⟨Tryz.prog,117,w,Foot [],tab,[],[10,6,11],[],[]⟩) (m:=m) ht zao
  refine lp_w zaa (γ:=Nat × List UInt8) (fun q=>q.1≤ts.length∧Turned bs q.2 p.c (zax (evW p)))
   (fun q=>[(11,.int .i64 (q.1:Int)),(10,.slice mA bs.length mc),(8,.pointer (some ⟨hB,0,none⟩)),(7,.slice lA HW.length lc),(5,.pointer (some ⟨xB,0,none⟩)),(6,.int .i64 0),(0,.slice A bs.length c),(1,.slice T ts.length tc)])
   (fun q=>[BR8 mA mc bs.length q.2,.blk hB (.cells p.h.cells.toArray 34),IR lA lc HW.length HW,.blk xB (.cells (zbo fA fc r).toArray 27),FR fA fc r.finds]) (fun q=>ts.length-q.1) (0,bs) ⟨Nat.zero_le _,Turned.refl ..⟩ ⟨rfl,rfl,rfl,rfl,rfl,rfl,rfl,rfl,trivial⟩ SubM.sl ?_
  rintro ⟨i,ms⟩ ⟨hi,hT⟩ ⟨w9,hw9⟩
  simp only at hi hT hw9
  have hml:=hT.len
  obtain ⟨b9,rfl,_⟩:=zaV (hw9.ok (IR lA lc HW.length HW) (by simp)) (zbm (xs:=HW) (j:=0) (by omega))
  obtain ⟨b8,rfl,_⟩:=zaV (hw9.ok (BR8 mA mc bs.length ms) (by simp)) (zdn ms 0 (by omega))
  have hcapm:bs.length≤mc:=zeO (hw9.ok (BR8 (some ⟨b8,0,none⟩) mc bs.length ms) (by simp))
  have hfl:r.finds.length≤9223372036854775807:=zwA (hw9.ok (FR fA fc r.finds) (by simp))
  clear hw9
  dsimp only
  refine gGw ?_
  refine br_d (fun hlt=>?_) (fun hge=>?_)
  ·have hi':i<ts.length:=by omega
   have hxb:-9223372036854775808≤ts.getD i 0∧ts.getD i 0≤9223372036854775807:=by
    rw [List.getD_eq_getElem?_getD,List.getElem?_eq_getElem hi']
    exact hti _ (List.getElem_mem hi')
   refine gGw ?_
   refine And.intro ⟨by omega,by omega,(hts []).plain (by omega)⟩ ?_
   conv=>whnf
   refine zaj ((hts _).ld zaa rfl rfl (j:=i) (by omega)) ?_
   generalize ts.getD i 0=x at hxb ⊢
   have hm1:-(bs.length:Int)<x.tmod bs.length∧x.tmod bs.length<bs.length:=⟨Int.lt_tmod_of_pos x (by omega),Int.tmod_lt_of_pos x (by omega)⟩
   have hm2:0≤(x.tmod bs.length+bs.length).tmod bs.length∧(x.tmod bs.length+bs.length).tmod bs.length<bs.length:=⟨Int.tmod_nonneg _ (by omega),Int.tmod_lt_of_pos _ (by omega)⟩
   obtain ⟨k,hk⟩:∃ k:Nat,(x.tmod bs.length+bs.length).tmod bs.length=(k:Int):=⟨((x.tmod bs.length+bs.length).tmod bs.length).toNat,by omega⟩
   rw [hk] at hm2
   refine gGw ?_
   rw [hk]
   refine gGw ?_
   refine And.intro ⟨by have:=q5.bits;omega,by have:=q5.bits;show p.h.bits≤64;omega⟩ ?_
   refine gGw ?_
   have e2:(2:Int) ^ p.h.bits.toNat=p.c:=q3.symm
   rw [e2]
   obtain ⟨cq,hcq⟩:∃ q:Nat,(k:Int)/p.c=(q:Int):=⟨((k:Int)/p.c).toNat,by have:=Int.ediv_nonneg (show 0≤(k:Int) by omega) (show 0≤p.c by omega);omega⟩
   rw [hcq]
   refine And.intro (fun hg=>⟨by omega,of_decide_eq_true hg,Pl.mk _ _⟩) ?_
   refine gGw ?_
   refine⟨.int .i64 (HW.getD cq 0),ldg (fun hg=>ldR (j:=cq) zaa (by repeat constructor) rfl rfl (zbm (by have:=of_decide_eq_true hg;omega))),?_⟩
   refine gGw ?_
   by_cases hyes:cq<HW.length∧HW.getD cq 0=3
   ·refine br_t (by rw [decide_eq_true (show (cq:Int)<HW.length by omega),decide_eq_true hyes.2];rfl) ?_
    have hH3:howF (zax (evW p)) ((k:Int)/p.c)=3:=by rw [hcq,← hHg cq (by omega)];exact hyes.2
    obtain ⟨v,hv⟩:=zxr (ms.getD k 0)
    refine gGw ?_
    refine And.intro ⟨by omega,by omega,Pl.mk _ _⟩ ?_
    conv=>whnf
    refine zaj (ldR (j:=k) zaa (by repeat constructor) rfl rfl (zdn ms k (by omega))) ?_
    refine gGw ?_
    refine And.intro ⟨by omega,by omega,Pl.mk _ _⟩ ?_
    refine gGw ?_
    refine zaz (off:=k) (xs':=(zah (ms.set k v)).map (.int .u8)) zaa rfl (by repeat constructor) rfl rfl (by show k+1≤bs.length*1;omega) Nat.one_pos (set8 hv) ?_
    refine gGw ?_
    exact⟨(i+1,ms.set k v),⟨by show i+1≤ts.length;omega,hT.set v hH3⟩,by show ts.length-(i+1)<ts.length-i;omega,⟨congrArg (fun x=>some (Value.int .i64 x)) (by push_cast;rfl),rfl,rfl,rfl,rfl,rfl,rfl,rfl,trivial⟩,SubM.sl⟩
   ·refine br_f (by simp only [Bool.and_eq_false_iff,decide_eq_false_iff_not];by_cases h:cq<HW.length;exact .inr (fun h2=>hyes ⟨h,h2⟩);exact .inl (by omega)) ?_
    refine gGw ?_
    exact⟨(i+1,ms),⟨by show i+1≤ts.length;omega,hT⟩,by show ts.length-(i+1)<ts.length-i;omega,⟨congrArg (fun x=>some (Value.int .i64 x)) (by push_cast;rfl),rfl,rfl,rfl,rfl,rfl,rfl,rfl,trivial⟩,SubM.sl⟩
  ·refine gGw ?_
   have hth:=zhO q4 (bs:=bs) (U:=zdK) hT
   refine⟨zc9,zac (m1:=[]) .nil (fun w' hm'=>zk9 bs.length ms _ mc w' hml (zaB (hm'.ok (BR8 (some ⟨b8,0,none⟩) mc bs.length ms) (by simp))) (by omega) hcapm) ?_⟩
   rintro e m' (⟨hn,_⟩|⟨p2,r2,fA2,fc2,z1,z2,z3,z4,z5,z6,rfl,rfl⟩)
   ·rw [hth,q1] at hn;cases hn
   obtain rfl:r2=r:=zo8 q4 z4 q5 q2 z2 q3 z3 q1 z1 hT q6 z6
   refine gGw ?_;(repeat ((first|refine .mk fun Ap capp=>?_|intro _);(conv=>whnf);refine gG0 ?_))
   refine⟨zcF,zae _ (fun w' _=>zfj 0 w') ?_⟩
   refine gGw ?_
   refine⟨_,cpg zcF (fun _ w' _=>zfj 0 w'),?_⟩
   refine gGw ?_
   refine⟨.bool true,cpg zlM (fun _ w' hm'=>zrm r2 fA fA2 fc fc2 w' hfl (RowIn.of_row (fun _=>rfl) (by decide) (hm'.ok (FR fA fc r2.finds) (by simp))) (RowIn.of_row (fun _=>rfl) (by decide) (hm'.ok (FR fA2 fc2 r2.finds) (by simp)))),?_⟩
   refine gGw ?_
   refine⟨_,cpg zc7 (fun _ w' _=>zhy w'),?_⟩
   refine gGw ?_
   exact fin1 rfl rfl (fun w' hm=>⟨[],⟨rfl,rfl⟩,hm.sublist (List.nil_sublist _)⟩)
end Go.Proofs.YtlmgelmloddfgaaGreat
namespace Go.Proofs.YtlmgelmloddfgaaGreat
open Go Go.RowKit Eng
def BitsL (L:List UInt8):Prop:=∀ b∈L,b.toNat≤1
def numU:List UInt8→Nat
 | []=>0
 | b::r=>b.toNat+2*numU r
theorem zm9:∀ {L:List UInt8},BitsL L→numU L<2 ^ L.length
 | [],_=>by decide
 | b::r,h=>by
  have h1:=zm9 (L:=r) fun x hx=>h x (List.mem_cons_of_mem _ hx)
  have h2:=h b (List.mem_cons_self ..)
  rw [numU,List.length_cons,Nat.pow_succ]
  omega
theorem BitsL.drop {L:List UInt8} (h:BitsL L) (n:Nat):BitsL (L.drop n):=fun b hb=>h b (List.mem_of_mem_drop hb)
theorem BitsL.take {L:List UInt8} (h:BitsL L) (n:Nat):BitsL (L.take n):=fun b hb=>h b (List.mem_of_mem_take hb)
def zfs:Nat→Nat→List UInt8
 | _,0=>[]
 | x,n+1=>UInt8.ofNat (x%2)::zfs (x/2) n
theorem ziS:∀ (n x:Nat),(zfs x n).length=n
 | 0,_=>rfl
 | n+1,x=>by rw [zfs,List.length_cons,ziS n]
theorem zoW:∀ (n x:Nat),BitsL (zfs x n)
 | 0,_=>fun b hb=>by cases hb
 | n+1,x=>fun b hb=>by
  rw [zfs] at hb
  rcases List.mem_cons.1 hb with rfl|hb
  ·rw [UInt8.toNat_ofNat'];omega
  ·exact zoW n _ b hb
def zdr (bs:List UInt8):List UInt8:=bs.flatMap fun b=>zfs b.toNat 8
theorem zqr (bs:List UInt8):(zdr bs).length=8*bs.length:=by
 induction bs with
 | nil=>rfl
 | cons b r ih =>
  show (zfs b.toNat 8++zdr r).length=_
  rw [List.length_append,ziS,ih,List.length_cons];omega
theorem zsG (bs:List UInt8):BitsL (zdr bs):=fun b hb=>by
 obtain ⟨x,_,hx⟩:=List.mem_flatMap.1 hb
 exact zoW _ _ b hx
def zdI:Nat→List UInt8→List UInt8
 | 0,_=>[]
 | f+1,L=>if L=[] then [] else UInt8.ofNat (numU (L.take 8)%256)::zdI f (L.drop 8)
def zgD (L:List UInt8) (at_ n:Nat):Except Int (Nat × Nat):=if at_+n≤L.length then .ok (numU ((L.drop at_).take n),at_+n) else .error 120
/-! ## Codes -/
def cdI (l:List Int) (n:Int) (st:Nat × List Int):Nat→Nat × List Int
 | 0=>st
 | i+1=>if l.getD i 0=n then ((cdI l n st i).1+1,(cdI l n st i).2.set i ((cdI l n st i).1:Nat)) else cdI l n st i
def cdN (l:List Int):Nat→Nat × List Int
 | 0=>(0,List.replicate l.length 0)
 | n+1=>cdI l ((n+1:Nat):Int) (2*(cdN l n).1,(cdN l n).2) l.length
theorem zk8 (l:List Int) (n:Int) (st:Nat × List Int):∀ i,(cdI l n st i).2.length=st.2.length
 | 0=>rfl
 | i+1=>by
  rw [cdI]
  split
  ·simp only;rw [List.length_set];exact zk8 l n st i
  ·exact zk8 l n st i
theorem znG (l:List Int):∀ n,(cdN l n).2.length=l.length
 | 0=>by rw [cdN,List.length_replicate]
 | n+1=>by rw [cdN,zk8];exact znG l n
theorem zsz (l:List Int) (n:Int) (st:Nat × List Int) (M:Nat) (h0:∀ x∈st.2,0≤x∧x≤M) (hM:st.1+l.length≤M):∀ i,i≤l.length→(cdI l n st i).1≤st.1+i∧∀ x∈(cdI l n st i).2,0≤x∧x≤M
 | 0,_=>⟨Nat.le_refl _,h0⟩
 | i+1,hi=>by
  obtain ⟨h1,h2⟩:=zsz l n st M h0 hM i (by omega)
  rw [cdI]
  split
  ·refine⟨by simp only;omega,fun x hx=>?_⟩
   simp only at hx
   rcases List.mem_or_eq_of_mem_set hx with hx|rfl
   ·exact h2 x hx
   ·omega
  ·exact⟨by omega,h2⟩
theorem zvL (l:List Int):∀ n,(cdN l n).1+l.length≤l.length*2 ^ n∧∀ x∈(cdN l n).2,0≤x∧x≤((l.length*2 ^ n:Nat):Int)
 | 0=>by
  refine⟨by show 0+l.length≤l.length*2 ^ 0;omega,fun x hx=>?_⟩
  rw [cdN] at hx
  rw [(List.mem_replicate.1 hx).2]
  omega
 | n+1=>by
  obtain ⟨h1,h2⟩:=zvL l n
  have e:l.length*2 ^ (n+1)=2*(l.length*2 ^ n):=by rw [Nat.pow_succ];rw [← Nat.mul_assoc,Nat.mul_comm _ 2]
  have h3:=zsz l ((n+1:Nat):Int) (2*(cdN l n).1,(cdN l n).2) (l.length*2 ^ (n+1)) (fun x hx=>by have:=h2 x hx;rw [e];omega) (by simp only;rw [e];omega) l.length (Nat.le_refl _)
  rw [cdN]
  refine⟨?_,h3.2⟩
  have:=h3.1
  simp only at this
  rw [e]
  omega
def ze6 (l:List Int):List Int:=(cdN l 15).2
def rIn (l cs:List Int) (n:Int) (x:Nat):Nat→Nat→Option Nat
 | 0,_=>none
 | r+1,i=>if l.getD i 0=n∧cs.getD i 0=(x:Int) then some i else rIn l cs n x r (i+1)
def rTk (l cs:List Int) (bits:List UInt8):Nat→Nat→Nat→Option (Nat × Nat)
 | 0,_,_=>none
 | r+1,n,x=>match rIn l cs (n:Int) (2*x+(bits.getD (n-1) 0).toNat) l.length 0 with
  | some i=>some (i,n)
  | none=>rTk l cs bits r (n+1) (2*x+(bits.getD (n-1) 0).toNat)
def zhm (l:List Int) (L:List UInt8) (at_:Nat):Except Int (Int × Nat):=match rTk l (ze6 l) ((L.drop at_).take 15) ((L.drop at_).take 15).length 1 0 with
 | some (i,n)=>.ok ((i:Nat),at_+n)
 | none=>.error 1
theorem zvx {l cs:List Int} {n:Int} {x:Nat}:∀ (r i k:Nat),rIn l cs n x r i=some k→i≤k∧k<i+r
 | 0,_,_,h=>by cases h
 | r+1,i,k,h=>by
  rw [rIn] at h
  split at h
  ·injection h with h;omega
  ·have:=zvx r (i+1) k h
   omega
theorem zry {l cs:List Int} {bits:List UInt8}:∀ (r n x i k:Nat),rTk l cs bits r n x=some (i,k)→i<l.length∧n≤k∧k<n+r
 | 0,_,_,_,_,h=>by cases h
 | r+1,n,x,i,k,h=>by
  rw [rTk] at h
  split at h
  ·rename_i i' hi
   injection h with h
   injection h with h1 h2
   subst h1 h2
   have:=zvx _ _ _ hi
   omega
  ·have:=zry r (n+1) _ i k h
   omega
theorem zkj {l:List Int} {L:List UInt8} {at_ a:Nat} {x:Int} (ha:at_≤L.length) (h:zhm l L at_=.ok (x,a)):at_<a∧a≤L.length∧0≤x∧x<l.length:=by
 unfold zhm at h
 split at h
 ·rename_i i n hk
  injection h with h
  injection h with h1 h2
  have:=zry _ _ _ _ _ hk
  rw [List.length_take,List.length_drop] at this
  omega
 ·cases h
def zfz (l:List Int) (none_:Bool):Bool:=decide (zbf l=32768)||(!(l.any fun x=>decide (1<x))&&(decide (l.countP (fun x=>decide (x=1))=1)||(decide (l.countP (fun x=>decide (x=1))=0)&&none_)))
/-! ## A stream's work -/
def zj5 (L:List UInt8) (most:Int) (at_:Nat) (o:List UInt8):Except Int (Nat × List UInt8) :=
 match zgD L (zb8 at_) 16 with
 | .error e=>.error e
 | .ok (n,a1)=>match zgD L a1 16 with
  | .error e=>.error e
  | .ok (m,a2) =>
   if n+m=65535 then
    if most-o.length<n then .error 141
    else if n≤(L.length-a2)/8 then .ok (a2+8*n,o++zdI (8*n) ((L.drop a2).take (8*n))) else .error 120
   else .error 150
def cpyX (far:Nat) (o:List UInt8):Nat→List UInt8
 | 0=>o
 | i+1=>cpyX far o i++[(cpyX far o i).getD ((cpyX far o i).length-far) 0]
theorem zk2 (far:Nat) (o:List UInt8):∀ i,(cpyX far o i).length=o.length+i
 | 0=>rfl
 | i+1=>by rw [cpyX,List.length_append,zk2 far o i];simp;omega
def zjy (L:List UInt8) (D:List Int) (most x:Int) (at_:Nat) (o:List UInt8):Except Int (Nat × List UInt8) :=
 match zgD L at_ ((lWid 28).getD (x-257).toNat 0).toNat with
 | .error e=>.error e
 | .ok (more,a1) =>
  if x=284∧more=31 then .error 152
  else match zhm D L a1 with
   | .error e=>.error e
   | .ok (y,a2) =>
    if 29<y then .error 152
    else match zgD L a2 ((dWid 30).getD y.toNat 0).toNat with
     | .error e=>.error e
     | .ok (m2,a3) =>
      if (o.length:Int)<dFir.getD y.toNat 0+m2 then .error 140
      else if most-o.length<lFir.getD (x-257).toNat 0+more then .error 141
      else .ok (a3,cpyX (dFir.getD y.toNat 0+m2).toNat o (lFir.getD (x-257).toNat 0+more).toNat)
def zdP (L:List UInt8) (C D:List Int) (most:Int):Nat→Nat→List UInt8→Except Int (Nat × List UInt8)
 | 0,_,_=>.error 120
 | f+1,at_,o=>match zhm C L at_ with
  | .error e=>.error e
  | .ok (x,a1) =>
   if x=256 then .ok (a1,o)
   else if x<256 then
    if most≤o.length then .error 141 else zdP L C D most f a1 (o++[UInt8.ofNat x.toNat])
   else if 285<x then .error 152
   else match zjy L D most x a1 o with
    | .error e=>.error e
    | .ok (a2,o2)=>zdP L C D most f a2 o2
def rowX (L:List UInt8) (C:List Int) (n:Nat):Nat→Nat→List Int→DRes
 | 0,_,_=>.error 120
 | f+1,at_,r =>
  if n≤r.length then .ok (at_,r)
  else match zhm C L at_ with
   | .error e=>.error e
   | .ok (x,a1) =>
    if x<16 then rowX L C n f a1 (r++[x])
    else match zgD L a1 (if x=16 then 2 else if x=17 then 3 else 7) with
     | .error e=>.error e
     | .ok (m,a2) =>
      if x=16∧r.length=0 then .error 151
      else if n-r.length<(if x=18 then m+11 else m+3) then .error 151
      else rowX L C n f a2 (r++List.replicate (if x=18 then m+11 else m+3) (if x=16 then r.getD (r.length-1) 0 else 0))
def zpS (L:List UInt8):Nat→Nat→Nat→List Int→DRes
 | 0,_,at_,l=>.ok (at_,l)
 | r+1,i,at_,l=>match zgD L at_ 3 with
  | .error e=>.error e
  | .ok (m,a)=>zpS L r (i+1) a (l.set (ordL.getD i 0).toNat m)
def zfY (L:List UInt8):Nat:=L.length+1
def zvF (L:List UInt8) (most:Int) (at_:Nat) (o:List UInt8):Except Int (Nat × List UInt8):=zdP L fixL fixD most (zfY L) at_ o
def zu2 (L:List UInt8) (at_:Nat):Except Int (Nat × List Int × List Int) :=
 match zgD L at_ 5 with
 | .error e=>.error e
 | .ok (a,a1)=>match zgD L a1 5 with
  | .error e=>.error e
  | .ok (b,a2)=>match zgD L a2 4 with
   | .error e=>.error e
   | .ok (c,a3) =>
    if 286<a+257∨30<b+1 then .error 151
    else match zpS L (c+4) 0 a3 (List.replicate 19 0) with
     | .error e=>.error e
     | .ok (a4,l) =>
      if zfz l false then
       match rowX L l (a+b+258) (zfY L) a4 [] with
       | .error e=>.error e
       | .ok (a5,r) =>
        if r.getD 256 0=0 then .error 151
        else if zfz (r.take (a+257)) false&&zfz (r.drop (a+257)) true then .ok (a5,r.take (a+257),r.drop (a+257)) else .error 151
      else .error 151
def zoS (L:List UInt8) (most:Int) (at_:Nat) (o:List UInt8):Except Int (Nat × List UInt8):=match zu2 L at_ with
 | .error e=>.error e
 | .ok (a,l,d)=>zdP L l d most (zfY L) a o
def zwS (L:List UInt8) (most:Int) (kind at_:Nat) (o:List UInt8):Except Int (Nat × List UInt8) :=
 if kind=0 then zj5 L most at_ o else if kind=1 then zvF L most at_ o else if kind=2 then zoS L most at_ o else .error 150
def zoU (L:List UInt8) (most:Int) (at_:Nat) (o:List UInt8):Except Int (Bool × Nat × List UInt8) :=
 match zgD L at_ 1 with
 | .error e=>.error e
 | .ok (last,a1)=>match zgD L a1 2 with
  | .error e=>.error e
  | .ok (kind,a2)=>match zwS L most kind a2 o with
   | .error e=>.error e
   | .ok (a3,o2)=>.ok (decide (last=1),a3,o2)
def zhJ (L:List UInt8) (most:Int):Nat→Nat→List UInt8→Except Int (Nat × List UInt8)
 | 0,_,_=>.error 120
 | f+1,at_,o=>match zoU L most at_ o with
  | .error e=>.error e
  | .ok (last,a,o2)=>if last then .ok (a,o2) else zhJ L most f a o2
def zhq (bs:List UInt8) (most:Int):Bool:=match zhJ (zdr bs) most (zfY (zdr bs)) 0 [] with
 | .error _=>true
 | .ok (_,o)=>!decide ((o.length:Int)=most)
end Go.Proofs.YtlmgelmloddfgaaGreat
