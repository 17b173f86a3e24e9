/- Part of a proof: contracts of the functions that the law reaches. No statement of the seat is proved here. -/
import Derived.Test.YtlmgelmloddfgaaGreatCcM7
import Derived.Lib.AppendStr
set_option linter.unusedVariables false
set_option linter.unusedSimpArgs false
set_option linter.unusedSectionVars false
set_option maxRecDepth 100000
namespace Go.Proofs.YtlmgelmloddfgaaGreat
open Go Go.RowKit Eng
section
theorem zq1 {U:List UInt8→Int→Bool} {p:WP} (hp:p.Ok) (a:Int):(tL1 U p a).length≤24577:=by
 have hc1:=hp.c1
 have hc0:=hp.c0
 unfold tL1
 split
 ·simp
 ·rw [List.length_append]
  have h1:=zf6 hp (zaY (zaz p a)) a 1
  split
  ·unfold tL2
   have h2:=zig (f:=fun k=>tEnt U p (zaY (zaz p a)+8*(k:Nat))) (M:=3) (p.c/8).toNat (fun k=>zn4 hp _)
   omega
  ·simp;omega
attribute [local irreducible] Br Rn RnU Cl RdG CpG Ld Rd Lp Dr Oth Cut fin Fits Eng.Enters Md NA
theorem zh6:Eng.Enters Tryz.prog 69:=zab fun _ _=>by kernel_rfl
set_option maxHeartbeats 2000000 in
theorem zoa (U:List UInt8→Int→Bool) (hU:zc5 U) (p:WP) (s:RS) (g:RG) (a long st:Int) (w:World) (hp:p.Ok) (hlb:p.bs.length≤20000) (hcap:p.bs.length≤p.cap) (hbits:9≤p.h.bits∧p.h.bits≤16) (hcb:p.c=clus p.h.bits) (hl:s.len≤13900000000) (ha:0≤a∧a≤4611686018427387904) (hn:0≤long∧long≤4611686018427387) (hb:BInR p s g w) (hm:MemOk w (Foot (rM p s g)) (rM p s g) w) :
  Ctr Tryz.prog 69 [.pointer (some ⟨p.wB,0,none⟩),.int .i64 a,.int .i64 long,.int .i64 st] (rM p s g) (RwR p (.tuple #[]) (zav s (zby U p a long st))) w:=by
 refine enter (cx:=CXS 48 [] w (Foot (rM p s g))) [(0,.pointer (some ⟨p.wB,0,none⟩)),(1,.int .i64 a),(2,.int .i64 long),(3,.int .i64 st)] zaa Tryz.func69 rfl rfl rfl rfl hm ?_
 have hc0:=hp.c0
 have hc1:=hp.c1
 have hc8:=hp.c8
 have hlen:=hp.len
 have hnb:=n_bd hp
 unfold zby
 refine gGw ?_
 refine br_d (fun h0=>?_) (fun h0=>?_)
 ·rw [if_pos h0]
  refine gGw ?_
  refine br_t rfl ?_
  refine gGw ?_
  exact fin0 rfl (fun w' hm=>⟨rM p s g,⟨rfl,g,rfl⟩,hm⟩) (by first|exact .inl rfl|exact .inr rfl)
 rw [if_neg h0,zbj]
 refine gGw ?_
 refine⟨zaT,zac (m1:=rM p s g) (by repeat constructor) (fun w' hm'=>zbw p s g a (8*long) 0 st w' hp (by omega) (by omega) hcb (by omega) (by omega) (by omega) (by omega) hm'.part) ?_⟩
 rintro e' m' ⟨rfl,g1,rfl⟩
 have hln:=zaW (tRun p a (8*long) st 0) s
 have htl:=zb6 hp a (8*long) st 0
 generalize zav s (tRun p a (8*long) st 0)=s1 at hln ⊢
 refine gGw ?_
 refine br_n (br (fun hok=>?_) (fun hok=>?_))
 rotate_left
 ·refine gGw ?_
  exact fin0 rfl (fun w' hm=>⟨rM p s1 g1,⟨rfl,g1,by rw [hok];rfl⟩,hm⟩) (by first|exact .inl rfl|exact .inr rfl)
 have hle:=zaF hp hok
 rw [if_pos hok]
 clear hok
 refine gGw ?_
 refine lp zaa (γ:=Nat × RG) (fun q=>(q.1:Int)≤long)
  (fun q=>[(8,.int .i64 (q.1:Int)),(0,.pointer (some ⟨p.wB,0,none⟩)),(1,.int .i64 a),(2,.int .i64 long)]) (fun q=>rM p (zav s1 (rng q.1 fun i=>tL1 U p (a+8*(i:Nat)))) q.2) (fun q=>long.toNat-q.1) (0,g1) (by simp only;omega) ⟨rfl,rfl,rfl,rfl,trivial⟩ SubM.sl ?_
 rintro ⟨i,g2⟩ hi
 simp only at hi
 have hln2:=zaW (rng i fun i=>tL1 U p (a+8*(i:Nat))) s1
 have hln3:=zig (f:=fun i=>tL1 U p (a+8*(i:Nat))) (M:=24577) i (fun k=>zq1 hp _)
 obtain ⟨S,hS⟩:∃ S,S=zav s1 (rng i fun i=>tL1 U p (a+8*(i:Nat))):=⟨_,rfl⟩
 have hSl:S.len≤13990000000:=by rw [hS];omega
 dsimp only
 have eN:zav s1 (rng (i+1) fun i=>tL1 U p (a+8*(i:Nat)))=zav S (tL1 U p (a+8*(i:Nat))):=by rw [zb7,zbj,hS]
 rw [← hS]
 refine gGw ?_
 refine br_d (fun hlt=>?_) (fun hge=>?_)
 ·have hwb:=zd8 p (a+8*(i:Int))
  have hwr:=IntKind.wrap_i64 (zaz p (a+8*(i:Int)))
  have hpl:=zjs hp hwb (a+8*(i:Int)) 1
  have hpw:=zev hp hwb
  refine gGw ?_
  refine⟨zds,zae _ (fun w' hm'=>zkk p S g2 (a+8*(i:Int)) w' hp (hb w' hm'.fr) (by omega) (zdw (r:=[]) hm')) ?_⟩
  refine gGw ?_
  refine br_n (br_d (fun hz=>?_) (fun hz=>?_))
  ·have hz0:zaz p (a+8*(i:Int))=0:=by rw [hwr] at hz;omega
   rw [show tL1 U p (a+8*(i:Nat))=[] from if_pos hz0] at eN
   change zav s1 (rng (i+1) fun i=>tL1 U p (a+8*(i:Nat)))=S at eN
   refine gGw ?_
   refine br_f rfl ?_
   refine gGw ?_
   refine⟨(i+1,g2),by show ((i+1:Nat):Int)≤long;omega,by show long.toNat-(i+1)<long.toNat-i;omega,⟨congrArg (fun x=>some (Value.int .i64 x)) (by push_cast;rfl),rfl,rfl,rfl,trivial⟩,?_⟩
   show SubM _ _ (rM p (zav s1 (rng (i+1) fun i=>tL1 U p (a+8*(i:Nat)))) _)
   rw [eN]
   exact SubM.sl
  ·have hz0:¬ zaz p (a+8*(i:Int))=0:=fun h=>by rw [hwr] at hz;omega
   have eF:tL1 U p (a+8*(i:Nat))=tRun p (zaY (zaz p (a+8*(i:Int)))) p.c (a+8*(i:Int)) 1++if zau p (zaY (zaz p (a+8*(i:Int)))) p.c then tL2 U p (zaY (zaz p (a+8*(i:Int)))) else []:=if_neg hz0
   rw [eF,zbj,← hpl] at eN
   refine gGw ?_
   refine⟨zbl,zae _ (fun w' hm'=>zcF p S g2 w' (by omega) hcb (zdw (r:=[]) hm')) ?_⟩
   refine gGw ?_
   refine⟨zaT,zac (m1:=rM p S g2) (by repeat constructor) (fun w' hm'=>zbw p S g2 _ p.c 1 (a+8*(i:Int)) w' hp (by omega) (by omega) hcb (by omega) (by rw [hwr];omega) (by omega) (by omega) hm'.part) ?_⟩
   rintro e' m' ⟨rfl,g4,rfl⟩
   have hl4:=zaW (tRun p (IntKind.i64.wrap (zaz p (a+8*(i:Int)))) p.c (a+8*(i:Int)) 1) S
   have ht4:=zf6 hp (IntKind.i64.wrap (zaz p (a+8*(i:Int)))) (a+8*(i:Int)) 1
   generalize zav S (tRun p (IntKind.i64.wrap (zaz p (a+8*(i:Int)))) p.c (a+8*(i:Int)) 1)=S4 at eN hl4 ⊢
   rw [hpw.1]
   refine gGw ?_
   refine br (fun hw=>?_) (fun hw=>?_)
   ·have hle4:=zaF hp hw
    rw [if_pos hw] at eN
    rw [hpw.2 hw]
    refine gGw ?_
    refine⟨zmV,zac (m1:=rM p S4 g4) (by repeat constructor) (fun w' hm'=>zuj U hU p S4 g4 _ w' hp hlb hcap hbits hcb (by omega) (by omega) (stb hm' (fun w3 h3=>hb w3 h3.fr)) hm'.part) ?_⟩
    rintro e' m' ⟨rfl,g5,rfl⟩
    refine gGw ?_
    refine⟨(i+1,g5),by show ((i+1:Nat):Int)≤long;omega,by show long.toNat-(i+1)<long.toNat-i;omega,⟨congrArg (fun x=>some (Value.int .i64 x)) (by push_cast;rfl),rfl,rfl,rfl,trivial⟩,?_⟩
    show SubM _ _ (rM p (zav s1 (rng (i+1) fun i=>tL1 U p (a+8*(i:Nat)))) _)
    rw [eN]
    exact SubM.sl
   ·rw [hw] at eN
    change zav s1 (rng (i+1) fun i=>tL1 U p (a+8*(i:Nat)))=S4 at eN
    refine gGw ?_
    refine⟨(i+1,g4),by show ((i+1:Nat):Int)≤long;omega,by show long.toNat-(i+1)<long.toNat-i;omega,⟨congrArg (fun x=>some (Value.int .i64 x)) (by push_cast;rfl),rfl,rfl,rfl,trivial⟩,?_⟩
    show SubM _ _ (rM p (zav s1 (rng (i+1) fun i=>tL1 U p (a+8*(i:Nat)))) _)
    rw [eN]
    exact SubM.sl
 ·have ei:i=long.toNat:=by omega
  refine gGw ?_
  exact fin0 rfl (fun w' hm=>⟨_,⟨rfl,g2,by rw [hS,ei]⟩,hm⟩) (by first|exact .inl rfl|exact .inr rfl)
end
section
def zcN (s:ByteArray):Bool:=decide (1≤s.size)&&decide (s.size≤64)&&s.data.toList.all fun x=>!(x == 0)
def zh1 (x:Snp) (bits:Int):Bool :=
 zcN x.name&&decide (0≤x.size)&&decide (x.size≤67108864)&&decide (x.size.tmod 512=0)&&decide (0≤x.l1len)&&decide (x.l1len≤1048576) &&
 ((decide (x.l1len=0)&&decide (x.l1=0))||(decide (0<x.l1len)&&plB x.l1 (clus bits)))
def rowB (x:Rwp) (bits:Int):Bool :=
 zcN x.name&&decide (9≤x.gran)&&decide (x.gran≤31)&&decide (0≤x.flags)&&decide (x.flags≤3) &&
 ((decide (x.at_=0)&&decide (x.len=0))||(plB x.at_ (clus bits)&&decide (1≤x.len)&&decide (x.len≤16777216)))
attribute [local irreducible] Br Rn RnU Cl RdG CpG Ld Rd Lp Dr Oth Cut fin Fits Eng.Enters Md NA
theorem zf4:Eng.Enters Tryz.prog 205:=zab fun _ _=>by kernel_rfl
theorem zec:Eng.Enters Tryz.prog 206:=zab fun _ _=>by kernel_rfl
theorem zlo:Eng.Enters Tryz.prog 179:=zab fun _ _=>by kernel_rfl
theorem zmH:Eng.Enters Tryz.prog 183:=zab fun _ _=>by kernel_rfl
theorem zh2:Eng.Enters Tryz.prog 174:=zab fun _ _=>by kernel_rfl
theorem zjq (s:ByteArray) (w:World):Calls Tryz.prog 205 #[.string s] w fun e w'=>e=.returned (.bool (zcN s))∧Fr (fun _=>False) w w':=by
 refine enter (cx:=⟨Tryz.prog,16,w,fun _=>False,tab,[],[164],[],[]⟩) [(0,.string s)] zaa Tryz.func205 rfl rfl rfl rfl (MemOk.nil w _) ?_
 refine gGw ?_
 refine⟨_,cpg zb8 (fun _ w' _=>zc3 s w'),?_⟩
 refine gGw ?_
 refine fin1 rfl rfl (fun w' hm=>⟨?_,hm.fr⟩)
 unfold zcN
 rw [Bool.not_not,decide_eq_decide.2 (show (1:Int)≤(s.size:Int)↔1≤s.size by omega),decide_eq_decide.2 (show (s.size:Int)≤64↔s.size≤64 by omega)]
theorem zgF (a bits:Int) (w:World) (hb:9≤bits∧bits≤16):Calls Tryz.prog 206 #[.int .i64 a,.int .i64 bits] w fun e w'=>e=.returned (.bool (plB a (clus bits)))∧Fr (fun _=>False) w w':=by
 have hcb:=zc0 hb
 refine enter (cx:=CX 18 [] w) [(0,.int .i64 a),(1,.int .i64 bits)] zaa Tryz.func206 rfl rfl rfl rfl (MemOk.nil w _) ?_
 refine gGw ?_
 refine And.intro (fun _=>⟨by omega,by show bits≤(64:Int);omega⟩) ?_
 conv=>whnf
 rw [zhx hb]
 refine gG0 ?_
 refine fin1 rfl rfl (fun w' hm=>⟨by rw [zon],hm.fr⟩)
theorem zn7 (xs ys:List UInt8) (A B:Option Addr) (c d:Nat) (w:World) (hx:BytsIn w A xs) (hy:BytsIn w B ys) (hl:xs.length≤100000000) :
  Calls Tryz.prog 174 #[.slice A xs.length c,.slice B ys.length d] w fun e w'=>e=.returned (.bool (decide (xs=ys)))∧Fr (fun _=>False) w w':=by
 refine enter (cx:=CX 26 [] w) [(0,.slice A xs.length c),(1,.slice B ys.length d)] zaa Tryz.func174 rfl rfl rfl rfl (MemOk.nil w _) ?_
 have h1:=fun m=>BytsIn.byts (cx:=CX 26 [] w) (m:=m) hx (fun _ h=>h)
 have h2:=fun m=>BytsIn.byts (cx:=CX 26 [] w) (m:=m) hy (fun _ h=>h)
 refine gGw ?_
 refine br_n (br_d (fun hle=>?_) (fun hne=>?_))
 rotate_left
 ·have hd:xs≠ys:=fun h=>hne (by rw [h])
  refine gGw ?_
  exact fin1 rfl rfl (fun w' hm=>⟨by rw [decide_eq_false hd],hm.fr⟩)
 have hle':xs.length=ys.length:=by omega
 refine gGw ?_
 refine lp zaa (γ:=Nat) (fun i=>i≤xs.length∧∀ j,j<i→xs.getD j 0=ys.getD j 0) (fun i=>[(13,.int .i64 (i:Int)),(12,.int .i64 (xs.length:Int)),(0,.slice A xs.length c),(1,.slice B ys.length d)]) (fun _=>[]) (fun i=>xs.length-i) 0 ⟨by omega,fun j hj=>by omega⟩ ⟨rfl,rfl,rfl,rfl,trivial⟩ (SubM.refl _ _) ?_
 rintro i ⟨hi,hij⟩
 dsimp only
 conv=>whnf
 refine br_d (fun hlt=>?_) (fun hge=>?_)
 ·have hp1:Pl A:=(h1 []).plain (by omega)
  have hp2:Pl B:=(h2 []).plain (by omega)
  refine gGw ?_
  refine zao zaa mixed (by kernel_rfl) rfl ?_
  conv=>whnf
  refine gG0 ?_
  refine And.intro ⟨by omega,by omega,hp1⟩ ?_
  conv=>whnf
  refine⟨_,((h1 _).ld zaa rfl rfl (j:=i) (by omega)).g,?_⟩
  conv=>whnf
  refine gG0 ?_
  refine And.intro ⟨by omega,by omega,hp2⟩ ?_
  conv=>whnf
  refine⟨_,((h2 _).ld zaa rfl rfl (j:=i) (by omega)).g,?_⟩
  refine gGw ?_
  by_cases he:xs.getD i 0=ys.getD i 0
  ·refine br_n (br_t (decide_eq_true (by rw [he])) ?_)
   refine gGw ?_
   exact⟨i+1,⟨by omega,fun j hj=>by rcases Nat.lt_succ_iff_lt_or_eq.1 hj with h|rfl;exact hij j h;exact he⟩,by omega,⟨rfl,rfl,rfl,rfl,trivial⟩,SubM.refl _ _⟩
  ·have hd:xs≠ys:=fun h=>he (by rw [h])
   refine br_n (br_f (decide_eq_false (fun h=>he (UInt8.toNat_inj.1 (by omega)))) ?_)
   refine gGw ?_
   exact fin1 rfl rfl (fun w' hm=>⟨by rw [decide_eq_false hd],hm.fr⟩)
 ·have hd:xs=ys:=by
   apply List.ext_getElem hle'
   intro j h3 h4
   have:=hij j (by omega)
   rw [List.getD_eq_getElem?_getD,List.getD_eq_getElem?_getD,List.getElem?_eq_getElem h3,List.getElem?_eq_getElem h4] at this
   exact this
  refine gGw ?_
  exact fin1 rfl rfl (fun w' hm=>⟨by rw [decide_eq_true hd],hm.fr⟩)
set_option maxHeartbeats 1000000 in
theorem zqT (x:Snp) (bits:Int) (w:World) (hb:9≤bits∧bits≤16):Calls Tryz.prog 179 #[.agg x.cells.toArray,.int .i64 bits] w fun e w'=>e=.returned (.bool (zh1 x bits))∧Fr (fun _=>False) w w':=by
 refine enter (cx:=⟨Tryz.prog,55,w,fun _=>False,tab,[],[205,206],[],[]⟩) [(0,.agg x.cells.toArray),(1,.int .i64 bits)] zaa Tryz.func179 rfl rfl rfl rfl (MemOk.nil w _) ?_
 refine gGw ?_;(repeat ((first|refine .mk fun Ap capp=>?_|intro _);(conv=>whnf);refine gG0 ?_))
 refine⟨zf4,zae _ (fun w' _=>zjq x.name w') ?_⟩
 refine gGw ?_
 have hS:zh1 x bits=(zcN x.name&&decide (0≤x.size)&&decide (x.size≤67108864)&&decide (x.size.tmod 512=0)&&decide (0≤x.l1len)&&decide (x.l1len≤1048576) &&
  ((decide (x.l1len=0)&&decide (x.l1=0))||(decide (0<x.l1len)&&plB x.l1 (clus bits)))):=rfl
 refine br (fun hP=>?_) (fun hP=>?_)
 rotate_left
 ·rw [hS,hP]
  refine gGw ?_
  exact fin1 rfl rfl (fun w' hm=>⟨rfl,hm.fr⟩)
 rw [hS,hP,Bool.true_and]
 refine gGw ?_
 refine br_d (fun h0=>?_) (fun h0=>?_)
 ·rw [decide_eq_true h0,decide_eq_false (show ¬ 0<x.l1len by omega),Bool.true_and,Bool.false_and,Bool.or_false]
  refine gGw ?_
  refine br (fun h1=>?_) (fun h1=>?_)
  ·change decide (x.l1=0)=true at h1
   rw [h1]
   refine gGw ?_
   exact fin1 rfl rfl (fun w' hm=>⟨rfl,hm.fr⟩)
  ·change decide (x.l1=0)=false at h1
   rw [h1]
   refine gGw ?_
   refine br_f (decide_eq_false (by omega)) ?_
   refine gGw ?_
   exact fin1 rfl rfl (fun w' hm=>⟨rfl,hm.fr⟩)
 ·rw [decide_eq_false h0,Bool.false_and,Bool.false_or]
  refine gGw ?_
  refine br_f rfl ?_
  refine gGw ?_
  refine br_d (fun h1=>?_) (fun h1=>?_)
  ·rw [decide_eq_true h1,Bool.true_and]
   refine gGw ?_
   refine⟨zec,zae _ (fun w' _=>zgF x.l1 bits w' hb) ?_⟩
   refine gGw ?_
   exact fin1 rfl rfl (fun w' hm=>⟨rfl,hm.fr⟩)
  ·rw [decide_eq_false h1,Bool.false_and]
   refine gGw ?_
   exact fin1 rfl rfl (fun w' hm=>⟨rfl,hm.fr⟩)
set_option maxHeartbeats 1000000 in
theorem ztZ (x:Rwp) (bits:Int) (w:World) (hb:9≤bits∧bits≤16):Calls Tryz.prog 183 #[.agg x.cells.toArray,.int .i64 bits] w fun e w'=>e=.returned (.bool (rowB x bits))∧Fr (fun _=>False) w w':=by
 refine enter (cx:=⟨Tryz.prog,54,w,fun _=>False,tab,[],[205,206],[],[]⟩) [(0,.agg x.cells.toArray),(1,.int .i64 bits)] zaa Tryz.func183 rfl rfl rfl rfl (MemOk.nil w _) ?_
 refine gGw ?_;(repeat ((first|refine .mk fun Ap capp=>?_|intro _);(conv=>whnf);refine gG0 ?_))
 refine⟨zf4,zae _ (fun w' _=>zjq x.name w') ?_⟩
 refine gGw ?_
 have hS:rowB x bits=(zcN x.name&&decide (9≤x.gran)&&decide (x.gran≤31)&&decide (0≤x.flags)&&decide (x.flags≤3) &&
  ((decide (x.at_=0)&&decide (x.len=0))||(plB x.at_ (clus bits)&&decide (1≤x.len)&&decide (x.len≤16777216)))):=rfl
 refine br (fun hP=>?_) (fun hP=>?_)
 rotate_left
 ·rw [hS,hP]
  refine gGw ?_
  exact fin1 rfl rfl (fun w' hm=>⟨rfl,hm.fr⟩)
 rw [hS,hP,Bool.true_and]
 refine gGw ?_
 refine br_d (fun h0=>?_) (fun h0=>?_)
 ·have hp0:plB x.at_ (clus bits)=false:=by unfold plB;rw [decide_eq_false (show ¬ 0<x.at_ by omega)];rfl
  rw [decide_eq_true h0,hp0,Bool.true_and,Bool.false_and,Bool.false_and,Bool.or_false]
  refine gGw ?_
  refine br (fun h1=>?_) (fun h1=>?_)
  ·change decide (x.len=0)=true at h1
   rw [h1]
   refine gGw ?_
   exact fin1 rfl rfl (fun w' hm=>⟨rfl,hm.fr⟩)
  ·change decide (x.len=0)=false at h1
   rw [h1]
   refine gGw ?_
   refine⟨zec,zae _ (fun w' _=>zgF x.at_ bits w' hb) ?_⟩
   rw [hp0]
   refine gGw ?_
   refine br_f rfl ?_
   refine gGw ?_
   refine br_f rfl ?_
   refine gGw ?_
   exact fin1 rfl rfl (fun w' hm=>⟨rfl,hm.fr⟩)
 ·rw [decide_eq_false h0,Bool.false_and,Bool.false_or]
  refine gGw ?_
  refine br_f rfl ?_
  refine gGw ?_
  refine⟨zec,zae _ (fun w' _=>zgF x.at_ bits w' hb) ?_⟩
  refine gGw ?_
  refine br (fun h1=>?_) (fun h1=>?_)
  ·rw [h1,Bool.true_and]
   refine gGw ?_
   refine br (fun h2=>?_) (fun h2=>?_)
   ·change decide (1≤x.len)=true at h2
    rw [h2,Bool.true_and]
    refine gGw ?_
    exact fin1 rfl rfl (fun w' hm=>⟨rfl,hm.fr⟩)
   ·change decide (1≤x.len)=false at h2
    rw [h2,Bool.false_and]
    refine gGw ?_
    exact fin1 rfl rfl (fun w' hm=>⟨rfl,hm.fr⟩)
  ·rw [h1,Bool.false_and,Bool.false_and]
   refine gGw ?_
   refine br_f rfl ?_
   refine gGw ?_
   exact fin1 rfl rfl (fun w' hm=>⟨rfl,hm.fr⟩)
end
section
def numT (x:Nat):Int:=if 4611686018427387904≤x then -1 else (x:Int)
theorem zua {s:ByteArray} {i:Nat} (hi:(i:Int)<s.size) (hz:ze2 s (Int.toNat (i:Int))=0):(s.data.toList.all fun x=>!(x == 0))=false:=by
 rw [Int.toNat_natCast] at hz
 unfold ze2 at hz
 have hl:i<s.data.toList.length:=by
  have:s.size=s.data.toList.length:=by rw [Array.length_toList];rfl
  omega
 rw [List.all_eq_false]
 refine⟨_,List.getElem_mem hl,?_⟩
 rw [List.getD_eq_getElem?_getD,List.getElem?_eq_getElem hl] at hz
 have h2:s.data.toList[i]=0:=u8_zero.1 hz
 rw [h2];decide
theorem zub {s:ByteArray} {i:Nat} (hz:¬ ze2 s (Int.toNat (i:Int))=0):s.data.toList.getD i 0≠0:=by
 intro h1
 apply hz
 rw [Int.toNat_natCast]
 unfold ze2
 rw [h1];rfl
theorem zra {s:ByteArray} {i:Nat} (hi:s.size≤i) (hj:∀ j,j<i→s.data.toList.getD j 0≠0):(s.data.toList.all fun x=>!(x == 0))=true:=by
 rw [List.all_eq_true]
 intro x hx
 obtain ⟨j,hjl,rfl⟩:=List.getElem_of_mem hx
 have:s.size=s.data.toList.length:=by rw [Array.length_toList];rfl
 have h1:=hj j (by omega)
 rw [List.getD_eq_getElem?_getD,List.getElem?_eq_getElem hjl] at h1
 simpa using h1
attribute [local irreducible] Br Rn RnU Cl RdG CpG Ld Rd Lp Dr Oth Cut fin Fits Eng.Enters Md NA
theorem zcL:Eng.Enters Tryz.prog 158:=zab fun _ _=>by kernel_rfl
theorem zbm:Eng.Enters Tryz.prog 212:=zab fun _ _=>by kernel_rfl
theorem zro (bs:List UInt8) (A:Option Addr) (c:Nat) (w:World) (hb:BytsIn w A bs) (hl:bs.length≤8) :
  Calls Tryz.prog 158 #[.slice A bs.length c] w fun e w'=>e=.returned (.int .i64 (numT (leV bs)))∧Fr (fun _=>False) w w':=by
 refine enter (cx:=CX 10 [] w) [(0,.slice A bs.length c)] zaa Tryz.func158 rfl rfl rfl rfl (MemOk.nil w _) ?_
 refine gGw ?_
 refine⟨zef,zae _ (fun w' hm'=>zgL bs A c w' ((BytsIn.byts (cx:=CX 10 [] w) (m:=[]) hb (fun _ h=>h)).in_ hm') hl) ?_⟩
 generalize leV bs=x
 refine gGw ?_
 refine br_d (fun h=>?_) (fun h=>?_)
 ·refine gGw ?_
  exact fin1 rfl rfl (fun w' hm=>⟨by rw [numT,if_pos (by omega)],hm.fr⟩)
 ·refine gGw ?_
  exact fin1 rfl rfl (fun w' hm=>⟨by rw [numT,if_neg (by omega)],hm.fr⟩)
theorem zb9 (s:ByteArray) (w:World) (hs:s.size≤1000000) :
  Calls Tryz.prog 212 #[.string s] w fun e w'=>e=.returned (.bool (zcN s))∧Fr (fun _=>False) w w':=by
 refine enter (cx:=CX 22 [] w) [(0,.string s)] zaa Tryz.func212 rfl rfl rfl rfl (MemOk.nil w _) ?_
 refine gGw ?_
 refine lp zaa (γ:=Nat) (fun i=>i≤s.size∧∀ j,j<i→s.data.toList.getD j 0≠0) (fun i=>[(3,.int .i64 (i:Int)),(0,.string s)]) (fun _=>[]) (fun i=>s.size-i) 0 ⟨Nat.zero_le _,fun j hj=>absurd hj (Nat.not_lt_zero _)⟩ ⟨rfl,rfl,trivial⟩ (SubM.refl _ _) ?_
 rintro i ⟨hi,hji⟩
 dsimp only
 refine gGw ?_
 refine br_d (fun hlt=>?_) (fun hge=>?_)
 ·refine gGw ?_
  refine br_d (fun hz=>?_) (fun hz=>?_)
  ·have hno:zcN s=false:=by
    unfold zcN
    rw [zua hlt hz,Bool.and_false]
   refine gGw ?_
   exact fin1 rfl rfl (fun w' hm=>⟨by rw [hno],hm.fr⟩)
  ·refine gGw ?_
   refine⟨i+1,⟨by omega,fun j hj=>?_⟩,by omega,⟨rfl,rfl,trivial⟩,SubM.refl _ _⟩
   rcases Nat.lt_succ_iff_lt_or_eq.1 hj with hj|rfl
   ·exact hji j hj
   ·exact zub hz
 ·have h9:=zra (s:=s) (i:=i) (by omega) hji
  have hend:zcN s=(decide (1≤(s.size:Int))&&decide ((s.size:Int)≤64)):=by
   unfold zcN
   rw [h9,Bool.and_true]
   congr 1
   ·exact decide_eq_decide.2 (by omega)
   ·exact decide_eq_decide.2 (by omega)
  refine gGw ?_
  exact fin1 rfl rfl (fun w' hm=>⟨by rw [hend],hm.fr⟩)
end
section
attribute [local irreducible] Br Rn RnU Cl RdG CpG Ld Rd Lp Dr Oth Cut fin Fits Eng.Enters Md NA
theorem zkn:Eng.Enters Tryz.prog 189:=zab fun _ _=>by kernel_rfl
theorem zpC (x:Snp) (bits:Int) (w:World) (hb:9≤bits∧bits≤16) (hs:x.name.size≤1000000) :
  Calls Tryz.prog 189 #[.agg x.cells.toArray,.int .i64 bits] w fun e w'=>e=.returned (.bool (zh1 x bits))∧Fr (fun _=>False) w w':=by
 refine enter (cx:=⟨Tryz.prog,57,w,fun _=>False,tab,[],[73],[],[]⟩) [(0,.agg x.cells.toArray),(1,.int .i64 bits)] zaa Tryz.func189 rfl rfl rfl rfl (MemOk.nil w _) ?_
 have hl1:∃ L,L=((decide (x.l1len=0)&&decide (x.l1=0))||(decide (0<x.l1len)&&plB x.l1 (clus bits))):=⟨_,rfl⟩
 obtain ⟨L,hL⟩:=hl1
 have eB:zh1 x bits=(zcN x.name&&decide (0≤x.size)&&decide (x.size≤67108864)&&decide (x.size.tmod 512=0)&&decide (0≤x.l1len)&&decide (x.l1len≤1048576)&&L):=by rw [hL];rfl
 have eC:∀ M,L=M→zh1 x bits=(zcN x.name&&M&&decide (0≤x.l1len)&&decide (x.l1len≤1048576)&&decide (0≤x.size)&&decide (x.size≤67108864)&&decide (x.size.tmod 512=0)):=by
  intro M hM
  rw [eB,hM]
  ac_rfl
 refine gGw ?_;(repeat ((first|refine .mk fun Ap capp=>?_|intro _);(conv=>whnf);refine gG0 ?_))
 refine br (fun h1=>?_) (fun h1=>?_)
 ·have hT:L=true:=by rw [hL,h1];rfl
  refine gGw ?_
  refine⟨zbm,zae _ (fun w' _=>zb9 x.name w' hs) ?_⟩
  refine gGw ?_
  exact fin1 rfl rfl (fun w' hm=>⟨by rw [eC _ hT];try rfl,hm.fr⟩)
 ·rw [h1,Bool.false_or] at hL
  refine gGw ?_
  refine br (fun h2=>?_) (fun h2=>?_)
  ·rw [h2,Bool.true_and] at hL
   refine gGw ?_
   refine⟨zbi,zae _ (fun w' _=>zcf x.l1 bits w' (by omega)) ?_⟩
   refine gGw ?_
   refine⟨zbm,zae _ (fun w' _=>zb9 x.name w' hs) ?_⟩
   refine gGw ?_
   exact fin1 rfl rfl (fun w' hm=>⟨by rw [eC _ hL];try rfl,hm.fr⟩)
  ·rw [h2,Bool.false_and] at hL
   refine gGw ?_
   refine⟨zbm,zae _ (fun w' _=>zb9 x.name w' hs) ?_⟩
   refine gGw ?_
   exact fin1 rfl rfl (fun w' hm=>⟨by rw [eC _ hL];try rfl,hm.fr⟩)
theorem zko:Eng.Enters Tryz.prog 191:=zab fun _ _=>by kernel_rfl
theorem zpD (x:Rwp) (bits:Int) (w:World) (hb:9≤bits∧bits≤16) (hs:x.name.size≤1000000) :
  Calls Tryz.prog 191 #[.agg x.cells.toArray,.int .i64 bits] w fun e w'=>e=.returned (.bool (rowB x bits))∧Fr (fun _=>False) w w':=by
 refine enter (cx:=⟨Tryz.prog,56,w,fun _=>False,tab,[],[73],[],[]⟩) [(0,.agg x.cells.toArray),(1,.int .i64 bits)] zaa Tryz.func191 rfl rfl rfl rfl (MemOk.nil w _) ?_
 have hl1:∃ L,L=((decide (x.at_=0)&&decide (x.len=0))||(plB x.at_ (clus bits)&&decide (1≤x.len)&&decide (x.len≤16777216))):=⟨_,rfl⟩
 obtain ⟨L,hL⟩:=hl1
 have eB:rowB x bits=(zcN x.name&&decide (9≤x.gran)&&decide (x.gran≤31)&&decide (0≤x.flags)&&decide (x.flags≤3)&&L):=by rw [hL];rfl
 have eC:∀ M,L=M→rowB x bits=(zcN x.name&&M&&decide (9≤x.gran)&&decide (x.gran≤31)&&decide (0≤x.flags)&&decide (x.flags≤3)):=by
  intro M hM
  rw [eB,hM]
  ac_rfl
 refine gGw ?_;(repeat ((first|refine .mk fun Ap capp=>?_|intro _);(conv=>whnf);refine gG0 ?_))
 refine br (fun h1=>?_) (fun h1=>?_)
 ·have hT:L=true:=by rw [hL,h1];rfl
  refine gGw ?_
  refine⟨zbm,zae _ (fun w' _=>zb9 x.name w' hs) ?_⟩
  refine gGw ?_
  exact fin1 rfl rfl (fun w' hm=>⟨by rw [eC _ hT];try rfl,hm.fr⟩)
 ·rw [h1,Bool.false_or] at hL
  refine gGw ?_
  refine⟨zbi,zae _ (fun w' _=>zcf x.at_ bits w' (by omega)) ?_⟩
  cases hp:plB x.at_ (clus bits) with
  | false =>
   rw [hp,Bool.false_and,Bool.false_and] at hL
   refine gGw ?_
   refine br_f rfl ?_
   refine gGw ?_
   refine br_f rfl ?_
   refine gGw ?_
   refine⟨zbm,zae _ (fun w' _=>zb9 x.name w' hs) ?_⟩
   refine gGw ?_
   exact fin1 rfl rfl (fun w' hm=>⟨by rw [eC _ hL];try rfl,hm.fr⟩)
  | true =>
   rw [hp,Bool.true_and] at hL
   refine gGw ?_
   refine br_t rfl ?_
   refine gGw ?_
   refine br (fun h2=>?_) (fun h2=>?_)
   ·change decide (1≤x.len)=true at h2
    rw [h2,Bool.true_and] at hL
    refine gGw ?_
    refine⟨zbm,zae _ (fun w' _=>zb9 x.name w' hs) ?_⟩
    refine gGw ?_
    exact fin1 rfl rfl (fun w' hm=>⟨by rw [eC _ hL];try rfl,hm.fr⟩)
   ·change decide (1≤x.len)=false at h2
    rw [h2,Bool.false_and] at hL
    refine gGw ?_
    refine⟨zbm,zae _ (fun w' _=>zb9 x.name w' hs) ?_⟩
    refine gGw ?_
    exact fin1 rfl rfl (fun w' hm=>⟨by rw [eC _ hL];try rfl,hm.fr⟩)
end
theorem zee (s:ByteArray):Lib.strCells s=(zag s.data.toList).map (Value.int .u8):=by simp [Lib.strCells,zag]
theorem zjm:Tryz.prog.underlying 9=some .string:=by kernel_rfl
theorem zdq:Tryz.prog.underlying 22=some (.slice 5):=by kernel_rfl
theorem zuX:(Tryz.prog.info? 5).map (fun i=>(i.zero,i.size,i.bytes))=some (some (.int .u8 0),1,1):=by kernel_rfl
theorem zym {w:World} {ty n cap:Nat} {A:Option Addr} {xs:List Value} (hown:w.ownsRow 0 5 1 (.slice A n cap) n xs) (s:ByteArray) (hb:n+s.size≤140737488355328) {v':Value} {w':World}
  (hr:(Builtin.append_ #[22,9] ty #[.slice A n cap,.string s]).run Tryz.prog w=.ok v' w') (hnil:v'=.slice none 0 0↔Value.slice A n cap=.slice none 0 0∧s.size=0):v'.ownBlock=(Value.slice A n cap).ownBlock∨v'.ownBlock=some w.heap.size:=by
 obtain ⟨i0,hi,hz0,hz1,hz2⟩:=info_parts zuX
 rcases hown.2 with ⟨e1,e2⟩|⟨g,cap',cur,e1,hbg,hg,hnc,hcm,hcs,htake⟩
 ·by_cases h0:s.size=0
  ·rw [hnil.2 ⟨e1,h0⟩,e1];exact .inl rfl
  ·rw [e1] at hr
   have h1:=run_append_nil_string (P:=Tryz.prog) w 22 9 ty 5 i0 (.int .u8 0) zdq zjm hi hz0 s (by omega) (by omega) (by rw [hz2];omega)
   rw [hr] at h1
   injection h1 with h1 _
   rw [h1];exact .inr rfl
 ·rw [e1] at hr
  have hxl:xs.length=n:=by simpa using hown.1
  by_cases hroom:n+s.size≤cap'
  ·have h1:=Lib.run_append_room_string (P:=Tryz.prog) w 22 9 ty 5 i0 zdq zjm hi hz1 g n cap' cur hg s hroom (by rw [hcs];omega)
   rw [hr] at h1
   injection h1 with h1 _
   rw [h1,e1];exact .inl rfl
  ·have holds:∀ j u,xs[j]?=some u→w.cell? ((⟨g,0,none⟩:Addr).add j)=some u:=(show w.ownsRow 0 5 1 (.slice (some ⟨g,0,none⟩) n cap') n xs from e1 ▸ hown).cells (g:=g) rfl
   have h1:=Lib.run_append_grow_string (P:=Tryz.prog) w 22 9 ty 5 i0 (.int .u8 0) zdq zjm hi hz0 ⟨g,0,none⟩ n cap' xs (by rw [hz1];simpa using hxl) holds s (by omega) (by omega) (by rw [hz2];exact growslice_fits (by omega) (by omega))
   rw [hr] at h1
   injection h1 with h1 _
   rw [h1];exact .inr rfl
theorem zii {cx:Cx} (hP:cx.P=Tryz.prog) {m m':Mem} {ty n cap:Nat} {A:Option Addr} {xs:List Value} {s:ByteArray} {K:Value→Mem→Prop} (hu:Out m (.row A cap n 5 1 xs) m') (hb:n+s.size≤140737488355328)
  (hK:∀ A' cap',K (.slice A' (n+s.size) cap') (.row A' cap' (n+s.size) 5 1 (xs++Lib.strCells s)::m')):Rn cx m (Builtin.append_ #[22,9] ty #[.slice A n cap,.string s]) K:=by
 intro w hm
 obtain ⟨i0,hi,hz0,hz1,hz2⟩:=info_parts zuX
 have hm1:=hm.perm hu.perm
 have hown:w.ownsRow 0 5 1 (.slice A n cap) n xs:=hm1.ok _ (List.mem_cons_self ..)
 obtain ⟨v',w',hr,ho,hg,hnil⟩:=Lib.run_append_own_string (P:=Tryz.prog) w 0 22 9 ty 5 i0 zdq zjm hi hz0 hz1 hz2 (.slice A n cap) n xs hown s (by simp only [maxLen];omega) hb (Nat.zero_le _)
 have hat:=zym hown s hb hr hnil
 have hv:∃ A' cap',v'=.slice A' (n+s.size) cap':=by
  rcases ho.2 with ⟨e1,e2⟩|⟨g,c',cur,e1,_⟩
  ·exact⟨none,0,by rw [e2];exact e1⟩
  ·exact⟨_,c',e1⟩
 obtain ⟨A',cap',rfl⟩:=hv
 have hapart:=(List.pairwise_cons.1 hm1.apart).1
 have hmt:MemOk cx.w0 cx.S m' w':=hm1.tail.step (Fr.of_row hg) (fun b hb hT=>by
   have:=hm1.own _ (List.mem_cons_self ..) b (by rw [Res.row_own];exact hT.symm)
   exact this.elim (fun h=>absurd hb (by omega)) id) (fun r hr b hb hT=>hapart r hr b (by rw [Res.row_own];exact hT.symm) hb)
 refine⟨_,w',_,by rw [hP];exact hr,?_,hK A' cap'⟩
 refine hmt.cons ho (fun b hb=>?_) (fun b hb s hs' hsb=>?_)
 ·rw [Res.row_own] at hb
  rcases hat with hat|hat
  ·exact hm1.own _ (List.mem_cons_self ..) b (by rw [Res.row_own,← hat];exact hb)
  ·rw [hat] at hb;cases hb;exact .inl hm.fr.size
 ·rw [Res.row_own] at hb
  rcases hat with hat|hat
  ·exact hapart s hs' b (by rw [Res.row_own,← hat];exact hb) hsb
  ·rw [hat] at hb;cases hb
   exact Nat.lt_irrefl _ (Res.ok_lt (hm1.tail.ok s hs') hsb)
section
theorem zkF (l:List UInt8) (v:UInt8):(zag (l++[v])).map (Value.int .u8)=(zag l).map (Value.int .u8)++[.int .u8 (v.toNat:Int)]:=by
 unfold zag;simp
theorem zde (l k:List UInt8):(zag (l++k)).map (Value.int .u8)=(zag l).map (Value.int .u8)++(zag k).map (Value.int .u8):=by
 unfold zag;simp
attribute [local irreducible] Br Rn RnU Cl RdG CpG Ld Rd Lp Dr Oth Cut fin Fits Eng.Enters Md NA
theorem zaA:Eng.Enters Tryz.prog 75:=zab fun _ _=>by kernel_rfl
theorem zuG (x n:Nat) (w:World) (hx:x<18446744073709551616) (hn:n≤1000) :
  Ctr Tryz.prog 75 [.int .u64 (x:Int),.int .i64 (n:Int)] [] (fun e m'=>∃ A c,e=.returned (.slice A n c)∧m'=[BR8 A c n (leB x n)]) w:=by
 refine enter (cx:=CXS 21 [] w (Foot [])) [(0,.int .u64 (x:Int)),(1,.int .i64 (n:Int))] zaa Tryz.func75 rfl rfl rfl rfl (MemOk.nil w _) ?_
 refine gGw ?_
 refine lp zaa (γ:=Nat × Option Addr × Nat) (fun q=>q.1≤n) (fun q=>[(6,.int .i64 (q.1:Int)),(5,.slice q.2.1 q.1 q.2.2),(1,.int .i64 (n:Int)),(0,.int .u64 ((x/256 ^ q.1:Nat):Int))])
  (fun q=>[BR8 q.2.1 q.2.2 q.1 (leB x q.1)]) (fun q=>n-q.1) (0,none,0) (Nat.zero_le _) ⟨rfl,rfl,rfl,by simp only [Nat.pow_zero,Nat.div_one];rfl,trivial⟩ (SubM.row0 SubM.sl _ _) ?_
 rintro ⟨i,A,c⟩ hi
 simp only at hi
 dsimp only
 conv=>whnf
 refine br_d (fun hlt=>?_) (fun hge=>?_)
 ·have hd:x/256 ^ i<18446744073709551616:=Nat.lt_of_le_of_lt (Nat.div_le_self _ _) hx
  have es:leB x (i+1)=leB x i++[UInt8.ofNat (x/256 ^ i%256)]:=zkL i x
  have ed:x/256 ^ (i+1)=x/256 ^ i/256:=by rw [Nat.pow_succ,Nat.div_div_eq_div_mul]
  generalize hv:x/256 ^ i=v at hd es ed
  have et:(v:Int).tmod 256=((v%256:Nat):Int):=by rw [Int.tmod_eq_emod_of_nonneg (by omega)];push_cast;rfl
  have eq:IntKind.u64.wrap ((v:Int).tdiv 256)=((v/256:Nat):Int):=by
   rw [Int.tdiv_eq_ediv_of_nonneg (by omega)]
   have:((v:Int)/256)=((v/256:Nat):Int):=by push_cast;rfl
   rw [this]
   exact IntWalk.u64_in _ (by omega)
  refine gGw ?_;(repeat ((first|refine .mk fun Ap capp=>?_|intro _);(conv=>whnf);refine gG0 ?_))
  have e8:((UInt8.ofNat (v%256)).toNat:Int)=(v:Int).tmod 256:=by rw [et,UInt8.toNat_ofNat'];omega
  refine⟨(i+1,Ap,capp),by show i+1≤n;omega,by show n-(i+1)<n-i;omega,⟨rfl,rfl,rfl,?_,trivial⟩,?_⟩
  ·show some (Value.int .u64 (IntKind.u64.wrap ((v:Int).tdiv 256)))=some (Value.int .u64 ((x/256 ^ (i+1):Nat):Int))
   rw [eq,ed]
  ·show SubM _ _ [.row Ap capp (i+1) 5 1 ((zag (leB x (i+1))).map (Value.int .u8))]
   rw [es,zkF,e8]
   exact SubM.sl
 ·obtain rfl:i=n:=by omega
  refine gGw ?_
  exact fin1 rfl rfl (fun w' hm=>⟨_,⟨A,c,rfl,rfl⟩,hm⟩)
end
theorem u_u8B:Tryz.prog.underlying 5=some (.int .u8):=by kernel_rfl
theorem zus {cx:Cx} (hP:cx.P=Tryz.prog) {m m':Mem} {b n:Nat} {cs:List Value} {K:Value→Mem→Prop} (hu:Upd m (.blk b (.cells cs.toArray 5)) (.blk b (.cells cs.toArray 5 (cs.length,cs.length+1))) m') (hK:K (.slice (some ⟨b,0,none⟩) n n) m') :
  Rn cx m (convert 22 22 (.slice (some ⟨b,0,none⟩) n n)) K:=by
 intro w hm
 obtain ⟨rest,hp,_⟩:=hu.perm
 have hb:w.heap[b]?=some (.cells cs.toArray 5 (0,0)):=(hm.perm hp).ok _ (List.mem_cons_self ..)
 have hsh:w.shape? b=some (5,cs.length):=by simp [World.shape?,hb]
 refine⟨.slice (some ⟨b,0,none⟩) n n,w.freeze ⟨b,cs.length,none⟩ 1,m',?_,ziv (b:=b) hm hu ?_ ?_,hK⟩
 ·rw [hP]
  simp [convert,run_underlying zdq,run_underlying u_u8B,markStringish,hsh]
 ·unfold World.freeze
  rw [if_neg (by decide)]
  exact⟨rfl,rfl,rfl,by simp,fun k hk hs=>by
   show (w.heap.modify b _)[k]?=_
   rw [Array.getElem?_modify,if_neg (fun e=>hs e.symm)]⟩
 ·unfold World.freeze
  rw [if_neg (by decide)]
  show (w.heap.modify b _)[b]?=_
  rw [Array.getElem?_modify,if_pos rfl,hb]
  rfl
theorem zwG {cx:Cx} (hP:cx.P=Tryz.prog) {m:Mem} {ty b n c k:Nat} {B:Option Addr} {fr:Nat × Nat} {cs:List Value} {ys:List UInt8} {K:Value→Mem→Prop} (hh:Has m (.blk b (.cells cs.toArray 5 fr))) (hn:cs.length=n) (hy:Has m (BR8 B c k ys)) (hk:0<k) (hb:n+k≤1000000)
  (hK:∀ A' cap',K (.slice A' (n+k) cap') (.row A' cap' (n+k) 5 1 (cs++(zag ys).map (.int .u8))::m)):Rn cx m (Builtin.append_ #[22,22] ty #[.slice (some ⟨b,0,none⟩) n n,.slice B k c]) K:=by
 intro w hm
 obtain ⟨i0,hi,hz0,hz1,hz2⟩:=info_parts zuX
 have h1:w.heap[b]?=some (.cells cs.toArray 5 fr):=hm.ok _ hh.mem
 have h2:=hm.ok _ hy.mem
 have h3:BytsIn w B ys:=zay h2
 have h4:k=ys.length:=zsL h2
 obtain ⟨bb,o,rfl,hc⟩:=h3 (by rw [zaf];omega)
 have hcell:∀ j v,cs[j]?=some v→w.cell? ((⟨b,0,none⟩:Addr).add j)=some v:=fun j v hj=>by
  rw [Addr.add_lit]
  have:w.cell? ⟨b,0+j,none⟩=cs.toArray[0+j]?:=by simp [World.cell?,h1]
  rw [this,Nat.zero_add];simpa using hj
 have hnews:∀ j v,((zag ys).map (Value.int .u8))[j]?=some v→w.cell? ((⟨bb,o,none⟩:Addr).add j)=some v:=fun j v hj=>by
  rw [List.getElem?_map] at hj
  cases hys:(zag ys)[j]? with
  | none=>rw [hys] at hj;cases hj
  | some y =>
   rw [hys,Option.map_some] at hj
   have hjl:=(List.getElem?_eq_some_iff.1 hys).1
   have h9:=hc j hjl
   have hy9:(zag ys).getD j 0=y:=by rw [List.getD_eq_getElem?_getD,hys];rfl
   rw [hy9,hj] at h9
   rw [Addr.add_lit]
   exact h9
 have hrun:=run_append_grow (P:=Tryz.prog) w 22 ty 5 i0 (.int .u8 0) zdq hi hz0 ⟨b,0,none⟩ n n cs (by rw [hz1,hn,Nat.mul_one]) hcell ⟨bb,o,none⟩ k c ((zag ys).map (.int .u8)) (by rw [hz1,List.length_map,zaf];omega) hnews (by omega) (by omega) (by rw [hz2];exact growslice_fits (by omega) (by omega))
 have hge:=grownCap_ge w (n+k) n 5
 have hcm:grownCap w (n+k) n 5≤maxLen:=grownCap_le_maxLen w (n+k) n 5 (by simp only [maxLen];omega)
 generalize grownCap w (n+k) n 5=gc at hrun hge hcm
 rw [hP]
 refine⟨_,_,_,hrun,?_,hK _ _⟩
 have hf:Fr (fun _=>False) w (w.drew.alloc (.cells (cs.toArray++((zag ys).map (Value.int .u8)).toArray++Builtin.zeroCells (Value.int .u8 0).cells (gc-(n+k))) 5)):=⟨rfl,rfl,rfl,by simp,fun q hq _=>Below.heap_alloc w.drew _ q hq⟩
 refine (hm.same hf).cons ?_ (fun q hq=>?_) (fun q hq s hs hsb=>?_)
 ·refine⟨by rw [List.length_append,List.length_map,zaf];omega,.inr ⟨w.heap.size,_,_,rfl,Nat.zero_le _,heap_alloc_new w.drew _,hge,hcm,?_,?_⟩⟩
  ·simp only [Array.size_append,List.size_toArray,size_zeroCells,List.length_map,zaf]
   show cs.length+ys.length+(gc-(n+k))*1=gc*1
   omega
  ·simp only [Array.toList_append]
   rw [List.take_append_of_le_length (by rw [List.length_append,List.length_map,zaf];omega)]
   exact List.take_of_length_le (by rw [List.length_append,List.length_map,zaf];omega)
 ·cases hq;exact .inl hm.fr.size
 ·cases hq
  exact Nat.lt_irrefl _ (Res.ok_lt (hm.ok s hs) hsb)
section
theorem zcg (x:Int) (n:Nat) (w:World) (hx:0≤x∧x<18446744073709551616) (hn:n≤1000) :
  Ctr Tryz.prog 75 [.int .u64 x,.int .i64 (n:Int)] [] (fun e m'=>∃ A c,e=.returned (.slice A n c)∧m'=[BR8 A c n (leB x.toNat n)]) w:=by
 obtain ⟨y,rfl⟩:∃ y:Nat,x=y:=⟨x.toNat,by omega⟩
 rw [Int.toNat_natCast]
 exact zuG y n w (by omega) hn
theorem zba {cx:Cx} {m m':Mem} {ty:Nat} {A B:Option Addr} {cap c n k:Nat} {acc ys:List UInt8} {K:Value→Mem→Prop} (ht:TabOk cx.P cx.tab) (hT:cx.tab=tab) (hu:Out m (BR8 A cap n acc) m') (hh:Has m (BR8 B c k ys)) (hk:ys.length=k) (hb:n+k≤1000000)
  (hK:∀ A' cap',K (.slice A' (n+k) cap') (BR8 A' cap' (n+k) (acc++ys)::m')):Rn cx m (Builtin.append_ #[22,22] ty #[.slice A n cap,.slice B k c]) K:=by
 have h1:=zgO (cx:=cx) (m:=m) (m':=m') (t:=22) (e:=5) (ty:=ty) (A:=A) (cap:=cap) (n:=n) (xs:=(zag acc).map (.int .u8)) (p:=B) (c:=c) (k:=.u8) (ys:=zag ys) (K:=K) ht (by rw [hT];rfl) rfl (by rw [hT];rfl) rfl rfl rfl hu
  (fun w hm=>rowI (hm.ok _ hh.mem)) (by rw [zaf];omega) (fun A' cap'=>by
   have:=hK A' cap'
   rw [zaf,hk,← zde]
   exact this)
 rw [zaf,hk] at h1
 exact h1
theorem subq {cx:Cx} {m m1 m2:Mem} (h:m=m1) (hs:SubM cx m1 m2):SubM cx m m2:=h ▸ hs
attribute [local irreducible] Br Rn RnU Cl RdG CpG Ld Rd Lp Dr Oth Cut fin Fits Eng.Enters Md NA
theorem zfw:Eng.Enters Tryz.prog 36:=zab fun _ _=>by kernel_rfl
set_option maxHeartbeats 2000000 in
theorem zij (h:Hd) (w:World) (hk:HOk h) :
  Ctr Tryz.prog 36 [.agg h.cells.toArray] [] (fun e m'=>∃ A c,e=.returned (.slice A 512 c)∧m'=[BR8 A c 512 (za7 h)]) w:=by
 obtain ⟨k1,k2,k3,k4,k5,k6,k7,k8,k9,k10,k11,k12,k13,k14,k15⟩:=hk
 refine enter (cx:=CXS 107 [] w (Foot [])) [(0,.agg h.cells.toArray)] zaa Tryz.func36 rfl rfl rfl rfl (MemOk.nil w _) ?_
 refine gGw ?_;(repeat ((first|refine .mk fun Ap capp=>?_|intro _);(conv=>whnf);refine gG0 ?_))
 rename_i hB mB
 refine zfQ (m1:=[.blk mB (.cells [Value.int .u8 80,.int .u8 65,.int .u8 76,.int .u8 49].toArray 5),.blk hB (.cells h.cells.toArray 34)]) (subq (by kernel_rfl) (SubM.refl _ _)) ?_
 refine zus (b:=mB) (n:=4) (cs:=[Value.int .u8 80,.int .u8 65,.int .u8 76,.int .u8 49]) rfl (by repeat constructor) ?_
 refine gGw ?_
 refine⟨zaA,zac (m1:=[]) .nil (fun w' hm'=>zcg h.bits 4 w' (by omega) (by omega)) ?_⟩
 rintro e m' ⟨N0,d0,rfl,rfl⟩
 conv=>whnf
 refine zwG rfl (by repeat constructor) rfl (by repeat constructor) (by decide) (by decide) (fun A1 c1=>?_)
 rw [show ([Value.int .u8 80,.int .u8 65,.int .u8 76,.int .u8 49]++(zag (leB h.bits.toNat 4)).map (Value.int .u8))=(zag (preB h 1)).map (Value.int .u8) from by rw [zbb h (i:=0) (q:=(4,h.bits)) rfl,zde];rfl]
 refine gGw ?_
 refine⟨zaA,zac (m1:=[]) .nil (fun w' hm'=>zcg h.flags 8 w' (by omega) (by omega)) ?_⟩
 rintro e m' ⟨N1,d1,rfl,rfl⟩
 conv=>whnf
 refine zba (acc:=preB h 1) (n:=8) (k:=8) (ys:=leB h.flags.toNat 8) zaa rfl (by repeat constructor) (by repeat constructor) (zad _ _) (by decide) (fun A2 c2=>?_)
 rw [← zbb h (i:=1) (q:=(8,h.flags)) rfl]
 refine gGw ?_
 refine⟨zaA,zac (m1:=[]) .nil (fun w' hm'=>zcg h.size 8 w' (by omega) (by omega)) ?_⟩
 rintro e m' ⟨N2,d2,rfl,rfl⟩
 conv=>whnf
 refine zba (acc:=preB h 2) (n:=16) (k:=8) (ys:=leB h.size.toNat 8) zaa rfl (by repeat constructor) (by repeat constructor) (zad _ _) (by decide) (fun A3 c3=>?_)
 rw [← zbb h (i:=2) (q:=(8,h.size)) rfl]
 refine gGw ?_
 refine⟨zaA,zac (m1:=[]) .nil (fun w' hm'=>zcg h.l1 8 w' (by omega) (by omega)) ?_⟩
 rintro e m' ⟨N3,d3,rfl,rfl⟩
 conv=>whnf
 refine zba (acc:=preB h 3) (n:=24) (k:=8) (ys:=leB h.l1.toNat 8) zaa rfl (by repeat constructor) (by repeat constructor) (zad _ _) (by decide) (fun A4 c4=>?_)
 rw [← zbb h (i:=3) (q:=(8,h.l1)) rfl]
 refine gGw ?_
 refine⟨zaA,zac (m1:=[]) .nil (fun w' hm'=>zcg h.l1len 4 w' (by omega) (by omega)) ?_⟩
 rintro e m' ⟨N4,d4,rfl,rfl⟩
 conv=>whnf
 refine zba (acc:=preB h 4) (n:=32) (k:=4) (ys:=leB h.l1len.toNat 4) zaa rfl (by repeat constructor) (by repeat constructor) (zad _ _) (by decide) (fun A5 c5=>?_)
 rw [← zbb h (i:=4) (q:=(4,h.l1len)) rfl]
 refine gGw ?_
 refine⟨zaA,zac (m1:=[]) .nil (fun w' hm'=>zcg h.order 4 w' (by omega) (by omega)) ?_⟩
 rintro e m' ⟨N5,d5,rfl,rfl⟩
 conv=>whnf
 refine zba (acc:=preB h 5) (n:=36) (k:=4) (ys:=leB h.order.toNat 4) zaa rfl (by repeat constructor) (by repeat constructor) (zad _ _) (by decide) (fun A6 c6=>?_)
 rw [← zbb h (i:=5) (q:=(4,h.order)) rfl]
 refine gGw ?_
 refine⟨zaA,zac (m1:=[]) .nil (fun w' hm'=>zcg h.counts 8 w' (by omega) (by omega)) ?_⟩
 rintro e m' ⟨N6,d6,rfl,rfl⟩
 conv=>whnf
 refine zba (acc:=preB h 6) (n:=40) (k:=8) (ys:=leB h.counts.toNat 8) zaa rfl (by repeat constructor) (by repeat constructor) (zad _ _) (by decide) (fun A7 c7=>?_)
 rw [← zbb h (i:=6) (q:=(8,h.counts)) rfl]
 refine gGw ?_
 refine⟨zaA,zac (m1:=[]) .nil (fun w' hm'=>zcg h.countsLen 4 w' (by omega) (by omega)) ?_⟩
 rintro e m' ⟨N7,d7,rfl,rfl⟩
 conv=>whnf
 refine zba (acc:=preB h 7) (n:=48) (k:=4) (ys:=leB h.countsLen.toNat 4) zaa rfl (by repeat constructor) (by repeat constructor) (zad _ _) (by decide) (fun A8 c8=>?_)
 rw [← zbb h (i:=7) (q:=(4,h.countsLen)) rfl]
 refine gGw ?_
 refine⟨zaA,zac (m1:=[]) .nil (fun w' hm'=>zcg h.snaps 4 w' (by omega) (by omega)) ?_⟩
 rintro e m' ⟨N8,d8,rfl,rfl⟩
 conv=>whnf
 refine zba (acc:=preB h 8) (n:=52) (k:=4) (ys:=leB h.snaps.toNat 4) zaa rfl (by repeat constructor) (by repeat constructor) (zad _ _) (by decide) (fun A9 c9=>?_)
 rw [← zbb h (i:=8) (q:=(4,h.snaps)) rfl]
 refine gGw ?_
 refine⟨zaA,zac (m1:=[]) .nil (fun w' hm'=>zcg h.snapsAt 8 w' (by omega) (by omega)) ?_⟩
 rintro e m' ⟨N9,d9,rfl,rfl⟩
 conv=>whnf
 refine zba (acc:=preB h 9) (n:=56) (k:=8) (ys:=leB h.snapsAt.toNat 8) zaa rfl (by repeat constructor) (by repeat constructor) (zad _ _) (by decide) (fun A10 c10=>?_)
 rw [← zbb h (i:=9) (q:=(8,h.snapsAt)) rfl]
 refine gGw ?_
 refine⟨zaA,zac (m1:=[]) .nil (fun w' hm'=>zcg h.snapsLen 4 w' (by omega) (by omega)) ?_⟩
 rintro e m' ⟨N10,d10,rfl,rfl⟩
 conv=>whnf
 refine zba (acc:=preB h 10) (n:=64) (k:=4) (ys:=leB h.snapsLen.toNat 4) zaa rfl (by repeat constructor) (by repeat constructor) (zad _ _) (by decide) (fun A11 c11=>?_)
 rw [← zbb h (i:=10) (q:=(4,h.snapsLen)) rfl]
 refine gGw ?_
 refine⟨zaA,zac (m1:=[]) .nil (fun w' hm'=>zcg h.bitmaps 4 w' (by omega) (by omega)) ?_⟩
 rintro e m' ⟨N11,d11,rfl,rfl⟩
 conv=>whnf
 refine zba (acc:=preB h 11) (n:=68) (k:=4) (ys:=leB h.bitmaps.toNat 4) zaa rfl (by repeat constructor) (by repeat constructor) (zad _ _) (by decide) (fun A12 c12=>?_)
 rw [← zbb h (i:=11) (q:=(4,h.bitmaps)) rfl]
 refine gGw ?_
 refine⟨zaA,zac (m1:=[]) .nil (fun w' hm'=>zcg h.bitmapsAt 8 w' (by omega) (by omega)) ?_⟩
 rintro e m' ⟨N12,d12,rfl,rfl⟩
 conv=>whnf
 refine zba (acc:=preB h 12) (n:=72) (k:=8) (ys:=leB h.bitmapsAt.toNat 8) zaa rfl (by repeat constructor) (by repeat constructor) (zad _ _) (by decide) (fun A13 c13=>?_)
 rw [← zbb h (i:=12) (q:=(8,h.bitmapsAt)) rfl]
 refine gGw ?_
 refine⟨zaA,zac (m1:=[]) .nil (fun w' hm'=>zcg h.bitmapsLen 4 w' (by omega) (by omega)) ?_⟩
 rintro e m' ⟨N13,d13,rfl,rfl⟩
 conv=>whnf
 refine zba (acc:=preB h 13) (n:=80) (k:=4) (ys:=leB h.bitmapsLen.toNat 4) zaa rfl (by repeat constructor) (by repeat constructor) (zad _ _) (by decide) (fun A14 c14=>?_)
 rw [← zbb h (i:=13) (q:=(4,h.bitmapsLen)) rfl]
 refine gGw ?_
 refine⟨zaA,zac (m1:=[]) .nil (fun w' hm'=>zcg (h.backing.size:Int) 4 w' (by omega) (by omega)) ?_⟩
 rintro e m' ⟨N14,d14,rfl,rfl⟩
 conv=>whnf
 refine zba (acc:=preB h 14) (n:=84) (k:=4) (ys:=leB (h.backing.size:Int).toNat 4) zaa rfl (by repeat constructor) (by repeat constructor) (zad _ _) (by decide) (fun A15 c15=>?_)
 refine gGw ?_
 refine zii rfl (by repeat constructor) (by omega) (fun A16 c16=>?_)
 rw [zee,← zde,Int.toNat_natCast]
 generalize hbase:preB h 14++leB h.backing.size 4++h.backing.data.toList=base
 refine gGw ?_
 refine lp zaa (γ:=Nat × Option Addr × Nat) (fun q=>q.1≤424-h.backing.size) (fun q=>[(3,.slice q.2.1 (84+4+h.backing.size+q.1) q.2.2)])
  (fun q=>[BR8 q.2.1 q.2.2 (84+4+h.backing.size+q.1) (base++List.replicate q.1 0)]) (fun q=>424-h.backing.size-q.1) (0,A16,c16) (Nat.zero_le _) ⟨rfl,trivial⟩ (by
   show SubM _ _ [BR8 A16 c16 (84+4+h.backing.size) (base++[])]
   rw [List.append_nil]
   exact SubM.sl) ?_
 rintro ⟨k,A,c⟩ hk
 simp only at hk
 dsimp only
 conv=>whnf
 refine br_d (fun hlt=>?_) (fun hge=>?_)
 ·refine gGw ?_;(repeat ((first|refine .mk fun Ap capp=>?_|intro _);(conv=>whnf);refine gG0 ?_))
  refine⟨(k+1,Ap,capp),by show k+1≤_;omega,by show 424-h.backing.size-(k+1)<424-h.backing.size-k;omega,⟨rfl,trivial⟩,?_⟩
  show SubM _ _ [.row Ap capp (84+4+h.backing.size+k+1) 5 1 ((zag (base++List.replicate (k+1) 0)).map (Value.int .u8))]
  rw [List.replicate_succ',← List.append_assoc,zkF]
  exact SubM.sl
 ·have hk2:k=424-h.backing.size:=by omega
  have hbl:base.length=88+h.backing.size:=by
   rw [← hbase,List.length_append,List.length_append,zgi,zad,Array.length_toList];rfl
  have hfin:base++List.replicate k 0=za7 h:=by
   rw [hk2,← hbase];unfold za7
   have e:preB h 14=ziy++zl7 (zdB h):=rfl
   rw [e]
  have h512:84+4+h.backing.size+k=512:=by omega
  rw [hfin,h512]
  refine gGw ?_
  exact fin1 rfl rfl (fun w' hm=>⟨_,⟨A,c,rfl,rfl⟩,hm⟩)
end
section
/-! ## What it does -/
def zbW (xs:List Int) (i j:Nat):List Int:=(xs.set i (xs.getD j 0)).set j (xs.getD i 0)
def zaH (k:Int→Int) (xs:List Int) (i:Nat):Int:=k (xs.getD i 0)
def insJ (k:Int→Int) (a:Nat):Nat→List Int→List Int
 | 0,xs=>xs
 | j+1,xs=>if a<j+1∧zaH k xs (j+1)<zaH k xs j then insJ k a j (zbW xs (j+1) j) else xs
def insI (k:Int→Int) (xs:List Int) (a:Nat):Nat→List Int
 | 0=>xs
 | t+1=>insJ k a (a+1+t) (insI k xs a t)
def insF (k:Int→Int) (xs:List Int) (a b:Nat):List Int:=insI k xs a (b-(a+1))
def swR (xs:List Int) (a b:Nat):Nat→List Int
 | 0=>xs
 | i+1=>zbW (swR xs a b i) (a+i) (b+i)
def rotF (m:Nat) (i j:Nat) (xs:List Int):List Int :=
 if i=j∨i=0∨j=0 then swR xs (m-i) m i
 else if j<i then rotF m (i-j) j (swR xs (m-i) m j) else rotF m i (j-i) (swR xs (m-i) (m+j-i) i)
termination_by i+j
decreasing_by all_goals omega
def bsF (P:Nat→Bool) (i j:Nat):Nat:=if i<j then (if P ((i+j)/2) then bsF P ((i+j)/2+1) j else bsF P i ((i+j)/2)) else i
termination_by j-i
decreasing_by all_goals omega
theorem zhl (P:Nat→Bool) (i j:Nat) (h:i≤j):i≤bsF P i j∧bsF P i j≤j:=by
 fun_induction bsF P i j with
 | case1 i j hlt hp ih=>have:=ih (by omega);omega
 | case2 i j hlt hp ih=>have:=ih (by omega);omega
 | case3 i j hlt=>omega
def upF (xs:List Int) (k:Nat):Nat→List Int
 | 0=>xs
 | t+1=>zbW (upF xs k t) (k+t) (k+t+1)
def zk1 (xs:List Int) (k:Nat):Nat→List Int
 | 0=>xs
 | t+1=>zbW (zk1 xs k t) (k-t) (k-t-1)
def symF (k:Int→Int) (a m b:Nat) (xs:List Int):List Int :=
 if m-a=1 then upF xs a (bsF (fun h=>decide (zaH k xs h<zaH k xs a)) m b-1-a)
 else if b-m=1 then zk1 xs m (m-bsF (fun h=>!decide (zaH k xs m<zaH k xs h)) a m)
 else if h:a<m∧m<b then
  let mid:=(a+b)/2
  let n:=mid+m
  let s:=if mid<m then bsF (fun c=>!decide (zaH k xs (n-1-c)<zaH k xs c)) (n-b) mid else bsF (fun c=>!decide (zaH k xs (n-1-c)<zaH k xs c)) a m
  let e:=n-s
  let x1:=if s<m∧m<e then rotF m (m-s) (e-m) xs else xs
  let x2:=if a<s∧s<mid then symF k a s mid x1 else x1
  if mid<e∧e<b then symF k mid e b x2 else x2
 else xs
termination_by b-a
decreasing_by all_goals omega
def zdk (k:Int→Int) (n:Nat):Nat→List Int→List Int
 | 0,xs=>xs
 | t+1,xs=>insF k (zdk k n t xs) (20*t) (20*t+20)
def zeO (k:Int→Int) (s:Nat):Nat→List Int→List Int
 | 0,xs=>xs
 | t+1,xs=>symF k (2*s*t) (2*s*t+s) (2*s*t+2*s) (zeO k s t xs)
def zkC (k:Int→Int) (n s:Nat) (xs:List Int):List Int :=
 if 2*s*(n/(2*s))+s<n then symF k (2*s*(n/(2*s))) (2*s*(n/(2*s))+s) n (zeO k s (n/(2*s)) xs) else zeO k s (n/(2*s)) xs
def zdc (k:Int→Int) (n s:Nat) (xs:List Int):List Int:=if 0<s∧s<n then zdc k n (s*2) (zkC k n s xs) else xs
termination_by n-s
decreasing_by omega
def zgJ (k:Int→Int) (xs:List Int):List Int:=zdc k xs.length 20 (insF k (zdk k xs.length (xs.length/20) xs) (20*(xs.length/20)) xs.length)
/-! ## All of it but moves elements -/
theorem zdS {xs:List Int} {i j:Nat} (hi:i<xs.length) (hj:j<xs.length):(zbW xs i j).Perm xs:=by
 unfold zbW
 rw [List.getD_eq_getElem?_getD,List.getD_eq_getElem?_getD,List.getElem?_eq_getElem hi,List.getElem?_eq_getElem hj]
 exact List.set_set_perm hi hj
theorem zq6 (xs:List Int) (i j:Nat):(zbW xs i j).length=xs.length:=by simp [zbW]
theorem zmd (k:Int→Int) (a:Nat):∀ (j:Nat) (xs:List Int),j<xs.length→(insJ k a j xs).Perm xs
 | 0,xs,_=>List.Perm.refl _
 | j+1,xs,h=>by
  rw [insJ]
  split
  ·exact (zmd k a j _ (by rw [zq6];omega)).trans (zdS h (by omega))
  ·exact List.Perm.refl _
theorem ziA (k:Int→Int) (xs:List Int) (a:Nat):∀ t,a+t<xs.length∨t=0→(insI k xs a t).Perm xs
 | 0,_=>List.Perm.refl _
 | t+1,h=>by
  have ih:=ziA k xs a t (by omega)
  exact (zmd k a _ _ (by rw [ih.length_eq];omega)).trans ih
theorem ziB (k:Int→Int) (xs:List Int) (a b:Nat) (h:b≤xs.length):(insF k xs a b).Perm xs:=ziA k xs a _ (by omega)
theorem zdr (xs:List Int) (a b:Nat):∀ n,a+n≤xs.length→b+n≤xs.length→(swR xs a b n).Perm xs
 | 0,_,_=>List.Perm.refl _
 | n+1,h1,h2=>by
  have ih:=zdr xs a b n (by omega) (by omega)
  exact (zdS (by rw [ih.length_eq];omega) (by rw [ih.length_eq];omega)).trans ih
theorem zeK (m i j:Nat) (xs:List Int) (h1:i≤m) (h2:m+j≤xs.length) (h3:m+i≤xs.length∨0<j):(rotF m i j xs).Perm xs:=by
 fun_induction rotF m i j xs with
 | case1 i j xs h =>
  rcases h with h|h|h
  ·exact zdr xs _ _ _ (by omega) (by omega)
  ·subst h;exact List.Perm.refl _
  ·exact zdr xs _ _ _ (by omega) (by omega)
 | case2 i j xs h hlt ih =>
  have hp:=zdr xs (m-i) m j (by omega) (by omega)
  exact (ih (by omega) (by rw [hp.length_eq];omega) (by omega)).trans hp
 | case3 i j xs h hlt ih =>
  have hp:=zdr xs (m-i) (m+j-i) i (by omega) (by omega)
  exact (ih (by omega) (by rw [hp.length_eq];omega) (by omega)).trans hp
theorem zjZ (xs:List Int) (k:Nat):∀ t,k+t<xs.length∨t=0→(upF xs k t).Perm xs
 | 0,_=>List.Perm.refl _
 | t+1,h=>by
  have ih:=zjZ xs k t (by omega)
  exact (zdS (by rw [ih.length_eq];omega) (by rw [ih.length_eq];omega)).trans ih
theorem zgX (xs:List Int) (k:Nat) (hk:k<xs.length):∀ t,t≤k→(zk1 xs k t).Perm xs
 | 0,_=>List.Perm.refl _
 | t+1,h=>by
  have ih:=zgX xs k hk t (by omega)
  exact (zdS (by rw [ih.length_eq];omega) (by rw [ih.length_eq];omega)).trans ih
theorem zdR (k:Int→Int) (a m b:Nat) (xs:List Int) (h1:a<m) (h2:m<b) (h3:b≤xs.length):(symF k a m b xs).Perm xs:=by
 induction hn:b-a using Nat.strongRecOn generalizing a m b xs with
 | ind n ih =>
  subst hn
  rw [symF]
  split
  ·have:=zhl (fun h=>decide (zaH k xs h<zaH k xs a)) m b (by omega)
   exact zjZ _ _ _ (by omega)
  ·split
   ·have:=zhl (fun h=>!decide (zaH k xs m<zaH k xs h)) a m (by omega)
    exact zgX _ _ (by omega) _ (by omega)
   ·rw [dif_pos ⟨h1,h2⟩]
    simp only
    generalize hs:(if (a+b)/2<m then bsF (fun c=>!decide (zaH k xs ((a+b)/2+m-1-c)<zaH k xs c)) ((a+b)/2+m-b) ((a+b)/2) else bsF (fun c=>!decide (zaH k xs ((a+b)/2+m-1-c)<zaH k xs c)) a m)=s
    have hsb:a≤s∧s≤m∧(a+b)/2+m-s≤b∧s≤(a+b)/2+m:=by
     split at hs
     ·have:=zhl (fun c=>!decide (zaH k xs ((a+b)/2+m-1-c)<zaH k xs c)) ((a+b)/2+m-b) ((a+b)/2) (by omega)
      omega
     ·have:=zhl (fun c=>!decide (zaH k xs ((a+b)/2+m-1-c)<zaH k xs c)) a m (by omega)
      omega
    have hx1:(if s<m∧m<(a+b)/2+m-s then rotF m (m-s) ((a+b)/2+m-s-m) xs else xs).Perm xs:=by
     split
     ·exact zeK _ _ _ _ (by omega) (by omega) (by omega)
     ·exact List.Perm.refl _
    generalize (if s<m∧m<(a+b)/2+m-s then rotF m (m-s) ((a+b)/2+m-s-m) xs else xs)=x1 at hx1 ⊢
    have hx2:(if a<s∧s<(a+b)/2 then symF k a s ((a+b)/2) x1 else x1).Perm xs:=by
     split
     ·exact (ih ((a+b)/2-a) (by omega) a s ((a+b)/2) x1 (by omega) (by omega) (by rw [hx1.length_eq];omega) rfl).trans hx1
     ·exact hx1
    generalize (if a<s∧s<(a+b)/2 then symF k a s ((a+b)/2) x1 else x1)=x2 at hx2 ⊢
    split
    ·exact (ih (b-(a+b)/2) (by omega) ((a+b)/2) _ b x2 (by omega) (by omega) (by rw [hx2.length_eq];omega) rfl).trans hx2
    ·exact hx2
theorem ze3 (k:Int→Int) (n:Nat):∀ (t:Nat) (xs:List Int),20*t≤xs.length→(zdk k n t xs).Perm xs
 | 0,xs,_=>List.Perm.refl _
 | t+1,xs,h=>by
  have ih:=ze3 k n t xs (by omega)
  exact (ziB k _ _ _ (by rw [ih.length_eq];omega)).trans ih
theorem zfS (k:Int→Int) (s:Nat) (hs:0<s):∀ (t:Nat) (xs:List Int),2*s*t≤xs.length→(zeO k s t xs).Perm xs
 | 0,xs,_=>List.Perm.refl _
 | t+1,xs,h=>by
  have e:2*s*(t+1)=2*s*t+2*s:=by rw [Nat.mul_succ]
  have ih:=zfS k s hs t xs (by omega)
  exact (zdR k _ _ _ _ (by omega) (by omega) (by rw [ih.length_eq];omega)).trans ih
theorem zjE (k:Int→Int) (s:Nat) (hs:0<s) (xs:List Int):(zkC k xs.length s xs).Perm xs:=by
 have hd:2*s*(xs.length/(2*s))≤xs.length:=Nat.mul_div_le _ _
 have hp:=zfS k s hs (xs.length/(2*s)) xs hd
 unfold zkC
 split
 ·exact (zdR k _ _ _ _ (by omega) (by omega) (by rw [hp.length_eq];exact Nat.le_refl _)).trans hp
 ·exact hp
theorem zl3 (k:Int→Int) (n s:Nat) (xs:List Int) (hn:n=xs.length):(zdc k n s xs).Perm xs:=by
 fun_induction zdc k n s xs with
 | case1 s xs h ih =>
  have hp:=hn ▸ zjE k s h.1 xs
  exact (ih (by rw [hp.length_eq];exact hn)).trans hp
 | case2 s xs h=>exact List.Perm.refl _
theorem zeA (k:Int→Int) (xs:List Int):(zgJ k xs).Perm xs:=by
 have h1:=ze3 k xs.length (xs.length/20) xs (Nat.mul_div_le _ _)
 have h2:=ziB k (zdk k xs.length (xs.length/20) xs) (20*(xs.length/20)) xs.length (by rw [h1.length_eq];exact Nat.le_refl _)
 unfold zgJ
 exact ((zl3 k _ _ _ (by rw [h2.length_eq,h1.length_eq])).trans h2).trans h1
/-! ## The walks -/
structure Ks where
 B:Nat
 A:Option Addr
 c:Nat
 L:List Int
abbrev Ks.blk (q:Ks):Res:=.blk q.B (.cells #[.slice q.A q.L.length q.c] 23)
abbrev SoM (q:Ks) (A:Option Addr) (c n:Nat) (xs:List Int):Mem:=[q.blk,IR A c n xs]
def Ks.key (q:Ks) (x:Int):Int:=q.L.getD x.toNat 0
abbrev Ks.fv (q:Ks):Value:=.func (.func 221) #[] #[.pointer (some ⟨q.B,0,none⟩)]
def KIn (q:Ks) (A:Option Addr) (c n:Nat) (xs:List Int) (w:World):Prop:=∀ w',Fr (Foot (SoM q A c n xs)) w w'→IntsIn .i64 w' q.A q.L
structure KsOk (q:Ks) (xs:List Int):Prop where
 l:q.L.length≤1048576
 v:∀ x∈q.L,-1000≤x∧x≤1000
 r:∀ x∈xs,0≤x∧x<q.L.length
theorem KsOk.perm {q:Ks} {xs ys:List Int} (h:KsOk q xs) (hp:ys.Perm xs):KsOk q ys:=⟨h.l,h.v,fun x hx=>h.r x (hp.mem_iff.1 hx)⟩
theorem KsOk.at_ {q:Ks} {xs:List Int} (h:KsOk q xs) {i:Nat} (hi:i<xs.length):0≤xs.getD i 0∧xs.getD i 0<q.L.length:=h.r _ (zbC hi)
theorem KsOk.key {q:Ks} {xs:List Int} (h:KsOk q xs) {x:Int} (hx:0≤x∧x<q.L.length):-1000≤q.key x∧q.key x≤1000:=h.v _ (zbC (by omega))
theorem zw4 (q:Ks) (A:Option Addr) (c n n':Nat) (xs ys:List Int):Foot (SoM q A c n xs)=Foot (SoM q A c n' ys):=by
 funext b
 simp only [Foot,SoM,List.mem_cons,List.not_mem_nil,or_false,exists_eq_or_imp,exists_eq_left]
 cases A<;>rfl
theorem KIn.row {q:Ks} {A:Option Addr} {c n n':Nat} {xs ys:List Int} {w:World} (h:KIn q A c n xs w):KIn q A c n' ys w:=fun w' hf=>h w' (zw4 q A c n n' xs ys ▸ hf)
theorem KIn.fr {q:Ks} {A:Option Addr} {c n:Nat} {xs:List Int} {w w':World} (h:KIn q A c n xs w) (hf:Fr (Foot (SoM q A c n xs)) w w'):KIn q A c n xs w':=fun _ h2=>h _ (hf.trans h2)
attribute [local irreducible] Br Rn RnU Cl RdG CpG Ld Rd Lp Dr Oth Cut fin Fits Eng.Enters Md NA
theorem zcR:Eng.Enters Tryz.prog 221:=zab fun _ _=>by kernel_rfl
theorem zfA:Eng.Enters Tryz.prog 255:=zab fun _ _=>by kernel_rfl
theorem zex:Eng.Enters Tryz.prog 270:=zab fun _ _=>by kernel_rfl
theorem zgf:Eng.Enters Tryz.prog 266:=zab fun _ _=>by kernel_rfl
theorem zaP:Eng.Enters Tryz.prog 256:=zab fun _ _=>by kernel_rfl
theorem zkd:Eng.Enters Tryz.prog 238:=zab fun _ _=>by kernel_rfl
theorem zkf:Eng.Enters Tryz.prog 220:=zab fun _ _=>by kernel_rfl
theorem zr7 (q:Ks) (x y:Int) (w:World) (hq:KsOk q []) (hx:0≤x∧x<q.L.length) (hy:0≤y∧y<q.L.length) (hB:q.blk.ok w) (hL:IntsIn .i64 w q.A q.L) :
  Calls Tryz.prog 221 #[.int .i64 x,.int .i64 y,.pointer (some ⟨q.B,0,none⟩)] w fun e w'=>e=.returned (.int .i64 (q.key x-q.key y))∧Fr (fun _=>False) w w':=by
 refine enter (cx:=CX 15 [] w) [(0,.int .i64 x),(1,.int .i64 y),(2,.pointer (some ⟨q.B,0,none⟩))] zaa Tryz.func221 rfl rfl rfl rfl (MemOk.nil w _) ?_
 have h0:w.cell? ⟨q.B,0,none⟩=some (.slice q.A q.L.length q.c):=zla hB rfl
 have h1:=fun m=>IntsIn.ints (cx:=CX 15 [] w) (m:=m) hL (fun _ h=>h)
 have hpl:Pl q.A:=(h1 []).plain (by omega)
 have k1:=hq.key hx
 have k2:=hq.key hy
 conv=>whnf
 refine zao zaa mixed (by kernel_rfl) rfl ?_;conv=>whnf
 (repeat ((first|refine⟨_,Ld.g (ldF zaa h0 (fun h=>h) rfl rfl),?_⟩|refine gG1 ?_|refine .mk fun Ap capp=>?_|intro _);conv=>whnf))
 refine And.intro ⟨by omega,by omega,hpl⟩ ?_
 conv=>whnf
 refine⟨_,((h1 _).ld zaa rfl rfl (j:=x.toNat) (by omega)).g,?_⟩
 conv=>whnf
 (repeat ((first|refine⟨_,Ld.g (ldF zaa h0 (fun h=>h) rfl rfl),?_⟩|refine gG1 ?_|refine .mk fun Ap capp=>?_|intro _);conv=>whnf))
 refine And.intro ⟨by omega,by omega,hpl⟩ ?_
 conv=>whnf
 refine⟨_,((h1 _).ld zaa rfl rfl (j:=y.toNat) (by omega)).g,?_⟩
 unfold Ks.key at k1 k2
 refine gGw ?_
 exact fin1 rfl rfl (fun w' hm=>⟨rfl,hm.fr⟩)
end
section
attribute [local irreducible] Br Rn RnU Cl RdG CpG Ld Rd Lp Dr Oth Cut fin Fits Eng.Enters Md NA
theorem zvP {q:Ks} {A:Option Addr} {c n:Nat} {xs ys:List Int} {w w':World} (hq:KsOk q xs) (hK:KIn q A c n xs w) (hp:ys.Perm xs) {i j:Nat} (hi:i<ys.length) (hj:j<ys.length) (hm:MemOk w (Foot (SoM q A c n xs)) (SoM q A c n ys) w') :
  Calls Tryz.prog 221 #[.int .i64 (ys.getD i 0),.int .i64 (ys.getD j 0),.pointer (some ⟨q.B,0,none⟩)] w' fun e w''=>e=.returned (.int .i64 (zaH q.key ys i-zaH q.key ys j))∧Fr (fun _=>False) w' w'' :=
 zr7 q _ _ w' ⟨hq.l,hq.v,fun x hx=>by cases hx⟩ ((hq.perm hp).at_ hi) ((hq.perm hp).at_ hj) (hm.ok _ (List.mem_cons_self ..)) (hK _ hm.fr)
set_option maxHeartbeats 1000000 in
theorem znq (q:Ks) (A:Option Addr) (c:Nat) (xs:List Int) (a b:Nat) (w:World) (hq:KsOk q xs) (hK:KIn q A c xs.length xs w) (hb:b≤xs.length) (hl:xs.length≤1048576) (ha:a≤1048576) (hm:MemOk w (Foot (SoM q A c xs.length xs)) (SoM q A c xs.length xs) w) :
  Ctr Tryz.prog 255 [.slice A xs.length c,.int .i64 (a:Int),.int .i64 (b:Int),q.fv] (SoM q A c xs.length xs) (fun e m'=>e=.returned (.tuple #[])∧m'=SoM q A c xs.length (insF q.key xs a b)) w:=by
 obtain ⟨n,hn⟩:∃ n,n=xs.length:=⟨_,rfl⟩
 rw [← hn] at hK hb hl hm ⊢
 refine enter (cx:=⟨Tryz.prog,53,w,Foot (SoM q A c n xs),tab,[],[221],[],[]⟩) [(0,.slice A n c),(1,.int .i64 (a:Int)),(2,.int .i64 (b:Int)),(3,q.fv)] zaa Tryz.func255 rfl rfl rfl rfl hm ?_
 have hpl:0<n→Pl A:=fun h=>zcV (hm.ok (IR A c n xs) (by simp)) h
 refine gGw ?_
 refine lp zaa (γ:=Nat) (fun t=>t≤b-(a+1)) (fun t=>[(8,.int .i64 ((a+1+t:Nat):Int)),(0,.slice A n c),(1,.int .i64 (a:Int)),(2,.int .i64 (b:Int)),(3,q.fv)]) (fun t=>SoM q A c n (insI q.key xs a t)) (fun t=>b-(a+1)-t) 0 (by omega) ⟨rfl,rfl,rfl,rfl,rfl,trivial⟩ (SubM.refl _ _) ?_
 rintro t ht
 dsimp only
 refine gGw ?_
 refine br_d (fun hlt=>?_) (fun hge=>?_)
 ·have hp0:=ziA q.key xs a t (by omega)
  refine gGw ?_
  refine lp zaa (γ:=Nat × List Int) (fun g=>g.1≤a+1+t∧g.2.Perm xs∧insJ q.key a (a+1+t) (insI q.key xs a t)=insJ q.key a g.1 g.2) (fun g=>[(9,.int .i64 (g.1:Int)),(8,.int .i64 ((a+1+t:Nat):Int)),(0,.slice A n c),(1,.int .i64 (a:Int)),(2,.int .i64 (b:Int)),(3,q.fv)]) (fun g=>SoM q A c n g.2) (fun g=>g.1) (a+1+t,insI q.key xs a t) ⟨Nat.le_refl _,hp0,rfl⟩ ⟨rfl,rfl,rfl,rfl,rfl,rfl,trivial⟩ (SubM.refl _ _) ?_
  rintro ⟨j,ys⟩ ⟨hj,hp,he⟩
  simp only at hj hp he
  dsimp only
  have hyl:ys.length=n:=by rw [hp.length_eq,hn]
  conv=>whnf
  refine zao zaa mixed (by kernel_rfl) rfl ?_
  conv=>whnf
  refine gG0 ?_
  refine br_d (fun hgt=>?_) (fun hle=>?_)
  ·obtain ⟨j,rfl⟩:∃ j',j=j'+1:=⟨j-1,by omega⟩
   have g1:=zbg (xs:=ys) (j:=j+1) (by omega)
   have g0:=zbg (xs:=ys) (j:=j) (by omega)
   have ej:(((j+1:Nat):Int)-1)=(j:Int):=by omega
   conv=>whnf
   refine gG0 ?_
   refine And.intro ⟨by omega,by omega,hpl (by omega)⟩ ?_
   conv=>whnf
   refine⟨_,(ldR zaa (by repeat constructor) rfl rfl g1).g,?_⟩
   conv=>whnf
   refine gG0 ?_
   rw [ej]
   refine And.intro ⟨by omega,by omega,hpl (by omega)⟩ ?_
   conv=>whnf
   refine⟨_,(ldR zaa (by repeat constructor) rfl rfl g0).g,?_⟩
   conv=>whnf
   refine gG0 ?_
   refine⟨_,cpg zcR (fun _ w' hm'=>zvP hq (hn ▸ hK) hp (i:=j+1) (j:=j) (by omega) (by omega) hm'),?_⟩
   conv=>whnf
   refine gG0 ?_
   refine br_d (fun hc=>?_) (fun hc=>?_)
   ·have eJ:insJ q.key a (j+1) ys=insJ q.key a j (zbW ys (j+1) j):=by rw [insJ,if_pos ⟨by omega,by omega⟩]
    have hps:=(zdS (xs:=ys) (i:=j+1) (j:=j) (by omega) (by omega)).trans hp
    conv=>whnf
    refine za5 (γ:=Unit) (Tr.hs [0,1,2,3,4,5,6,7,8,10,11,12] (.alts 9 (.sq [13] (.hs [14] (.sq [15] (.hs [16] (.sq [17] .done))))) (.alts 13 (.sq [9] (.hs [14] (.sq [15] (.hs [16] (.sq [17] .done))))) .stop))) [] zaa mixed (by kernel_rfl) rfl (fun _=>True)
     (fun _=>[(9,.int .i64 ((j+1:Nat):Int)),(8,.int .i64 ((a+1+t:Nat):Int)),(0,.slice A n c),(1,.int .i64 (a:Int)),(2,.int .i64 (b:Int)),(3,q.fv)]) (fun _=>SoM q A c n (zbW ys (j+1) j)) (SubM.sel .nil) ?_ ?_
    ·refine gGw ?_
     rw [ej]
     refine And.intro ⟨by omega,by omega,hpl (by omega)⟩ ?_
     refine gGw ?_
     refine And.intro ⟨by omega,by omega,hpl (by omega)⟩ ?_
     conv=>whnf
     refine⟨?_,?_⟩
     ·refine zai (ldR zaa (by repeat constructor) rfl rfl g0) ?_
      refine gGt ?_
      refine zai (ldR zaa (by repeat constructor) rfl rfl g1) ?_
      refine gGt ?_
      refine And.intro ⟨by omega,by omega,hpl (by omega)⟩ ?_
      refine gGt ?_
      refine zaw (off:=j+1) (xs':=(ys.set (j+1) (ys.getD j 0)).map (.int .i64)) zaa rfl (by repeat constructor) rfl rfl (by show j+1+1≤n*1;omega) (Nat.one_pos) (by rw [List.map_set];rfl) ?_
      refine gGt ?_
      refine And.intro ⟨by omega,by omega,hpl (by omega)⟩ ?_
      refine gGt ?_
      refine zaw (off:=j) (xs':=(zbW ys (j+1) j).map (.int .i64)) zaa rfl (by repeat constructor) rfl rfl (by show j+1≤n*1;omega) (Nat.one_pos) (by unfold zbW;rw [List.map_set (l:=ys.set (j+1) (ys.getD j 0))];rfl) ?_
      refine gGt ?_
      exact⟨(),trivial,⟨rfl,rfl,rfl,rfl,rfl,rfl,trivial⟩,SubM.sl⟩
     conv=>whnf
     refine⟨?_,trivial⟩
     ·refine zai (ldR zaa (by repeat constructor) rfl rfl g1) ?_
      refine gGt ?_
      refine zai (ldR zaa (by repeat constructor) rfl rfl g0) ?_
      refine gGt ?_
      refine And.intro ⟨by omega,by omega,hpl (by omega)⟩ ?_
      refine gGt ?_
      refine zaw (off:=j+1) (xs':=(ys.set (j+1) (ys.getD j 0)).map (.int .i64)) zaa rfl (by repeat constructor) rfl rfl (by show j+1+1≤n*1;omega) (Nat.one_pos) (by rw [List.map_set];rfl) ?_
      refine gGt ?_
      refine And.intro ⟨by omega,by omega,hpl (by omega)⟩ ?_
      refine gGt ?_
      refine zaw (off:=j) (xs':=(zbW ys (j+1) j).map (.int .i64)) zaa rfl (by repeat constructor) rfl rfl (by show j+1≤n*1;omega) (Nat.one_pos) (by unfold zbW;rw [List.map_set (l:=ys.set (j+1) (ys.getD j 0))];rfl) ?_
      refine gGt ?_
      exact⟨(),trivial,⟨rfl,rfl,rfl,rfl,rfl,rfl,trivial⟩,SubM.sl⟩
    ·rintro ⟨⟩ -
     refine gGw ?_
     refine⟨(j,zbW ys (j+1) j),⟨by simp only;omega,hps,by rw [he,eJ]⟩,by simp only;omega,⟨?_,rfl,rfl,rfl,rfl,rfl,trivial⟩,SubM.refl _ _⟩
     rw [ej];rfl
   ·have eJ:insJ q.key a (j+1) ys=ys:=by rw [insJ,if_neg (by omega)]
    refine gGw ?_
    refine⟨t+1,by omega,by omega,⟨?_,rfl,rfl,rfl,rfl,trivial⟩,?_⟩
    ·refine congrArg (fun x:Int=>some (Value.int .i64 x)) ?_
     push_cast;omega
    ·rw [insI,he,eJ];exact SubM.refl _ _
  ·have eJ:insJ q.key a j ys=ys:=by
    cases j with
    | zero=>rfl
    | succ j=>rw [insJ,if_neg (by omega)]
   conv=>whnf
   refine gG0 ?_
   refine br_f rfl ?_
   refine gGw ?_
   refine⟨t+1,by omega,by omega,⟨?_,rfl,rfl,rfl,rfl,trivial⟩,?_⟩
   ·refine congrArg (fun x:Int=>some (Value.int .i64 x)) ?_
    push_cast;omega
   ·rw [insI,he,eJ];exact SubM.refl _ _
 ·have hte:t=b-(a+1):=by omega
  subst hte
  refine gGw ?_
  exact fin0 rfl (fun w' hm=>⟨_,⟨rfl,rfl⟩,hm⟩) (by first|exact .inl rfl|exact .inr rfl)
end
section
attribute [local irreducible] Br Rn RnU Cl RdG CpG Ld Rd Lp Dr Oth Cut fin Fits Eng.Enters Md NA
set_option maxHeartbeats 1000000 in
theorem zhZ (q:Ks) (A:Option Addr) (c:Nat) (xs:List Int) (a b k:Nat) (w:World) (h1:a+k≤xs.length) (h2:b+k≤xs.length) (hl:xs.length≤1048576) (ha:a≤1048576) (hb:b≤1048576) (hm:MemOk w (Foot (SoM q A c xs.length xs)) (SoM q A c xs.length xs) w) :
  Ctr Tryz.prog 270 [.slice A xs.length c,.int .i64 (a:Int),.int .i64 (b:Int),.int .i64 (k:Int),q.fv] (SoM q A c xs.length xs) (fun e m'=>e=.returned (.tuple #[])∧m'=SoM q A c xs.length (swR xs a b k)) w:=by
 obtain ⟨n0,hn⟩:∃ n,n=xs.length:=⟨_,rfl⟩
 rw [← hn] at h1 h2 hl hm ⊢
 refine enter (cx:=CXS 38 [] w (Foot (SoM q A c n0 xs))) [(0,.slice A n0 c),(1,.int .i64 (a:Int)),(2,.int .i64 (b:Int)),(3,.int .i64 (k:Int)),(4,q.fv)] zaa Tryz.func270 rfl rfl rfl rfl hm ?_
 have hpl:0<n0→Pl A:=fun h=>zcV (hm.ok (IR A c n0 xs) (by simp)) h
 refine gGw ?_
 refine lp zaa (γ:=Nat) (fun i=>i≤k) (fun i=>[(10,.int .i64 (i:Int)),(0,.slice A n0 c),(1,.int .i64 (a:Int)),(2,.int .i64 (b:Int)),(3,.int .i64 (k:Int)),(4,q.fv)]) (fun i=>SoM q A c n0 (swR xs a b i)) (fun i=>k-i) 0 (by omega) ⟨rfl,rfl,rfl,rfl,rfl,rfl,trivial⟩ (SubM.refl _ _) ?_
 rintro i hi
 dsimp only
 refine gGw ?_
 refine br_d (fun hlt=>?_) (fun hge=>?_)
 ·have hyl:(swR xs a b i).length=n0:=by rw [(zdr xs a b i (by omega) (by omega)).length_eq,hn]
  have eS:swR xs a b (i+1)=zbW (swR xs a b i) (a+i) (b+i):=rfl
  generalize swR xs a b i=ys at hyl eS ⊢
  have g1:=zbg (xs:=ys) (j:=b+i) (by omega)
  have g0:=zbg (xs:=ys) (j:=a+i) (by omega)
  have ea:(a:Int)+(i:Int)=((a+i:Nat):Int):=by push_cast;rfl
  have eb:(b:Int)+(i:Int)=((b+i:Nat):Int):=by push_cast;rfl
  conv=>whnf
  refine za5 (γ:=Unit) (Tr.hs [0,1,2,3,4,5,6,7,8,9,10,11,12,14,15,16,17,18] (.alts 13 (.sq [19] (.hs [20] (.sq [21] (.hs [22] (.sq [23] .done))))) (.alts 19 (.sq [13] (.hs [20] (.sq [21] (.hs [22] (.sq [23] .done))))) .stop))) [] zaa mixed (by kernel_rfl) rfl (fun _=>True)
   (fun _=>[(10,.int .i64 (i:Int)),(0,.slice A n0 c),(1,.int .i64 (a:Int)),(2,.int .i64 (b:Int)),(3,.int .i64 (k:Int)),(4,q.fv)]) (fun _=>SoM q A c n0 (zbW ys (a+i) (b+i))) (SubM.sel .nil) ?_ ?_
  ·refine gGw ?_
   refine And.intro ⟨by omega,by omega,hpl (by omega)⟩ ?_
   refine gGw ?_
   refine And.intro ⟨by omega,by omega,hpl (by omega)⟩ ?_
   conv=>whnf
   refine⟨?_,?_⟩
   ·refine zai (ldR zaa (by repeat constructor) rfl rfl g1) ?_
    refine gGt ?_
    refine zai (ldR zaa (by repeat constructor) rfl rfl g0) ?_
    refine gGt ?_
    refine And.intro ⟨by omega,by omega,hpl (by omega)⟩ ?_
    refine gGt ?_
    refine zaw (off:=a+i) (xs':=(ys.set (a+i) (ys.getD (b+i) 0)).map (.int .i64)) zaa rfl (by repeat constructor) rfl rfl (by show a+i+1≤n0*1;omega) (Nat.one_pos) (by rw [List.map_set];rfl) ?_
    refine gGt ?_
    refine And.intro ⟨by omega,by omega,hpl (by omega)⟩ ?_
    refine gGt ?_
    refine zaw (off:=b+i) (xs':=(zbW ys (a+i) (b+i)).map (.int .i64)) zaa rfl (by repeat constructor) rfl rfl (by show b+i+1≤n0*1;omega) (Nat.one_pos) (by unfold zbW;rw [List.map_set (l:=ys.set (a+i) (ys.getD (b+i) 0))];rfl) ?_
    refine gGt ?_
    exact⟨(),trivial,⟨rfl,rfl,rfl,rfl,rfl,rfl,trivial⟩,SubM.sl⟩
   conv=>whnf
   refine⟨?_,trivial⟩
   ·refine zai (ldR zaa (by repeat constructor) rfl rfl g0) ?_
    refine gGt ?_
    refine zai (ldR zaa (by repeat constructor) rfl rfl g1) ?_
    refine gGt ?_
    refine And.intro ⟨by omega,by omega,hpl (by omega)⟩ ?_
    refine gGt ?_
    refine zaw (off:=a+i) (xs':=(ys.set (a+i) (ys.getD (b+i) 0)).map (.int .i64)) zaa rfl (by repeat constructor) rfl rfl (by show a+i+1≤n0*1;omega) (Nat.one_pos) (by rw [List.map_set];rfl) ?_
    refine gGt ?_
    refine And.intro ⟨by omega,by omega,hpl (by omega)⟩ ?_
    refine gGt ?_
    refine zaw (off:=b+i) (xs':=(zbW ys (a+i) (b+i)).map (.int .i64)) zaa rfl (by repeat constructor) rfl rfl (by show b+i+1≤n0*1;omega) (Nat.one_pos) (by unfold zbW;rw [List.map_set (l:=ys.set (a+i) (ys.getD (b+i) 0))];rfl) ?_
    refine gGt ?_
    exact⟨(),trivial,⟨rfl,rfl,rfl,rfl,rfl,rfl,trivial⟩,SubM.sl⟩
  ·rintro ⟨⟩ -
   refine gGw ?_
   rw [← eS]
   exact⟨i+1,by omega,by omega,⟨rfl,rfl,rfl,rfl,rfl,rfl,trivial⟩,SubM.refl _ _⟩
 ·have hik:i=k:=by omega
  subst hik
  refine gGw ?_
  exact fin0 rfl (fun w' hm=>⟨_,⟨rfl,rfl⟩,hm⟩) (by first|exact .inl rfl|exact .inr rfl)
end
section
attribute [local irreducible] Br Rn RnU Cl RdG CpG Ld Rd Lp Dr Oth Cut fin Fits Eng.Enters Md NA
set_option maxHeartbeats 1000000 in
theorem zjw (q:Ks) (A:Option Addr) (c:Nat) (xs:List Int) (a m b:Nat) (w:World) (h1:a<m) (h2:m<b) (h3:b≤xs.length) (hl:xs.length≤1048576) (hm:MemOk w (Foot (SoM q A c xs.length xs)) (SoM q A c xs.length xs) w) :
  Ctr Tryz.prog 266 [.slice A xs.length c,.int .i64 (a:Int),.int .i64 (m:Int),.int .i64 (b:Int),q.fv] (SoM q A c xs.length xs) (fun e m'=>e=.returned (.tuple #[])∧m'=SoM q A c xs.length (rotF m (m-a) (b-m) xs)) w:=by
 obtain ⟨n0,hn⟩:∃ n,n=xs.length:=⟨_,rfl⟩
 rw [← hn] at h3 hl hm ⊢
 refine enter (cx:=CXS 58 [] w (Foot (SoM q A c n0 xs))) [(0,.slice A n0 c),(1,.int .i64 (a:Int)),(2,.int .i64 (m:Int)),(3,.int .i64 (b:Int)),(4,q.fv)] zaa Tryz.func266 rfl rfl rfl rfl hm ?_
 refine gGw ?_
 refine lp zaa (γ:=Nat × Nat × List Int) (fun g=>0<g.1∧0<g.2.1∧g.1≤m∧m+g.2.1≤n0∧g.2.2.Perm xs∧rotF m (m-a) (b-m) xs=rotF m g.1 g.2.1 g.2.2) (fun g=>[(10,.int .i64 (g.1:Int)),(11,.int .i64 (g.2.1:Int)),(0,.slice A n0 c),(1,.int .i64 (a:Int)),(2,.int .i64 (m:Int)),(3,.int .i64 (b:Int)),(4,q.fv)]) (fun g=>SoM q A c n0 g.2.2) (fun g=>g.1+g.2.1) (m-a,b-m,xs)
  ⟨by simp only;omega,by simp only;omega,by simp only;omega,by simp only;omega,List.Perm.refl _,rfl⟩ ⟨by rw [show ((m-a:Nat):Int)=(m:Int)-(a:Int) by omega];rfl,by rw [show ((b-m:Nat):Int)=(b:Int)-(m:Int) by omega];rfl,rfl,rfl,rfl,rfl,rfl,trivial⟩ (SubM.refl _ _) ?_
 rintro ⟨i,j,ys⟩ ⟨hi,hj,him,hjn,hp,he⟩
 simp only at hi hj him hjn hp he
 dsimp only
 have hyl:ys.length=n0:=by rw [hp.length_eq,hn]
 have emi:(m:Int)-(i:Int)=((m-i:Nat):Int):=by omega
 refine gGw ?_
 refine br_n (br_d (fun heq=>?_) (fun hne=>?_))
 ·have hij:i=j:=by omega
  subst hij
  have eR:rotF m i i ys=swR ys (m-i) m i:=by rw [rotF,if_pos (.inl rfl)]
  refine gGw ?_
  rw [emi]
  refine⟨zex,zac (m1:=SoM q A c n0 ys) (by repeat constructor) (fun w' hm'=>hyl ▸ zhZ q A c ys (m-i) m i w' (by omega) (by omega) (by omega) (by omega) (by omega) (hyl ▸ hm'.part)) ?_⟩
  rintro e m' ⟨rfl,rfl⟩
  refine gGw ?_
  rw [he,eR]
  exact fin0 rfl (fun w' hm=>⟨_,⟨rfl,rfl⟩,hm⟩) (by first|exact .inl rfl|exact .inr rfl)
 ·refine gGw ?_
  refine br_d (fun hgt=>?_) (fun hle=>?_)
  ·have eR:rotF m i j ys=rotF m (i-j) j (swR ys (m-i) m j):=by rw [rotF,if_neg (by omega),if_pos (by omega)]
   have hps:=zdr ys (m-i) m j (by omega) (by omega)
   refine gGw ?_
   rw [emi]
   refine⟨zex,zac (m1:=SoM q A c n0 ys) (by repeat constructor) (fun w' hm'=>hyl ▸ zhZ q A c ys (m-i) m j w' (by omega) (by omega) (by omega) (by omega) (by omega) (hyl ▸ hm'.part)) ?_⟩
   rintro e m' ⟨rfl,rfl⟩
   refine gGw ?_
   refine⟨(i-j,j,swR ys (m-i) m j),⟨by simp only;omega,hj,by simp only;omega,hjn,hps.trans hp,by rw [he,eR]⟩,by simp only;omega,⟨?_,rfl,rfl,rfl,rfl,rfl,rfl,trivial⟩,SubM.refl _ _⟩
   rw [show ((i-j:Nat):Int)=(i:Int)-(j:Int) by omega];rfl
  ·have eR:rotF m i j ys=rotF m i (j-i) (swR ys (m-i) (m+j-i) i):=by rw [rotF,if_neg (by omega),if_neg (by omega)]
   have hps:=zdr ys (m-i) (m+j-i) i (by omega) (by omega)
   have emj:(m:Int)+(j:Int)-(i:Int)=((m+j-i:Nat):Int):=by omega
   refine gGw ?_
   rw [emi,emj]
   refine⟨zex,zac (m1:=SoM q A c n0 ys) (by repeat constructor) (fun w' hm'=>hyl ▸ zhZ q A c ys (m-i) (m+j-i) i w' (by omega) (by omega) (by omega) (by omega) (by omega) (hyl ▸ hm'.part)) ?_⟩
   rintro e m' ⟨rfl,rfl⟩
   refine gGw ?_
   refine⟨(i,j-i,swR ys (m-i) (m+j-i) i),⟨hi,by simp only;omega,him,by simp only;omega,hps.trans hp,by rw [he,eR]⟩,by simp only;omega,⟨rfl,?_,rfl,rfl,rfl,rfl,rfl,trivial⟩,SubM.refl _ _⟩
   rw [show ((j-i:Nat):Int)=(j:Int)-(i:Int) by omega];rfl
end
section
theorem zhL (P:Nat→Bool) (i:Nat):bsF P i i=i:=by rw [bsF,if_neg (Nat.lt_irrefl _)]
theorem zle {P:Nat→Bool} {i j:Nat} (h:i<j) (hp:P ((i+j)/2)=true):bsF P i j=bsF P ((i+j)/2+1) j:=by rw [bsF,if_pos h,if_pos hp]
theorem zoY {P:Nat→Bool} {i j:Nat} (h:i<j) (hp:P ((i+j)/2)=false):bsF P i j=bsF P i ((i+j)/2):=by rw [bsF,if_pos h,if_neg (by rw [hp];decide)]
def symT (k:Int→Int) (a m b:Nat) (xs:List Int) (M s:Nat):List Int :=
 if M<M+m-s∧M+m-s<b then symF k M (M+m-s) b (if a<s∧s<M then symF k a s M (if s<m∧m<M+m-s then rotF m (m-s) (M+m-s-m) xs else xs) else (if s<m∧m<M+m-s then rotF m (m-s) (M+m-s-m) xs else xs))
 else (if a<s∧s<M then symF k a s M (if s<m∧m<M+m-s then rotF m (m-s) (M+m-s-m) xs else xs) else (if s<m∧m<M+m-s then rotF m (m-s) (M+m-s-m) xs else xs))
theorem zjt {k:Int→Int} {a m b:Nat} {xs:List Int} {M s:Nat} (n1:¬ m-a=1) (n2:¬ b-m=1) (h1:a<m) (h2:m<b) (hM:M=(a+b)/2)
  (hs:s=if M<m then bsF (fun c=>!decide (zaH k xs (M+m-1-c)<zaH k xs c)) (M+m-b) M else bsF (fun c=>!decide (zaH k xs (M+m-1-c)<zaH k xs c)) a m):symF k a m b xs=symT k a m b xs M s:=by
 subst hM
 rw [symF,if_neg n1,if_neg n2,dif_pos ⟨h1,h2⟩]
 simp only
 rw [← hs]
 rfl
attribute [local irreducible] Br Rn RnU Cl RdG CpG Ld Rd Lp Dr Oth Cut fin Fits Eng.Enters Md NA
def SymC (q:Ks) (A:Option Addr) (c N:Nat):Prop:=∀ (xs:List Int) (a m b:Nat) (w:World),b-a≤N→a<m→m<b→b≤xs.length→xs.length≤1048576→KsOk q xs→KIn q A c xs.length xs w→MemOk w (Foot (SoM q A c xs.length xs)) (SoM q A c xs.length xs) w →
 Ctr Tryz.prog 256 [.slice A xs.length c,.int .i64 (a:Int),.int .i64 (m:Int),.int .i64 (b:Int),q.fv] (SoM q A c xs.length xs) (fun e m'=>e=.returned (.tuple #[])∧m'=SoM q A c xs.length (symF q.key a m b xs)) w
set_option maxHeartbeats 2000000 in
theorem zq4 (q:Ks) (A:Option Addr) (c N:Nat) (ih:SymC q A c N):SymC q A c (N+1):=by
 intro xs a m b w hN h1 h2 h3 hl hq hK hm
 obtain ⟨n0,hn⟩:∃ n,n=xs.length:=⟨_,rfl⟩
 rw [← hn] at h3 hl hm hK ⊢
 refine enter (cx:=⟨Tryz.prog,220,w,Foot (SoM q A c n0 xs),tab,[],[221],[],[]⟩) [(0,.slice A n0 c),(1,.int .i64 (a:Int)),(2,.int .i64 (m:Int)),(3,.int .i64 (b:Int)),(4,q.fv)] zaa Tryz.func256 rfl rfl rfl rfl hm ?_
 have hpl:0<n0→Pl A:=fun h=>zcV (hm.ok (IR A c n0 xs) (by simp)) h
 have hcmp:∀ (ys:List Int),ys.Perm xs→∀ i j,i<n0→j<n0→∀ w',MemOk w (Foot (SoM q A c n0 xs)) (SoM q A c n0 ys) w'→Calls Tryz.prog 221 #[.int .i64 (ys.getD i 0),.int .i64 (ys.getD j 0),.pointer (some ⟨q.B,0,none⟩)] w' fun e w''=>e=.returned (.int .i64 (zaH q.key ys i-zaH q.key ys j))∧Fr (fun _=>False) w' w'' :=
  fun ys hp i j hi hj w' hm'=>zvP hq hK hp (by rw [hp.length_eq,← hn];exact hi) (by rw [hp.length_eq,← hn];exact hj) hm'
 refine gGw ?_
 refine br_d (fun hone=>?_) (fun hmore=>?_)
 ·have eY:symF q.key a m b xs=upF xs a (bsF (fun h=>decide (zaH q.key xs h<zaH q.key xs a)) m b-1-a):=by rw [symF,if_pos (by omega)]
  have hbd:=zhl (fun h=>decide (zaH q.key xs h<zaH q.key xs a)) m b (by omega)
  rw [eY]
  refine gGw ?_
  refine lp zaa (γ:=Nat × Nat) (fun g=>m≤g.1∧g.1≤g.2∧g.2≤b∧bsF (fun h=>decide (zaH q.key xs h<zaH q.key xs a)) (m) (b)=bsF (fun h=>decide (zaH q.key xs h<zaH q.key xs a)) g.1 g.2) (fun g=>[(10,.int .i64 (g.1:Int)),(11,.int .i64 (g.2:Int)),(0,.slice A n0 c),(1,.int .i64 (a:Int)),(2,.int .i64 (m:Int)),(3,.int .i64 (b:Int)),(4,q.fv)]) (fun _=>SoM q A c n0 xs) (fun g=>g.2-g.1) (m,b)
   ⟨Nat.le_refl _,by simp only;omega,Nat.le_refl _,rfl⟩ ⟨rfl,rfl,rfl,rfl,rfl,rfl,rfl,trivial⟩ (SubM.refl _ _) ?_
  rintro ⟨i,j⟩ ⟨hi,hij,hj,he⟩
  simp only at hi hij hj he
  dsimp only
  refine gGw ?_
  refine br_d (fun hlt=>?_) (fun hge=>?_)
  ·have hlt':i<j:=by omega
   have eH:((i:Int)+(j:Int))/2 ^ Int.toNat 1=(((i+j)/2:Nat):Int):=by
    show ((i:Int)+(j:Int))/2=_
    omega
   have hyes:=zle (P:=fun h=>decide (zaH q.key xs h<zaH q.key xs a)) hlt'
   have hno:=zoY (P:=fun h=>decide (zaH q.key xs h<zaH q.key xs a)) hlt'
   have hh:i≤(i+j)/2∧(i+j)/2<j:=by omega
   refine gGw ?_
   rw [eH]
   generalize (i+j)/2=h at hh hyes hno ⊢
   have g1:=zbg (xs:=xs) (j:=h) (by omega)
   have g0:=zbg (xs:=xs) (j:=a) (by omega)
   refine zao zaa mixed (by kernel_rfl) rfl ?_
   conv=>whnf
   refine gG0 ?_
   refine And.intro ⟨by omega,by omega,hpl (by omega)⟩ ?_
   conv=>whnf
   refine⟨_,(ldR zaa (by repeat constructor) rfl rfl g1).g,?_⟩
   conv=>whnf
   refine gG0 ?_
   refine And.intro ⟨by omega,by omega,hpl (by omega)⟩ ?_
   conv=>whnf
   refine⟨_,(ldR zaa (by repeat constructor) rfl rfl g0).g,?_⟩
   conv=>whnf
   refine gG0 ?_
   refine⟨_,cpg zcR (fun _ w' hm'=>hcmp _ (List.Perm.refl _) (h) (a) (by omega) (by omega) w' hm'),?_⟩
   conv=>whnf
   refine gG0 ?_
   refine br_d (fun hc=>?_) (fun hc=>?_)
   ·have hP:=hyes (by simp only [decide_eq_true_eq];omega)
    refine gGw ?_
    refine⟨(h+1,j),⟨by simp only;omega,by simp only;omega,hj,by rw [he,hP]⟩,by simp only;omega,⟨?_,rfl,rfl,rfl,rfl,rfl,rfl,trivial⟩,SubM.refl _ _⟩
    rfl
   ·have hP:=hno (by simp only [decide_eq_false_iff_not];omega)
    refine gGw ?_
    exact⟨(i,h),⟨hi,by simp only;omega,by simp only;omega,by rw [he,hP]⟩,by simp only;omega,⟨rfl,rfl,rfl,rfl,rfl,rfl,rfl,trivial⟩,SubM.refl _ _⟩
  ·have hie:i=j:=by omega
   subst hie
   rw [zhL] at he
   rw [he] at hbd ⊢
   refine gGw ?_
   refine lp zaa (γ:=Nat) (fun t=>t≤i-1-a) (fun t=>[(13,.int .i64 ((a+t:Nat):Int)),(10,.int .i64 (i:Int)),(0,.slice A n0 c),(1,.int .i64 (a:Int)),(2,.int .i64 (m:Int)),(3,.int .i64 (b:Int)),(4,q.fv)]) (fun t=>SoM q A c n0 (upF xs a t)) (fun t=>i-1-a-t) 0 (by omega) ⟨rfl,rfl,rfl,rfl,rfl,rfl,rfl,trivial⟩ (SubM.refl _ _) ?_
   rintro t ht
   dsimp only
   refine gGw ?_
   refine br_d (fun hlt=>?_) (fun hge=>?_)
   ·have hyl:(upF xs a t).length=n0:=by rw [(zjZ xs a t (by omega)).length_eq,hn]
    have eS:upF xs a (t+1)=zbW (upF xs a t) (a+t) (a+t+1):=rfl
    generalize upF xs a t=ys at hyl eS ⊢
    have g1:=zbg (xs:=ys) (j:=a+t+1) (by omega)
    have g0:=zbg (xs:=ys) (j:=a+t) (by omega)
    have ea:((a+t:Nat):Int)+1=((a+t+1:Nat):Int):=by push_cast;rfl
    conv=>whnf
    refine za5 (γ:=Unit) (Tr.hs [0,1,2,3,4,5,6,7,8,10,11,12] (.alts 9 (.sq [13] (.hs [14] (.sq [15] (.hs [16] (.sq [17] .done))))) (.alts 13 (.sq [9] (.hs [14] (.sq [15] (.hs [16] (.sq [17] .done))))) .stop))) [] zaa mixed (by kernel_rfl) rfl (fun _=>True)
     (fun _=>[(13,.int .i64 ((a+t:Nat):Int)),(10,.int .i64 (i:Int)),(0,.slice A n0 c),(1,.int .i64 (a:Int)),(2,.int .i64 (m:Int)),(3,.int .i64 (b:Int)),(4,q.fv)]) (fun _=>SoM q A c n0 (zbW ys (a+t) (a+t+1))) (SubM.sel .nil) ?_ ?_
    ·refine gGw ?_
     refine And.intro ⟨by omega,by omega,hpl (by omega)⟩ ?_
     refine gGw ?_
     refine And.intro ⟨by omega,by omega,hpl (by omega)⟩ ?_
     conv=>whnf
     refine⟨?_,?_⟩
     ·refine zai (ldR zaa (by repeat constructor) rfl rfl g1) ?_
      refine gGt ?_
      refine zai (ldR zaa (by repeat constructor) rfl rfl g0) ?_
      refine gGt ?_
      refine And.intro ⟨by omega,by omega,hpl (by omega)⟩ ?_
      refine gGt ?_
      refine zaw (off:=a+t) (xs':=(ys.set (a+t) (ys.getD (a+t+1) 0)).map (.int .i64)) zaa rfl (by repeat constructor) rfl rfl (by show a+t+1≤n0*1;omega) (Nat.one_pos) (by rw [List.map_set];rfl) ?_
      refine gGt ?_
      refine And.intro ⟨by omega,by omega,hpl (by omega)⟩ ?_
      refine gGt ?_
      refine zaw (off:=a+t+1) (xs':=(zbW ys (a+t) (a+t+1)).map (.int .i64)) zaa rfl (by repeat constructor) rfl rfl (by show a+t+1+1≤n0*1;omega) (Nat.one_pos) (by unfold zbW;rw [List.map_set (l:=ys.set (a+t) (ys.getD (a+t+1) 0))];rfl) ?_
      refine gGt ?_
      exact⟨(),trivial,⟨rfl,rfl,rfl,rfl,rfl,rfl,rfl,trivial⟩,SubM.sl⟩
     conv=>whnf
     refine⟨?_,trivial⟩
     ·refine zai (ldR zaa (by repeat constructor) rfl rfl g0) ?_
      refine gGt ?_
      refine zai (ldR zaa (by repeat constructor) rfl rfl g1) ?_
      refine gGt ?_
      refine And.intro ⟨by omega,by omega,hpl (by omega)⟩ ?_
      refine gGt ?_
      refine zaw (off:=a+t) (xs':=(ys.set (a+t) (ys.getD (a+t+1) 0)).map (.int .i64)) zaa rfl (by repeat constructor) rfl rfl (by show a+t+1≤n0*1;omega) (Nat.one_pos) (by rw [List.map_set];rfl) ?_
      refine gGt ?_
      refine And.intro ⟨by omega,by omega,hpl (by omega)⟩ ?_
      refine gGt ?_
      refine zaw (off:=a+t+1) (xs':=(zbW ys (a+t) (a+t+1)).map (.int .i64)) zaa rfl (by repeat constructor) rfl rfl (by show a+t+1+1≤n0*1;omega) (Nat.one_pos) (by unfold zbW;rw [List.map_set (l:=ys.set (a+t) (ys.getD (a+t+1) 0))];rfl) ?_
      refine gGt ?_
      exact⟨(),trivial,⟨rfl,rfl,rfl,rfl,rfl,rfl,rfl,trivial⟩,SubM.sl⟩
    ·rintro ⟨⟩ -
     refine gGw ?_
     rw [← eS]
     exact⟨t+1,by omega,by omega,⟨rfl,rfl,rfl,rfl,rfl,rfl,rfl,trivial⟩,SubM.refl _ _⟩
   ·have hte:t=i-1-a:=by omega
    subst hte
    refine gGw ?_
    exact fin0 rfl (fun w' hm=>⟨_,⟨rfl,rfl⟩,hm⟩) (by first|exact .inl rfl|exact .inr rfl)
 ·refine gGw ?_
  refine br_d (fun htwo=>?_) (fun hmore2=>?_)
  ·have eY:symF q.key a m b xs=zk1 xs m (m-bsF (fun h=>!decide (zaH q.key xs m<zaH q.key xs h)) a m):=by rw [symF,if_neg (by omega),if_pos (by omega)]
   have hbd:=zhl (fun h=>!decide (zaH q.key xs m<zaH q.key xs h)) a m (by omega)
   rw [eY]
   refine gGw ?_
   refine lp zaa (γ:=Nat × Nat) (fun g=>a≤g.1∧g.1≤g.2∧g.2≤m∧bsF (fun h=>!decide (zaH q.key xs m<zaH q.key xs h)) (a) (m)=bsF (fun h=>!decide (zaH q.key xs m<zaH q.key xs h)) g.1 g.2) (fun g=>[(14,.int .i64 (g.1:Int)),(15,.int .i64 (g.2:Int)),(0,.slice A n0 c),(1,.int .i64 (a:Int)),(2,.int .i64 (m:Int)),(3,.int .i64 (b:Int)),(4,q.fv)]) (fun _=>SoM q A c n0 xs) (fun g=>g.2-g.1) (a,m)
    ⟨Nat.le_refl _,by simp only;omega,Nat.le_refl _,rfl⟩ ⟨rfl,rfl,rfl,rfl,rfl,rfl,rfl,trivial⟩ (SubM.refl _ _) ?_
   rintro ⟨i,j⟩ ⟨hi,hij,hj,he⟩
   simp only at hi hij hj he
   dsimp only
   refine gGw ?_
   refine br_d (fun hlt=>?_) (fun hge=>?_)
   ·have hlt':i<j:=by omega
    have eH:((i:Int)+(j:Int))/2 ^ Int.toNat 1=(((i+j)/2:Nat):Int):=by
     show ((i:Int)+(j:Int))/2=_
     omega
    have hyes:=zle (P:=fun h=>!decide (zaH q.key xs m<zaH q.key xs h)) hlt'
    have hno:=zoY (P:=fun h=>!decide (zaH q.key xs m<zaH q.key xs h)) hlt'
    have hh:i≤(i+j)/2∧(i+j)/2<j:=by omega
    refine gGw ?_
    rw [eH]
    generalize (i+j)/2=h at hh hyes hno ⊢
    have g1:=zbg (xs:=xs) (j:=m) (by omega)
    have g0:=zbg (xs:=xs) (j:=h) (by omega)
    refine zao zaa mixed (by kernel_rfl) rfl ?_
    conv=>whnf
    refine gG0 ?_
    refine And.intro ⟨by omega,by omega,hpl (by omega)⟩ ?_
    conv=>whnf
    refine⟨_,(ldR zaa (by repeat constructor) rfl rfl g1).g,?_⟩
    conv=>whnf
    refine gG0 ?_
    refine And.intro ⟨by omega,by omega,hpl (by omega)⟩ ?_
    conv=>whnf
    refine⟨_,(ldR zaa (by repeat constructor) rfl rfl g0).g,?_⟩
    conv=>whnf
    refine gG0 ?_
    refine⟨_,cpg zcR (fun _ w' hm'=>hcmp _ (List.Perm.refl _) (m) (h) (by omega) (by omega) w' hm'),?_⟩
    conv=>whnf
    refine gG0 ?_
    refine br_n (br_d (fun hc=>?_) (fun hc=>?_))
    ·have hP:=hno (by simp only [Bool.not_eq_false',decide_eq_true_eq];omega)
     refine gGw ?_
     exact⟨(i,h),⟨hi,by simp only;omega,by simp only;omega,by rw [he,hP]⟩,by simp only;omega,⟨rfl,rfl,rfl,rfl,rfl,rfl,rfl,trivial⟩,SubM.refl _ _⟩
    ·have hP:=hyes (by simp only [Bool.not_eq_true',decide_eq_false_iff_not];omega)
     refine gGw ?_
     refine⟨(h+1,j),⟨by simp only;omega,by simp only;omega,hj,by rw [he,hP]⟩,by simp only;omega,⟨?_,rfl,rfl,rfl,rfl,rfl,rfl,trivial⟩,SubM.refl _ _⟩
     rfl
   ·have hie:i=j:=by omega
    subst hie
    rw [zhL] at he
    rw [he] at hbd ⊢
    refine gGw ?_
    refine lp zaa (γ:=Nat) (fun t=>t≤m-i) (fun t=>[(17,.int .i64 ((m-t:Nat):Int)),(14,.int .i64 (i:Int)),(0,.slice A n0 c),(1,.int .i64 (a:Int)),(2,.int .i64 (m:Int)),(3,.int .i64 (b:Int)),(4,q.fv)]) (fun t=>SoM q A c n0 (zk1 xs m t)) (fun t=>m-i-t) 0 (by omega) ⟨rfl,rfl,rfl,rfl,rfl,rfl,rfl,trivial⟩ (SubM.refl _ _) ?_
    rintro t ht
    dsimp only
    refine gGw ?_
    refine br_d (fun hlt=>?_) (fun hge=>?_)
    ·have hyl:(zk1 xs m t).length=n0:=by rw [(zgX xs m (by omega) t (by omega)).length_eq,hn]
     have eS:zk1 xs m (t+1)=zbW (zk1 xs m t) (m-t) (m-t-1):=rfl
     generalize zk1 xs m t=ys at hyl eS ⊢
     have g1:=zbg (xs:=ys) (j:=m-t-1) (by omega)
     have g0:=zbg (xs:=ys) (j:=m-t) (by omega)
     have ea:((m-t:Nat):Int)-1=((m-t-1:Nat):Int):=by omega
     conv=>whnf
     refine za5 (γ:=Unit) (Tr.hs [0,1,2,3,4,5,6,7,8,10,11,12] (.alts 9 (.sq [13] (.hs [14] (.sq [15] (.hs [16] (.sq [17] .done))))) (.alts 13 (.sq [9] (.hs [14] (.sq [15] (.hs [16] (.sq [17] .done))))) .stop))) [] zaa mixed (by kernel_rfl) rfl (fun _=>True)
      (fun _=>[(17,.int .i64 ((m-t:Nat):Int)),(14,.int .i64 (i:Int)),(0,.slice A n0 c),(1,.int .i64 (a:Int)),(2,.int .i64 (m:Int)),(3,.int .i64 (b:Int)),(4,q.fv)]) (fun _=>SoM q A c n0 (zbW ys (m-t) (m-t-1))) (SubM.sel .nil) ?_ ?_
     ·refine gGw ?_
      rw [ea]
      refine And.intro ⟨by omega,by omega,hpl (by omega)⟩ ?_
      refine gGw ?_
      refine And.intro ⟨by omega,by omega,hpl (by omega)⟩ ?_
      conv=>whnf
      refine⟨?_,?_⟩
      ·refine zai (ldR zaa (by repeat constructor) rfl rfl g1) ?_
       refine gGt ?_
       refine zai (ldR zaa (by repeat constructor) rfl rfl g0) ?_
       refine gGt ?_
       refine And.intro ⟨by omega,by omega,hpl (by omega)⟩ ?_
       refine gGt ?_
       refine zaw (off:=m-t) (xs':=(ys.set (m-t) (ys.getD (m-t-1) 0)).map (.int .i64)) zaa rfl (by repeat constructor) rfl rfl (by show m-t+1≤n0*1;omega) (Nat.one_pos) (by rw [List.map_set];rfl) ?_
       refine gGt ?_
       refine And.intro ⟨by omega,by omega,hpl (by omega)⟩ ?_
       refine gGt ?_
       refine zaw (off:=m-t-1) (xs':=(zbW ys (m-t) (m-t-1)).map (.int .i64)) zaa rfl (by repeat constructor) rfl rfl (by show m-t-1+1≤n0*1;omega) (Nat.one_pos) (by unfold zbW;rw [List.map_set (l:=ys.set (m-t) (ys.getD (m-t-1) 0))];rfl) ?_
       refine gGt ?_
       exact⟨(),trivial,⟨rfl,rfl,rfl,rfl,rfl,rfl,rfl,trivial⟩,SubM.sl⟩
      conv=>whnf
      refine⟨?_,trivial⟩
      ·refine zai (ldR zaa (by repeat constructor) rfl rfl g0) ?_
       refine gGt ?_
       refine zai (ldR zaa (by repeat constructor) rfl rfl g1) ?_
       refine gGt ?_
       refine And.intro ⟨by omega,by omega,hpl (by omega)⟩ ?_
       refine gGt ?_
       refine zaw (off:=m-t) (xs':=(ys.set (m-t) (ys.getD (m-t-1) 0)).map (.int .i64)) zaa rfl (by repeat constructor) rfl rfl (by show m-t+1≤n0*1;omega) (Nat.one_pos) (by rw [List.map_set];rfl) ?_
       refine gGt ?_
       refine And.intro ⟨by omega,by omega,hpl (by omega)⟩ ?_
       refine gGt ?_
       refine zaw (off:=m-t-1) (xs':=(zbW ys (m-t) (m-t-1)).map (.int .i64)) zaa rfl (by repeat constructor) rfl rfl (by show m-t-1+1≤n0*1;omega) (Nat.one_pos) (by unfold zbW;rw [List.map_set (l:=ys.set (m-t) (ys.getD (m-t-1) 0))];rfl) ?_
       refine gGt ?_
       exact⟨(),trivial,⟨rfl,rfl,rfl,rfl,rfl,rfl,rfl,trivial⟩,SubM.sl⟩
     ·rintro ⟨⟩ -
      refine gGw ?_
      rw [← eS]
      refine⟨t+1,by omega,by omega,⟨?_,rfl,rfl,rfl,rfl,rfl,rfl,trivial⟩,SubM.refl _ _⟩
      rw [show ((m-(t+1):Nat):Int)=((m-t:Nat):Int)-1 by omega];rfl
    ·have hte:t=m-i:=by omega
     subst hte
     refine gGw ?_
     exact fin0 rfl (fun w' hm=>⟨_,⟨rfl,rfl⟩,hm⟩) (by first|exact .inl rfl|exact .inr rfl)
  ·obtain ⟨M,hM⟩:∃ M,M=(a+b)/2:=⟨_,rfl⟩
   have hM2:2*M≤a+b∧a+b<2*M+2:=by omega
   have eM:((a:Int)+(b:Int))/2 ^ Int.toNat 1=(M:Int):=by
    show ((a:Int)+(b:Int))/2=_
    omega
   refine gGw ?_
   rw [eM]
   refine br_d (fun hgt=>?_) (fun hgt=>?_)
   ·have hgt:M<m:=by omega
    refine gGw ?_
    refine lp zaa (γ:=Nat × Nat) (fun g=>M+m-b≤g.1∧g.1≤g.2∧g.2≤M∧bsF (fun c=>!decide (zaH q.key xs (M+m-1-c)<zaH q.key xs c)) (M+m-b) (M)=bsF (fun c=>!decide (zaH q.key xs (M+m-1-c)<zaH q.key xs c)) g.1 g.2) (fun g=>[(20,.int .i64 (g.1:Int)),(21,.int .i64 (g.2:Int)),(18,.int .i64 (M:Int)),(19,.int .i64 ((M:Int)+(m:Int))),(22,.int .i64 ((M:Int)+(m:Int)-1)),(0,.slice A n0 c),(1,.int .i64 (a:Int)),(2,.int .i64 (m:Int)),(3,.int .i64 (b:Int)),(4,q.fv)]) (fun _=>SoM q A c n0 xs) (fun g=>g.2-g.1) (M+m-b,M)
     ⟨Nat.le_refl _,by simp only;omega,Nat.le_refl _,rfl⟩ ⟨by rw [show ((M+m-b:Nat):Int)=(M:Int)+(m:Int)-(b:Int) by omega];rfl,rfl,rfl,rfl,rfl,rfl,rfl,rfl,rfl,rfl,trivial⟩ (SubM.refl _ _) ?_
    rintro ⟨i,j⟩ ⟨hi,hij,hj,he⟩
    simp only at hi hij hj he
    dsimp only
    refine gGw ?_
    refine br_d (fun hlt=>?_) (fun hge=>?_)
    ·have hlt':i<j:=by omega
     have eH:((i:Int)+(j:Int))/2 ^ Int.toNat 1=(((i+j)/2:Nat):Int):=by
      show ((i:Int)+(j:Int))/2=_
      omega
     have hyes:=zle (P:=fun c=>!decide (zaH q.key xs (M+m-1-c)<zaH q.key xs c)) hlt'
     have hno:=zoY (P:=fun c=>!decide (zaH q.key xs (M+m-1-c)<zaH q.key xs c)) hlt'
     have hh:i≤(i+j)/2∧(i+j)/2<j:=by omega
     refine gGw ?_
     rw [eH]
     generalize (i+j)/2=h at hh hyes hno ⊢
     have eP:(M:Int)+(m:Int)-1-(h:Int)=((M+m-1-h:Nat):Int):=by omega
     have g1:=zbg (xs:=xs) (j:=M+m-1-h) (by omega)
     have g0:=zbg (xs:=xs) (j:=h) (by omega)
     refine zao zaa mixed (by kernel_rfl) rfl ?_
     conv=>whnf
     refine gG0 ?_
     rw [eP]
     refine And.intro ⟨by omega,by omega,hpl (by omega)⟩ ?_
     conv=>whnf
     refine⟨_,(ldR zaa (by repeat constructor) rfl rfl g1).g,?_⟩
     conv=>whnf
     refine gG0 ?_
     refine And.intro ⟨by omega,by omega,hpl (by omega)⟩ ?_
     conv=>whnf
     refine⟨_,(ldR zaa (by repeat constructor) rfl rfl g0).g,?_⟩
     conv=>whnf
     refine gG0 ?_
     refine⟨_,cpg zcR (fun _ w' hm'=>hcmp _ (List.Perm.refl _) (M+m-1-h) (h) (by omega) (by omega) w' hm'),?_⟩
     conv=>whnf
     refine gG0 ?_
     refine br_n (br_d (fun hc=>?_) (fun hc=>?_))
     ·have hP:=hno (by simp only [Bool.not_eq_false',decide_eq_true_eq];omega)
      refine gGw ?_
      exact⟨(i,h),⟨hi,by simp only;omega,by simp only;omega,by rw [he,hP]⟩,by simp only;omega,⟨rfl,rfl,rfl,rfl,rfl,rfl,rfl,rfl,rfl,rfl,trivial⟩,SubM.refl _ _⟩
     ·have hP:=hyes (by simp only [Bool.not_eq_true',decide_eq_false_iff_not];omega)
      refine gGw ?_
      refine⟨(h+1,j),⟨by simp only;omega,by simp only;omega,hj,by rw [he,hP]⟩,by simp only;omega,⟨?_,rfl,rfl,rfl,rfl,rfl,rfl,rfl,rfl,rfl,trivial⟩,SubM.refl _ _⟩
      rfl
    ·have hie:i=j:=by omega
     subst hie
     rw [zhL] at he
     have hbd:=zhl (fun c=>!decide (zaH q.key xs (M+m-1-c)<zaH q.key xs c)) (M+m-b) (M) (by omega)
     rw [he] at hbd
     have eY:symF q.key a m b xs=symT q.key a m b xs M i:=zjt (by omega) (by omega) h1 h2 hM (by rw [if_pos hgt,← he])
     have eE:(M:Int)+(m:Int)-(i:Int)=((M+m-i:Nat):Int):=by omega
     have hp0:(xs).Perm xs:=List.Perm.refl _
     have hy0:(xs).length=n0:=by rw [hp0.length_eq,hn]
     refine gGw ?_
     rw [eE]
     refine br (fun hc0=>?_) (fun hc0=>?_)
     ·have hd0:i<m∧m<M+m-i:=by simp only [Bool.and_eq_true,decide_eq_true_eq] at hc0;omega
      refine gGw ?_
      refine⟨zgf,zac (m1:=SoM q A c n0 (xs)) (by repeat constructor) (fun w' hm'=>hy0 ▸ zjw q A c _ i m (M+m-i) w' (by omega) (by omega) (by omega) (by omega) (hy0 ▸ hm'.part)) ?_⟩
      rintro e m' ⟨rfl,rfl⟩
      have hp1:(rotF m (m-i) (M+m-i-m) (xs)).Perm xs:=zeK _ _ _ _ (by omega) (by omega) (by omega)
      have hy1:(rotF m (m-i) (M+m-i-m) (xs)).length=n0:=by rw [hp1.length_eq,hn]
      refine gGw ?_
      refine br (fun hc1=>?_) (fun hc1=>?_)
      ·have hd1:a<i∧i<M:=by simp only [Bool.and_eq_true,decide_eq_true_eq] at hc1;omega
       refine gGw ?_
       refine⟨zaP,zac (m1:=SoM q A c n0 (rotF m (m-i) (M+m-i-m) (xs))) (by repeat constructor) (fun w' hm'=>hy1 ▸ ih _ a i M w' (by omega) (by omega) (by omega) (by omega) (by omega) (hq.perm hp1) (KIn.row (KIn.fr hK hm'.fr)) (hy1 ▸ hm'.part)) ?_⟩
       rintro e m' ⟨rfl,rfl⟩
       have hp2:(symF q.key a i M (rotF m (m-i) (M+m-i-m) (xs))).Perm xs:=(zdR q.key a i M _ (by omega) (by omega) (by omega)).trans hp1
       have hy2:(symF q.key a i M (rotF m (m-i) (M+m-i-m) (xs))).length=n0:=by rw [hp2.length_eq,hn]
       refine gGw ?_
       refine br (fun hc2=>?_) (fun hc2=>?_)
       ·have hd2:M<M+m-i∧M+m-i<b:=by simp only [Bool.and_eq_true,decide_eq_true_eq] at hc2;omega
        refine gGw ?_
        refine⟨zaP,zac (m1:=SoM q A c n0 (symF q.key a i M (rotF m (m-i) (M+m-i-m) (xs)))) (by repeat constructor) (fun w' hm'=>hy2 ▸ ih _ M (M+m-i) b w' (by omega) (by omega) (by omega) (by omega) (by omega) (hq.perm hp2) (KIn.row (KIn.fr hK hm'.fr)) (hy2 ▸ hm'.part)) ?_⟩
        rintro e m' ⟨rfl,rfl⟩
        refine gGw ?_
        refine fin0 rfl (fun w' hm=>⟨_,⟨rfl,?_⟩,hm⟩) (by first|exact .inl rfl|exact .inr rfl)
        rw [eY]
        unfold symT
        rw [if_pos hd0,if_pos hd1,if_pos hd2]
        all_goals rfl
       ·have hd2:¬ (M<M+m-i∧M+m-i<b):=by simp only [Bool.and_eq_false_iff,decide_eq_false_iff_not] at hc2;omega
        refine gGw ?_
        refine fin0 rfl (fun w' hm=>⟨_,⟨rfl,?_⟩,hm⟩) (by first|exact .inl rfl|exact .inr rfl)
        rw [eY]
        unfold symT
        rw [if_pos hd0,if_pos hd1,if_neg hd2]
        all_goals rfl
      ·have hd1:¬ (a<i∧i<M):=by simp only [Bool.and_eq_false_iff,decide_eq_false_iff_not] at hc1;omega
       have hp2:(rotF m (m-i) (M+m-i-m) (xs)).Perm xs:=zeK _ _ _ _ (by omega) (by omega) (by omega)
       have hy2:(rotF m (m-i) (M+m-i-m) (xs)).length=n0:=by rw [hp2.length_eq,hn]
       refine gGw ?_
       refine br (fun hc2=>?_) (fun hc2=>?_)
       ·have hd2:M<M+m-i∧M+m-i<b:=by simp only [Bool.and_eq_true,decide_eq_true_eq] at hc2;omega
        refine gGw ?_
        refine⟨zaP,zac (m1:=SoM q A c n0 (rotF m (m-i) (M+m-i-m) (xs))) (by repeat constructor) (fun w' hm'=>hy2 ▸ ih _ M (M+m-i) b w' (by omega) (by omega) (by omega) (by omega) (by omega) (hq.perm hp2) (KIn.row (KIn.fr hK hm'.fr)) (hy2 ▸ hm'.part)) ?_⟩
        rintro e m' ⟨rfl,rfl⟩
        refine gGw ?_
        refine fin0 rfl (fun w' hm=>⟨_,⟨rfl,?_⟩,hm⟩) (by first|exact .inl rfl|exact .inr rfl)
        rw [eY]
        unfold symT
        rw [if_pos hd0,if_neg hd1,if_pos hd2]
        all_goals rfl
       ·have hd2:¬ (M<M+m-i∧M+m-i<b):=by simp only [Bool.and_eq_false_iff,decide_eq_false_iff_not] at hc2;omega
        refine gGw ?_
        refine fin0 rfl (fun w' hm=>⟨_,⟨rfl,?_⟩,hm⟩) (by first|exact .inl rfl|exact .inr rfl)
        rw [eY]
        unfold symT
        rw [if_pos hd0,if_neg hd1,if_neg hd2]
        all_goals rfl
     ·have hd0:¬ (i<m∧m<M+m-i):=by simp only [Bool.and_eq_false_iff,decide_eq_false_iff_not] at hc0;omega
      have hp1:(xs).Perm xs:=List.Perm.refl _
      have hy1:(xs).length=n0:=by rw [hp1.length_eq,hn]
      refine gGw ?_
      refine br (fun hc1=>?_) (fun hc1=>?_)
      ·have hd1:a<i∧i<M:=by simp only [Bool.and_eq_true,decide_eq_true_eq] at hc1;omega
       refine gGw ?_
       refine⟨zaP,zac (m1:=SoM q A c n0 (xs)) (by repeat constructor) (fun w' hm'=>hy1 ▸ ih _ a i M w' (by omega) (by omega) (by omega) (by omega) (by omega) (hq.perm hp1) (KIn.row (KIn.fr hK hm'.fr)) (hy1 ▸ hm'.part)) ?_⟩
       rintro e m' ⟨rfl,rfl⟩
       have hp2:(symF q.key a i M (xs)).Perm xs:=(zdR q.key a i M _ (by omega) (by omega) (by omega)).trans hp1
       have hy2:(symF q.key a i M (xs)).length=n0:=by rw [hp2.length_eq,hn]
       refine gGw ?_
       refine br (fun hc2=>?_) (fun hc2=>?_)
       ·have hd2:M<M+m-i∧M+m-i<b:=by simp only [Bool.and_eq_true,decide_eq_true_eq] at hc2;omega
        refine gGw ?_
        refine⟨zaP,zac (m1:=SoM q A c n0 (symF q.key a i M (xs))) (by repeat constructor) (fun w' hm'=>hy2 ▸ ih _ M (M+m-i) b w' (by omega) (by omega) (by omega) (by omega) (by omega) (hq.perm hp2) (KIn.row (KIn.fr hK hm'.fr)) (hy2 ▸ hm'.part)) ?_⟩
        rintro e m' ⟨rfl,rfl⟩
        refine gGw ?_
        refine fin0 rfl (fun w' hm=>⟨_,⟨rfl,?_⟩,hm⟩) (by first|exact .inl rfl|exact .inr rfl)
        rw [eY]
        unfold symT
        rw [if_neg hd0,if_pos hd1,if_pos hd2]
        all_goals rfl
       ·have hd2:¬ (M<M+m-i∧M+m-i<b):=by simp only [Bool.and_eq_false_iff,decide_eq_false_iff_not] at hc2;omega
        refine gGw ?_
        refine fin0 rfl (fun w' hm=>⟨_,⟨rfl,?_⟩,hm⟩) (by first|exact .inl rfl|exact .inr rfl)
        rw [eY]
        unfold symT
        rw [if_neg hd0,if_pos hd1,if_neg hd2]
        all_goals rfl
      ·have hd1:¬ (a<i∧i<M):=by simp only [Bool.and_eq_false_iff,decide_eq_false_iff_not] at hc1;omega
       have hp2:(xs).Perm xs:=List.Perm.refl _
       have hy2:(xs).length=n0:=by rw [hp2.length_eq,hn]
       refine gGw ?_
       refine br (fun hc2=>?_) (fun hc2=>?_)
       ·have hd2:M<M+m-i∧M+m-i<b:=by simp only [Bool.and_eq_true,decide_eq_true_eq] at hc2;omega
        refine gGw ?_
        refine⟨zaP,zac (m1:=SoM q A c n0 (xs)) (by repeat constructor) (fun w' hm'=>hy2 ▸ ih _ M (M+m-i) b w' (by omega) (by omega) (by omega) (by omega) (by omega) (hq.perm hp2) (KIn.row (KIn.fr hK hm'.fr)) (hy2 ▸ hm'.part)) ?_⟩
        rintro e m' ⟨rfl,rfl⟩
        refine gGw ?_
        refine fin0 rfl (fun w' hm=>⟨_,⟨rfl,?_⟩,hm⟩) (by first|exact .inl rfl|exact .inr rfl)
        rw [eY]
        unfold symT
        rw [if_neg hd0,if_neg hd1,if_pos hd2]
        all_goals rfl
       ·have hd2:¬ (M<M+m-i∧M+m-i<b):=by simp only [Bool.and_eq_false_iff,decide_eq_false_iff_not] at hc2;omega
        refine gGw ?_
        refine fin0 rfl (fun w' hm=>⟨_,⟨rfl,?_⟩,hm⟩) (by first|exact .inl rfl|exact .inr rfl)
        rw [eY]
        unfold symT
        rw [if_neg hd0,if_neg hd1,if_neg hd2]
        all_goals rfl
   ·have hgt:¬ M<m:=by omega
    refine gGw ?_
    refine lp zaa (γ:=Nat × Nat) (fun g=>a≤g.1∧g.1≤g.2∧g.2≤m∧bsF (fun c=>!decide (zaH q.key xs (M+m-1-c)<zaH q.key xs c)) (a) (m)=bsF (fun c=>!decide (zaH q.key xs (M+m-1-c)<zaH q.key xs c)) g.1 g.2) (fun g=>[(20,.int .i64 (g.1:Int)),(21,.int .i64 (g.2:Int)),(18,.int .i64 (M:Int)),(19,.int .i64 ((M:Int)+(m:Int))),(22,.int .i64 ((M:Int)+(m:Int)-1)),(0,.slice A n0 c),(1,.int .i64 (a:Int)),(2,.int .i64 (m:Int)),(3,.int .i64 (b:Int)),(4,q.fv)]) (fun _=>SoM q A c n0 xs) (fun g=>g.2-g.1) (a,m)
     ⟨Nat.le_refl _,by simp only;omega,Nat.le_refl _,rfl⟩ ⟨rfl,rfl,rfl,rfl,rfl,rfl,rfl,rfl,rfl,rfl,trivial⟩ (SubM.refl _ _) ?_
    rintro ⟨i,j⟩ ⟨hi,hij,hj,he⟩
    simp only at hi hij hj he
    dsimp only
    refine gGw ?_
    refine br_d (fun hlt=>?_) (fun hge=>?_)
    ·have hlt':i<j:=by omega
     have eH:((i:Int)+(j:Int))/2 ^ Int.toNat 1=(((i+j)/2:Nat):Int):=by
      show ((i:Int)+(j:Int))/2=_
      omega
     have hyes:=zle (P:=fun c=>!decide (zaH q.key xs (M+m-1-c)<zaH q.key xs c)) hlt'
     have hno:=zoY (P:=fun c=>!decide (zaH q.key xs (M+m-1-c)<zaH q.key xs c)) hlt'
     have hh:i≤(i+j)/2∧(i+j)/2<j:=by omega
     refine gGw ?_
     rw [eH]
     generalize (i+j)/2=h at hh hyes hno ⊢
     have eP:(M:Int)+(m:Int)-1-(h:Int)=((M+m-1-h:Nat):Int):=by omega
     have g1:=zbg (xs:=xs) (j:=M+m-1-h) (by omega)
     have g0:=zbg (xs:=xs) (j:=h) (by omega)
     refine zao zaa mixed (by kernel_rfl) rfl ?_
     conv=>whnf
     refine gG0 ?_
     rw [eP]
     refine And.intro ⟨by omega,by omega,hpl (by omega)⟩ ?_
     conv=>whnf
     refine⟨_,(ldR zaa (by repeat constructor) rfl rfl g1).g,?_⟩
     conv=>whnf
     refine gG0 ?_
     refine And.intro ⟨by omega,by omega,hpl (by omega)⟩ ?_
     conv=>whnf
     refine⟨_,(ldR zaa (by repeat constructor) rfl rfl g0).g,?_⟩
     conv=>whnf
     refine gG0 ?_
     refine⟨_,cpg zcR (fun _ w' hm'=>hcmp _ (List.Perm.refl _) (M+m-1-h) (h) (by omega) (by omega) w' hm'),?_⟩
     conv=>whnf
     refine gG0 ?_
     refine br_n (br_d (fun hc=>?_) (fun hc=>?_))
     ·have hP:=hno (by simp only [Bool.not_eq_false',decide_eq_true_eq];omega)
      refine gGw ?_
      exact⟨(i,h),⟨hi,by simp only;omega,by simp only;omega,by rw [he,hP]⟩,by simp only;omega,⟨rfl,rfl,rfl,rfl,rfl,rfl,rfl,rfl,rfl,rfl,trivial⟩,SubM.refl _ _⟩
     ·have hP:=hyes (by simp only [Bool.not_eq_true',decide_eq_false_iff_not];omega)
      refine gGw ?_
      refine⟨(h+1,j),⟨by simp only;omega,by simp only;omega,hj,by rw [he,hP]⟩,by simp only;omega,⟨?_,rfl,rfl,rfl,rfl,rfl,rfl,rfl,rfl,rfl,trivial⟩,SubM.refl _ _⟩
      rfl
    ·have hie:i=j:=by omega
     subst hie
     rw [zhL] at he
     have hbd:=zhl (fun c=>!decide (zaH q.key xs (M+m-1-c)<zaH q.key xs c)) (a) (m) (by omega)
     rw [he] at hbd
     have eY:symF q.key a m b xs=symT q.key a m b xs M i:=zjt (by omega) (by omega) h1 h2 hM (by rw [if_neg hgt,← he])
     have eE:(M:Int)+(m:Int)-(i:Int)=((M+m-i:Nat):Int):=by omega
     have hp0:(xs).Perm xs:=List.Perm.refl _
     have hy0:(xs).length=n0:=by rw [hp0.length_eq,hn]
     refine gGw ?_
     rw [eE]
     refine br (fun hc0=>?_) (fun hc0=>?_)
     ·have hd0:i<m∧m<M+m-i:=by simp only [Bool.and_eq_true,decide_eq_true_eq] at hc0;omega
      refine gGw ?_
      refine⟨zgf,zac (m1:=SoM q A c n0 (xs)) (by repeat constructor) (fun w' hm'=>hy0 ▸ zjw q A c _ i m (M+m-i) w' (by omega) (by omega) (by omega) (by omega) (hy0 ▸ hm'.part)) ?_⟩
      rintro e m' ⟨rfl,rfl⟩
      have hp1:(rotF m (m-i) (M+m-i-m) (xs)).Perm xs:=zeK _ _ _ _ (by omega) (by omega) (by omega)
      have hy1:(rotF m (m-i) (M+m-i-m) (xs)).length=n0:=by rw [hp1.length_eq,hn]
      refine gGw ?_
      refine br (fun hc1=>?_) (fun hc1=>?_)
      ·have hd1:a<i∧i<M:=by simp only [Bool.and_eq_true,decide_eq_true_eq] at hc1;omega
       refine gGw ?_
       refine⟨zaP,zac (m1:=SoM q A c n0 (rotF m (m-i) (M+m-i-m) (xs))) (by repeat constructor) (fun w' hm'=>hy1 ▸ ih _ a i M w' (by omega) (by omega) (by omega) (by omega) (by omega) (hq.perm hp1) (KIn.row (KIn.fr hK hm'.fr)) (hy1 ▸ hm'.part)) ?_⟩
       rintro e m' ⟨rfl,rfl⟩
       have hp2:(symF q.key a i M (rotF m (m-i) (M+m-i-m) (xs))).Perm xs:=(zdR q.key a i M _ (by omega) (by omega) (by omega)).trans hp1
       have hy2:(symF q.key a i M (rotF m (m-i) (M+m-i-m) (xs))).length=n0:=by rw [hp2.length_eq,hn]
       refine gGw ?_
       refine br (fun hc2=>?_) (fun hc2=>?_)
       ·have hd2:M<M+m-i∧M+m-i<b:=by simp only [Bool.and_eq_true,decide_eq_true_eq] at hc2;omega
        refine gGw ?_
        refine⟨zaP,zac (m1:=SoM q A c n0 (symF q.key a i M (rotF m (m-i) (M+m-i-m) (xs)))) (by repeat constructor) (fun w' hm'=>hy2 ▸ ih _ M (M+m-i) b w' (by omega) (by omega) (by omega) (by omega) (by omega) (hq.perm hp2) (KIn.row (KIn.fr hK hm'.fr)) (hy2 ▸ hm'.part)) ?_⟩
        rintro e m' ⟨rfl,rfl⟩
        refine gGw ?_
        refine fin0 rfl (fun w' hm=>⟨_,⟨rfl,?_⟩,hm⟩) (by first|exact .inl rfl|exact .inr rfl)
        rw [eY]
        unfold symT
        rw [if_pos hd0,if_pos hd1,if_pos hd2]
        all_goals rfl
       ·have hd2:¬ (M<M+m-i∧M+m-i<b):=by simp only [Bool.and_eq_false_iff,decide_eq_false_iff_not] at hc2;omega
        refine gGw ?_
        refine fin0 rfl (fun w' hm=>⟨_,⟨rfl,?_⟩,hm⟩) (by first|exact .inl rfl|exact .inr rfl)
        rw [eY]
        unfold symT
        rw [if_pos hd0,if_pos hd1,if_neg hd2]
        all_goals rfl
      ·have hd1:¬ (a<i∧i<M):=by simp only [Bool.and_eq_false_iff,decide_eq_false_iff_not] at hc1;omega
       have hp2:(rotF m (m-i) (M+m-i-m) (xs)).Perm xs:=zeK _ _ _ _ (by omega) (by omega) (by omega)
       have hy2:(rotF m (m-i) (M+m-i-m) (xs)).length=n0:=by rw [hp2.length_eq,hn]
       refine gGw ?_
       refine br (fun hc2=>?_) (fun hc2=>?_)
       ·have hd2:M<M+m-i∧M+m-i<b:=by simp only [Bool.and_eq_true,decide_eq_true_eq] at hc2;omega
        refine gGw ?_
        refine⟨zaP,zac (m1:=SoM q A c n0 (rotF m (m-i) (M+m-i-m) (xs))) (by repeat constructor) (fun w' hm'=>hy2 ▸ ih _ M (M+m-i) b w' (by omega) (by omega) (by omega) (by omega) (by omega) (hq.perm hp2) (KIn.row (KIn.fr hK hm'.fr)) (hy2 ▸ hm'.part)) ?_⟩
        rintro e m' ⟨rfl,rfl⟩
        refine gGw ?_
        refine fin0 rfl (fun w' hm=>⟨_,⟨rfl,?_⟩,hm⟩) (by first|exact .inl rfl|exact .inr rfl)
        rw [eY]
        unfold symT
        rw [if_pos hd0,if_neg hd1,if_pos hd2]
        all_goals rfl
       ·have hd2:¬ (M<M+m-i∧M+m-i<b):=by simp only [Bool.and_eq_false_iff,decide_eq_false_iff_not] at hc2;omega
        refine gGw ?_
        refine fin0 rfl (fun w' hm=>⟨_,⟨rfl,?_⟩,hm⟩) (by first|exact .inl rfl|exact .inr rfl)
        rw [eY]
        unfold symT
        rw [if_pos hd0,if_neg hd1,if_neg hd2]
        all_goals rfl
     ·have hd0:¬ (i<m∧m<M+m-i):=by simp only [Bool.and_eq_false_iff,decide_eq_false_iff_not] at hc0;omega
      have hp1:(xs).Perm xs:=List.Perm.refl _
      have hy1:(xs).length=n0:=by rw [hp1.length_eq,hn]
      refine gGw ?_
      refine br (fun hc1=>?_) (fun hc1=>?_)
      ·have hd1:a<i∧i<M:=by simp only [Bool.and_eq_true,decide_eq_true_eq] at hc1;omega
       refine gGw ?_
       refine⟨zaP,zac (m1:=SoM q A c n0 (xs)) (by repeat constructor) (fun w' hm'=>hy1 ▸ ih _ a i M w' (by omega) (by omega) (by omega) (by omega) (by omega) (hq.perm hp1) (KIn.row (KIn.fr hK hm'.fr)) (hy1 ▸ hm'.part)) ?_⟩
       rintro e m' ⟨rfl,rfl⟩
       have hp2:(symF q.key a i M (xs)).Perm xs:=(zdR q.key a i M _ (by omega) (by omega) (by omega)).trans hp1
       have hy2:(symF q.key a i M (xs)).length=n0:=by rw [hp2.length_eq,hn]
       refine gGw ?_
       refine br (fun hc2=>?_) (fun hc2=>?_)
       ·have hd2:M<M+m-i∧M+m-i<b:=by simp only [Bool.and_eq_true,decide_eq_true_eq] at hc2;omega
        refine gGw ?_
        refine⟨zaP,zac (m1:=SoM q A c n0 (symF q.key a i M (xs))) (by repeat constructor) (fun w' hm'=>hy2 ▸ ih _ M (M+m-i) b w' (by omega) (by omega) (by omega) (by omega) (by omega) (hq.perm hp2) (KIn.row (KIn.fr hK hm'.fr)) (hy2 ▸ hm'.part)) ?_⟩
        rintro e m' ⟨rfl,rfl⟩
        refine gGw ?_
        refine fin0 rfl (fun w' hm=>⟨_,⟨rfl,?_⟩,hm⟩) (by first|exact .inl rfl|exact .inr rfl)
        rw [eY]
        unfold symT
        rw [if_neg hd0,if_pos hd1,if_pos hd2]
        all_goals rfl
       ·have hd2:¬ (M<M+m-i∧M+m-i<b):=by simp only [Bool.and_eq_false_iff,decide_eq_false_iff_not] at hc2;omega
        refine gGw ?_
        refine fin0 rfl (fun w' hm=>⟨_,⟨rfl,?_⟩,hm⟩) (by first|exact .inl rfl|exact .inr rfl)
        rw [eY]
        unfold symT
        rw [if_neg hd0,if_pos hd1,if_neg hd2]
        all_goals rfl
      ·have hd1:¬ (a<i∧i<M):=by simp only [Bool.and_eq_false_iff,decide_eq_false_iff_not] at hc1;omega
       have hp2:(xs).Perm xs:=List.Perm.refl _
       have hy2:(xs).length=n0:=by rw [hp2.length_eq,hn]
       refine gGw ?_
       refine br (fun hc2=>?_) (fun hc2=>?_)
       ·have hd2:M<M+m-i∧M+m-i<b:=by simp only [Bool.and_eq_true,decide_eq_true_eq] at hc2;omega
        refine gGw ?_
        refine⟨zaP,zac (m1:=SoM q A c n0 (xs)) (by repeat constructor) (fun w' hm'=>hy2 ▸ ih _ M (M+m-i) b w' (by omega) (by omega) (by omega) (by omega) (by omega) (hq.perm hp2) (KIn.row (KIn.fr hK hm'.fr)) (hy2 ▸ hm'.part)) ?_⟩
        rintro e m' ⟨rfl,rfl⟩
        refine gGw ?_
        refine fin0 rfl (fun w' hm=>⟨_,⟨rfl,?_⟩,hm⟩) (by first|exact .inl rfl|exact .inr rfl)
        rw [eY]
        unfold symT
        rw [if_neg hd0,if_neg hd1,if_pos hd2]
        all_goals rfl
       ·have hd2:¬ (M<M+m-i∧M+m-i<b):=by simp only [Bool.and_eq_false_iff,decide_eq_false_iff_not] at hc2;omega
        refine gGw ?_
        refine fin0 rfl (fun w' hm=>⟨_,⟨rfl,?_⟩,hm⟩) (by first|exact .inl rfl|exact .inr rfl)
        rw [eY]
        unfold symT
        rw [if_neg hd0,if_neg hd1,if_neg hd2]
        all_goals rfl
end
end Go.Proofs.YtlmgelmloddfgaaGreat
