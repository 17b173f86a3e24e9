/- Part of a proof: contracts of the functions that the law reaches. No statement of the seat is proved here. -/
import Derived.Test.YtlmgelmloddfgaaGreatCcM13
import Derived.Test.YtlmgelmloddfgaaGreatRows
import Derived.Deep.Slices
import Derived.SizedLaws
import Derived.DataShut
import Derived.ProofKit
import Derived.OpenShut
import Derived.Deep.DeepHandedRow
import Derived.Lib.LaidTab
import Derived.Stop.LaidErr
import Derived.Lay
import Derived.Shelf.Vars
import Derived.Carry
set_option linter.unusedVariables false
set_option linter.unusedSimpArgs false
set_option linter.unusedSectionVars false
set_option maxRecDepth 100000
namespace Go.Proofs.YtlmgelmloddfgaaGreat
open Go Go.RowKit Eng
section
def TkR (R:Option (Nat × Nat)) (e:Ending) (m':Mem):Prop:=m'=[]∧((∃ i n,R=some (i,n)∧e=.returned (.tuple #[.int .i64 (i:Nat),.int .i64 (n:Nat),.int .i64 0])) ∨
 (R=none∧∃ z:Int,z≠0∧e=.returned (.tuple #[.int .i64 0,.int .i64 0,.int .i64 z])))
theorem zqp {l:List Int} (hl:l.length≤400) (i:Nat):0≤(ze1 l).getD i 0∧(ze1 l).getD i 0≤13107200:=by
 by_cases h:i<(ze1 l).length
 ·exact (zk8 hl 15 (by omega)).2 _ (zbC h)
 ·rw [List.getD_eq_getElem?_getD,List.getElem?_eq_none (by omega)];decide
attribute [local irreducible] Br Rn RnU Cl RdG CpG Ld Rd Lp Dr Oth Cut fin Fits Eng.Enters Md NA
set_option maxHeartbeats 1000000 in
theorem zv4 (l:List Int) (K:List UInt8) (A B:Option Addr) (c d nl nk:Nat) (w:World) (hnl:l.length=nl) (hnk:K.length=nk) (hb:IntsIn .i64 w A l) (hbk:BytsIn w B K) (hl:LenL l) (hk:nk≤15) (hK:BitsL K) :
  Ctr Tryz.prog 261 [.slice A nl c,.slice B nk d] [] (TkR (rTk l (ze1 l) K nk 1 0)) w:=by
 subst hnl hnk
 refine enter (cx:=CXS 84 [] w (Foot [])) [(0,.slice A l.length c),(1,.slice B K.length d)] zaa Tryz.func261 rfl rfl rfl rfl (MemOk.nil w _) ?_
 have h1:=fun m=>IntsIn.ints (cx:=CXS 84 [] w (Foot [])) (m:=m) hb zam
 have h2:=fun m=>BytsIn.byts (cx:=CXS 84 [] w (Foot [])) (m:=m) hbk zam
 have hlen:=hl.2
 generalize hR:rTk l (ze1 l) K K.length 1 0=R
 refine gGw ?_
 refine⟨zj4,zac (m1:=[]) .nil (fun w' hm'=>zpa l A c w' ((h1 []).in_ hm') hl) ?_⟩
 rintro e m' ⟨cB,cd,rfl,rfl⟩
 have hcl:(ze1 l).length=l.length:=znK l 15
 have hcg:=zqp hlen
 generalize ze1 l=cs at hR hcl hcg ⊢
 refine gGw ?_
 refine lp zaa (γ:=Nat × Nat) (fun q=>q.1≤K.length∧q.2<2 ^ q.1∧rTk l cs K (K.length-q.1) (q.1+1) q.2=R) (fun q=>[(9,.int .i64 ((q.1:Int)+1)),(8,.int .u64 (q.2:Nat)),(7,.slice (some ⟨cB,0,none⟩) l.length cd),(0,.slice A l.length c),(1,.slice B K.length d)])
  (fun _=>[UR (some ⟨cB,0,none⟩) cd l.length cs]) (fun q=>K.length-q.1) (0,0) ⟨Nat.zero_le _,by show 0<2 ^ 0;decide,hR⟩ ⟨rfl,rfl,rfl,rfl,rfl,trivial⟩ SubM.sl ?_
 clear hR
 rintro ⟨k,x⟩ ⟨hkk,hx,hR⟩
 simp only at hkk hx hR
 dsimp only
 have hp15:2 ^ k≤2 ^ 15:=Nat.pow_le_pow_right (by omega) (by omega)
 have hp:(2:Nat) ^ 15=32768:=by decide
 refine gGw ?_
 by_cases hlt:k<K.length
 ·refine br_t (by simp only [Bool.and_eq_true,decide_eq_true_eq];omega) ?_
  obtain ⟨f,hf⟩:∃ f,K.length-k=f+1:=⟨K.length-k-1,by omega⟩
  rw [hf,rTk] at hR
  have hpl:Pl B:=(h2 []).plain (by omega)
  have hb1:=zoO hK k
  have hx2:2*x+(K.getD k 0).toNat<2 ^ (k+1):=by rw [Nat.pow_succ];omega
  have e1:(k:Int)+1-1=(k:Int):=by omega
  rw [show k+1-1=k by omega] at hR
  refine gGw ?_
  rw [e1]
  refine And.intro ⟨by omega,by omega,hpl⟩ ?_
  conv=>whnf
  refine zai ((h2 _).ld zaa rfl rfl (j:=k) (by omega)) ?_
  refine gGw ?_
  obtain ⟨y,hy⟩:∃ y,y=2*x+(K.getD k 0).toNat:=⟨_,rfl⟩
  have ey:2*(x:Int)+((K.getD k 0).toNat:Int)=(y:Int):=by omega
  rw [← hy] at hR hx2
  rw [ey]
  obtain ⟨S,hS⟩:∃ S,S=rIn l cs ((k+1:Nat):Int) y l.length 0:=⟨_,rfl⟩
  rw [← hS] at hR
  refine lp zaa (γ:=Nat) (fun i=>i≤l.length∧rIn l cs ((k+1:Nat):Int) y (l.length-i) i=S) (fun i=>[(10,.int .i64 (i:Int)),(9,.int .i64 ((k:Int)+1)),(8,.int .u64 (y:Nat)),(7,.slice (some ⟨cB,0,none⟩) l.length cd),(0,.slice A l.length c),(1,.slice B K.length d)])
   (fun _=>[UR (some ⟨cB,0,none⟩) cd l.length cs]) (fun i=>l.length-i) 0 ⟨Nat.zero_le _,hS.symm⟩ ⟨rfl,rfl,rfl,rfl,rfl,rfl,trivial⟩ SubM.sl ?_
  clear hS
  rintro i ⟨hi,hS⟩
  dsimp only
  refine gGw ?_
  refine br_d (fun hlt2=>?_) (fun hge2=>?_)
  ·obtain ⟨g,hg⟩:∃ g,l.length-i=g+1:=⟨l.length-i-1,by omega⟩
   rw [hg,rIn] at hS
   have hpA:Pl A:=(h1 []).plain (by omega)
   refine gGw ?_
   refine And.intro ⟨by omega,by omega,hpA⟩ ?_
   conv=>whnf
   refine zai ((h1 _).ld zaa rfl rfl (j:=i) (by omega)) ?_
   refine gGw ?_
   refine And.intro (fun _=>⟨by omega,by omega,Pl.mk _ _⟩) ?_
   refine gGw ?_
   refine⟨.int .u64 (cs.getD i 0),ldg (fun _=>ldR (j:=i) zaa (by repeat constructor) rfl rfl (zvs (by omega))),?_⟩
   refine gGw ?_
   by_cases hyes:l.getD i 0=((k+1:Nat):Int)∧cs.getD i 0=(y:Int)
   ·rw [if_pos hyes] at hS
    subst hS
    refine br_t (by rw [decide_eq_true (show l.getD i 0=(k:Int)+1 by have:=hyes.1;push_cast at this;exact this),decide_eq_true hyes.2];rfl) ?_
    refine gGw ?_
    exact fin3 rfl rfl rfl rfl (fun w' hm=>⟨_,⟨rfl,.inl ⟨i,k+1,hR.symm,by push_cast;rfl⟩⟩,hm.sublist (List.nil_sublist _)⟩)
   ·rw [if_neg hyes] at hS
    refine br_f (by simp only [Bool.and_eq_false_iff,decide_eq_false_iff_not];by_cases h:l.getD i 0=(k:Int)+1;exact .inr (fun h2=>hyes ⟨by push_cast;exact h,h2⟩);exact .inl h) ?_
    refine gGw ?_
    exact⟨i+1,⟨by omega,by rw [show l.length-(i+1)=g by omega];exact hS⟩,by omega,⟨congrArg (fun x=>some (Value.int .i64 x)) (by push_cast;rfl),rfl,rfl,rfl,rfl,rfl,trivial⟩,SubM.sl⟩
  ·have ei:i=l.length:=by omega
   rw [ei,Nat.sub_self] at hS
   rw [rIn] at hS
   subst hS
   refine gGw ?_
   exact⟨(k+1,y),⟨by show k+1≤K.length;omega,hx2,by show rTk l cs K (K.length-(k+1)) (k+1+1) y=R;rw [show K.length-(k+1)=f by omega];exact hR⟩,by show K.length-(k+1)<K.length-k;omega,⟨congrArg (fun x=>some (Value.int .i64 x)) (by push_cast;rfl),rfl,rfl,rfl,rfl,trivial⟩,SubM.sl⟩
 ·have ek:k=K.length:=by omega
  refine br_f (by rw [decide_eq_false (show ¬ (k:Int)+1≤K.length by omega)];rfl) ?_
  rw [ek,Nat.sub_self,rTk] at hR
  subst hR
  refine gGw ?_
  refine lp zaa (γ:=Nat) (fun i=>i≤l.length) (fun i=>[(11,.int .i64 (i:Int)),(8,.int .u64 (x:Nat)),(7,.slice (some ⟨cB,0,none⟩) l.length cd),(0,.slice A l.length c),(1,.slice B K.length d)])
   (fun _=>[UR (some ⟨cB,0,none⟩) cd l.length cs]) (fun i=>l.length-i) 0 (Nat.zero_le _) ⟨rfl,rfl,rfl,rfl,rfl,trivial⟩ SubM.sl ?_
  rintro i hi
  dsimp only
  refine gGw ?_
  refine br_d (fun hlt2=>?_) (fun hge2=>?_)
  ·have hpA:Pl A:=(h1 []).plain (by omega)
   have hlg:=hl.get i
   conv=>whnf
   refine zao zaa mixed (by kernel_rfl) rfl ?_;conv=>whnf
   refine gG0 ?_
   refine And.intro ⟨by omega,by omega,hpA⟩ ?_
   refine gGw ?_
   refine⟨.int .i64 (l.getD i 0),Ld.g ((h1 _).ld zaa rfl rfl (j:=i) (by omega)),?_⟩
   refine And.intro (fun _=>⟨by omega,by omega,Pl.mk _ _⟩) ?_
   refine gGw ?_
   refine⟨.int .u64 (cs.getD i 0),ldg (fun _=>ldR (j:=i) zaa (by repeat constructor) rfl rfl (zvs (by omega))),?_⟩
   refine gGw ?_
   refine And.intro (fun _=>⟨by omega,by omega,hpA⟩) ?_
   refine gGw ?_
   refine⟨.int .i64 (l.getD i 0),ldg (fun _=>(h1 _).ld zaa rfl rfl (j:=i) (by omega)),?_⟩
   refine And.intro (fun h=>zaB (by have h:=of_decide_eq_true h;omega)) ?_
   refine gGw ?_
   refine And.intro (fun h=>by have h:=of_decide_eq_true h;refine⟨by omega,?_⟩;show l.getD i 0-K.length≤64;omega) ?_
   refine gGw ?_
   rcases Bool.eq_false_or_eq_true (decide ((K.length:Int)<l.getD i 0)&&decide (cs.getD i 0/2 ^ (l.getD i 0-(K.length:Int)).toNat=(x:Int))) with hq|hq
   ·refine br_t hq ?_
    refine gGw ?_
    exact fin3 rfl rfl rfl rfl (fun w' hm=>⟨_,⟨rfl,.inr ⟨rfl,120,by decide,rfl⟩⟩,hm.sublist (List.nil_sublist _)⟩)
   ·refine br_f hq ?_
    refine gGw ?_
    exact⟨i+1,by omega,by omega,⟨congrArg (fun x=>some (Value.int .i64 x)) (by push_cast;rfl),rfl,rfl,rfl,rfl,trivial⟩,SubM.sl⟩
  ·refine gGw ?_
   exact fin3 rfl rfl rfl rfl (fun w' hm=>⟨_,⟨rfl,.inr ⟨rfl,131,by decide,rfl⟩⟩,hm.sublist (List.nil_sublist _)⟩)
end
section
def widA (j:Nat):Nat:=if j<8 then 0 else (j-4)/4
def firA:Nat→Int
 | 0=>3
 | j+1=>firA j+2 ^ widA j
def widD (j:Nat):Nat:=if j<4 then 0 else j/2-1
def firD:Nat→Int
 | 0=>1
 | j+1=>firD j+2 ^ widD j
theorem zso:∀ j,j<28→firA j=lFir.getD j 0∧((widA j:Nat):Int)=(lWid 28).getD j 0:=by decide
theorem zsm:∀ j,j<30→firD j=dFir.getD j 0∧((widD j:Nat):Int)=(dWid 30).getD j 0:=by decide
theorem zsp:∀ j,j<29→0≤firA j∧firA j≤1000:=by decide
theorem zsn:∀ j,j<31→0≤firD j∧firD j≤100000:=by decide
theorem zqL:∀ j,j<29→widA j≤6:=by decide
theorem zv3:∀ j,j<31→widD j≤14:=by decide
theorem zol {n:Nat} (h:n≤14):IntKind.i64.wrap (1*2 ^ n)=2 ^ n∧(0:Int)<2 ^ n∧(2:Int) ^ n≤16384:=by
 have h1:(2:Nat) ^ n≤2 ^ 14:=Nat.pow_le_pow_right (by omega) h
 have h2:0<(2:Nat) ^ n:=Nat.two_pow_pos n
 have h3:(2:Nat) ^ 14=16384:=by decide
 have e:(2:Int) ^ n=((2 ^ n:Nat):Int):=by push_cast;rfl
 rw [Int.one_mul,e]
 exact⟨IntWalk.i64_in _ (by omega),by omega,by omega⟩
attribute [local irreducible] Br Rn RnU Cl RdG CpG Ld Rd Lp Dr Oth Cut fin Fits Eng.Enters Md NA
theorem zhP:Eng.Enters Tryz.prog 268:=zab fun _ _=>by kernel_rfl
theorem zhT:Eng.Enters Tryz.prog 269:=zab fun _ _=>by kernel_rfl
theorem zj2:Eng.Enters Tryz.prog 262:=zab fun _ _=>by kernel_rfl
theorem zj3:Eng.Enters Tryz.prog 263:=zab fun _ _=>by kernel_rfl
theorem zew:Eng.Enters Tryz.prog 247:=zab fun _ _=>by kernel_rfl
theorem znW (j:Nat) (w:World) (hj:j≤28):Calls Tryz.prog 268 #[.int .i64 (257+(j:Int))] w fun e w'=>e=.returned (.int .i64 (widA j:Nat))∧Fr (fun _=>False) w w':=by
 refine enter (cx:=CX 8 [] w) [(0,.int .i64 (257+(j:Int)))] zaa Tryz.func268 rfl rfl rfl rfl (MemOk.nil w _) ?_
 refine gGw ?_
 refine br_d (fun h=>?_) (fun h=>?_)
 ·refine gGw ?_
  refine fin1 rfl rfl (fun w' hm=>⟨?_,hm.fr⟩)
  rw [widA,if_pos (by omega)];rfl
 ·have e1:(257+(j:Int)-261).tdiv 4=((widA j:Nat):Int):=by
   rw [widA,if_neg (by omega),Int.tdiv_eq_ediv_of_nonneg (by omega)];omega
  have e2:IntKind.i64.wrap ((257+(j:Int)-261).tdiv 4)=((widA j:Nat):Int):=by
   rw [e1]
   have:=zqL j (by omega)
   exact IntWalk.i64_in _ (by omega)
  refine gGw ?_
  exact fin1 rfl rfl (fun w' hm=>⟨by rw [e2],hm.fr⟩)
theorem znY (j:Nat) (w:World) (hj:j≤29):Calls Tryz.prog 269 #[.int .i64 (j:Int)] w fun e w'=>e=.returned (.int .i64 (widD j:Nat))∧Fr (fun _=>False) w w':=by
 refine enter (cx:=CX 8 [] w) [(0,.int .i64 (j:Int))] zaa Tryz.func269 rfl rfl rfl rfl (MemOk.nil w _) ?_
 refine gGw ?_
 refine br_d (fun h=>?_) (fun h=>?_)
 ·refine gGw ?_
  refine fin1 rfl rfl (fun w' hm=>⟨?_,hm.fr⟩)
  rw [widD,if_pos (by omega)];rfl
 ·have e1:(j:Int).tdiv 2=((j/2:Nat):Int):=by rw [Int.tdiv_eq_ediv_of_nonneg (by omega)];rfl
  have e2:IntKind.i64.wrap ((j:Int).tdiv 2)=((j/2:Nat):Int):=by rw [e1];exact IntWalk.i64_in _ (by omega)
  refine gGw ?_
  rw [e2]
  refine gGw ?_
  refine fin1 rfl rfl (fun w' hm=>⟨?_,hm.fr⟩)
  rw [widD,if_neg (by omega)]
  exact congrArg (fun x=>Ending.returned (.int .i64 x)) (by omega)
theorem zo8 (x:Int) (w:World) (hx:257≤x∧x≤285):Calls Tryz.prog 262 #[.int .i64 x] w fun e w'=>e=.returned (.tuple #[.int .i64 (lFir.getD (x-257).toNat 0),.int .i64 ((lWid 28).getD (x-257).toNat 0)])∧Fr (fun _=>False) w w':=by
 obtain ⟨j,rfl⟩:∃ j:Nat,x=257+(j:Int):=⟨(x-257).toNat,by omega⟩
 have ej:(257+(j:Int)-257).toNat=j:=by omega
 rw [ej]
 refine enter (cx:=CX 21 [] w) [(0,.int .i64 (257+(j:Int)))] zaa Tryz.func262 rfl rfl rfl rfl (MemOk.nil w _) ?_
 refine gGw ?_
 refine br_d (fun h=>?_) (fun h=>?_)
 ·have e28:j=28:=by omega
  subst e28
  refine gGw ?_
  exact fin2 rfl rfl rfl (fun w' hm=>⟨rfl,hm.fr⟩)
 ·have hj:j<28:=by omega
  refine gGw ?_
  refine lp zaa (γ:=Nat) (fun i=>i≤j) (fun i=>[(5,.int .i64 (257+(i:Int))),(4,.int .i64 (firA i)),(0,.int .i64 (257+(j:Int)))]) (fun _=>[]) (fun i=>j-i) 0 (Nat.zero_le _) ⟨rfl,rfl,rfl,trivial⟩ (SubM.refl _ _) ?_
  rintro i hi
  dsimp only
  have hfb:=zsp i (by omega)
  have hwb:=zqL i (by omega)
  have hpw:=zol (n:=widA i) (by omega)
  have hst:firA (i+1)=firA i+2 ^ widA i:=rfl
  refine gGw ?_
  refine br_d (fun hlt=>?_) (fun hge=>?_)
  ·refine gGw ?_
   refine⟨zhP,zae _ (fun w' _=>znW i w' (by omega)) ?_⟩
   refine gGw ?_
   refine And.intro ⟨by omega,by show ((widA i:Nat):Int)≤64;omega⟩ ?_
   refine gGw ?_
   rw [show IntKind.i64.wrap (1*2 ^ (((widA i:Nat):Int)).toNat)=2 ^ widA i from hpw.1,← hst]
   have hfb2:=zsp (i+1) (by omega)
   refine And.intro (zaB (by omega)) ?_
   refine gGw ?_
   exact⟨i+1,by omega,by omega,⟨congrArg (fun x=>some (Value.int .i64 x)) (by push_cast;omega),rfl,rfl,trivial⟩,SubM.refl _ _⟩
  ·have ei:i=j:=by omega
   subst ei
   refine gGw ?_
   refine⟨zhP,zae _ (fun w' _=>znW i w' (by omega)) ?_⟩
   refine gGw ?_
   refine fin2 rfl rfl rfl (fun w' hm=>⟨?_,hm.fr⟩)
   rw [← (zso i hj).1,← (zso i hj).2]
theorem zo9 (j:Nat) (w:World) (hj:j≤29):Calls Tryz.prog 263 #[.int .i64 (j:Int)] w fun e w'=>e=.returned (.tuple #[.int .i64 (dFir.getD j 0),.int .i64 ((dWid 30).getD j 0)])∧Fr (fun _=>False) w w':=by
 refine enter (cx:=CX 19 [] w) [(0,.int .i64 (j:Int))] zaa Tryz.func263 rfl rfl rfl rfl (MemOk.nil w _) ?_
 refine gGw ?_
 refine lp zaa (γ:=Nat) (fun i=>i≤j) (fun i=>[(5,.int .i64 (i:Int)),(4,.int .i64 (firD i)),(0,.int .i64 (j:Int))]) (fun _=>[]) (fun i=>j-i) 0 (Nat.zero_le _) ⟨rfl,rfl,rfl,trivial⟩ (SubM.refl _ _) ?_
 rintro i hi
 dsimp only
 have hfb:=zsn i (by omega)
 have hwb:=zv3 i (by omega)
 have hpw:=zol (n:=widD i) (by omega)
 have hst:firD (i+1)=firD i+2 ^ widD i:=rfl
 refine gGw ?_
 refine br_d (fun hlt=>?_) (fun hge=>?_)
 ·refine gGw ?_
  refine⟨zhT,zae _ (fun w' _=>znY i w' (by omega)) ?_⟩
  refine gGw ?_
  refine And.intro ⟨by omega,by show ((widD i:Nat):Int)≤64;omega⟩ ?_
  refine gGw ?_
  rw [show IntKind.i64.wrap (1*2 ^ (((widD i:Nat):Int)).toNat)=2 ^ widD i from hpw.1,← hst]
  have hfb2:=zsn (i+1) (by omega)
  refine And.intro (zaB (by omega)) ?_
  refine gGw ?_
  exact⟨i+1,by omega,by omega,⟨congrArg (fun x=>some (Value.int .i64 x)) (by push_cast;omega),rfl,rfl,trivial⟩,SubM.refl _ _⟩
 ·have ei:i=j:=by omega
  subst ei
  refine gGw ?_
  refine⟨zhT,zae _ (fun w' _=>znY i w' (by omega)) ?_⟩
  refine gGw ?_
  refine fin2 rfl rfl rfl (fun w' hm=>⟨?_,hm.fr⟩)
  rw [← (zsm i (by omega)).1,← (zsm i (by omega)).2]
def cntL (l:List Int):Nat→Nat
 | 0=>0
 | i+1=>cntL l i+(if l.getD i 0=1 then 1 else 0)
theorem zsH (l:List Int):∀ i,cntL l i≤i
 | 0=>Nat.le_refl _
 | i+1=>by have:=zsH l i;rw [cntL];split<;>omega
theorem zxj (l:List Int):cntL l l.length=l.countP (fun x=>decide (x=1)):=by
 have h:∀ i,i≤l.length→cntL l i=(l.take i).countP (fun x=>decide (x=1)):=by
  intro i
  induction i with
  | zero=>intro _;rfl
  | succ i ih =>
   intro hi
   rw [cntL,ih (by omega),List.take_add_one,List.getElem?_eq_getElem (by omega),Option.toList,List.countP_append,List.getD_eq_getElem?_getD,List.getElem?_eq_getElem (by omega),Option.getD_some]
   by_cases h1:l[i]=1
   ·simp [h1]
   ·simp [h1]
 rw [h _ (Nat.le_refl _),List.take_length]
theorem zhU (l:List Int) (b:Bool) (A:Option Addr) (c nl:Nat) (w:World) (hnl:l.length=nl) (hb:IntsIn .i64 w A l) (hl:LenL l) :
  Calls Tryz.prog 247 #[.slice A nl c,.bool b] w fun e w'=>e=.returned (.bool (zfx l b))∧Fr (fun _=>False) w w':=by
 subst hnl
 refine enter (cx:=CX 37 [] w) [(0,.slice A l.length c),(1,.bool b)] zaa Tryz.func247 rfl rfl rfl rfl (MemOk.nil w _) ?_
 have h1:=fun m=>IntsIn.ints (cx:=CX 37 [] w) (m:=m) hb (fun _ h=>h)
 have hlen:=hl.2
 refine gGw ?_
 refine⟨zi0,zae _ (fun w' hm=>zmF l A c l.length w' rfl ((h1 _).in_ hm) hl) ?_⟩
 refine gGw ?_
 refine br_d (fun hw=>?_) (fun hw=>?_)
 ·refine gGw ?_
  refine fin1 rfl rfl (fun w' hm=>⟨?_,hm.fr⟩)
  rw [zfx,decide_eq_true hw,Bool.true_or]
 have hR:zfx l b=(!(l.any fun x=>decide (1<x))&&(decide (cntL l l.length=1)||(decide (cntL l l.length=0)&&b))):=by
  rw [zfx,decide_eq_false hw,Bool.false_or,zxj]
 rw [hR]
 clear hR
 refine gGw ?_
 refine lp zaa (γ:=Nat) (fun i=>i≤l.length∧∀ x∈l.take i,x≤1) (fun i=>[(6,.int .i64 (i:Int)),(5,.int .i64 (cntL l i:Nat)),(4,.bool false),(0,.slice A l.length c),(1,.bool b)]) (fun _=>[]) (fun i=>l.length-i) 0 ⟨Nat.zero_le _,by intro x hx;rw [List.take_zero] at hx;cases hx⟩ ⟨rfl,rfl,rfl,rfl,rfl,trivial⟩ (SubM.refl _ _) ?_
 rintro i ⟨hi,hle⟩
 dsimp only
 have hcl:=zsH l i
 have hst:cntL l (i+1)=cntL l i+(if l.getD i 0=1 then 1 else 0):=rfl
 refine gGw ?_
 refine br_d (fun hlt=>?_) (fun hge=>?_)
 ·have hlt':i<l.length:=by omega
  have hpl:Pl A:=(h1 []).plain (by omega)
  have htk:l.take (i+1)=l.take i++[l.getD i 0]:=by
   rw [List.take_add_one,List.getElem?_eq_getElem hlt',List.getD_eq_getElem?_getD,List.getElem?_eq_getElem hlt',Option.getD_some];rfl
  refine gGw ?_
  refine And.intro ⟨by omega,by omega,hpl⟩ ?_
  conv=>whnf
  refine zai ((h1 _).ld zaa rfl rfl (j:=i) (by omega)) ?_
  refine gGw ?_
  refine br_d (fun h1'=>?_) (fun h0=>?_)
  ·rw [if_pos h1'] at hst
   refine gGw ?_
   refine And.intro ⟨by omega,by omega,hpl⟩ ?_
   conv=>whnf
   refine zai ((h1 _).ld zaa rfl rfl (j:=i) (by omega)) ?_
   refine gGw ?_
   refine br_f (decide_eq_false (by omega)) ?_
   refine gGw ?_
   refine⟨i+1,⟨by omega,?_⟩,by omega,⟨congrArg (fun x=>some (Value.int .i64 x)) (by push_cast;rfl),?_,rfl,rfl,rfl,trivial⟩,SubM.refl _ _⟩
   ·intro x hx
    rw [htk] at hx
    rcases List.mem_append.1 hx with hx|hx
    ·exact hle x hx
    ·rw [List.mem_singleton.1 hx];omega
   ·rw [hst];rfl
  ·rw [if_neg h0] at hst
   refine gGw ?_
   refine And.intro ⟨by omega,by omega,hpl⟩ ?_
   conv=>whnf
   refine zai ((h1 _).ld zaa rfl rfl (j:=i) (by omega)) ?_
   refine gGw ?_
   refine br_d (fun h2=>?_) (fun h2=>?_)
   ·have hany:(l.any fun x=>decide (1<x))=true:=List.any_eq_true.2 ⟨_,zbC hlt',decide_eq_true h2⟩
    rw [hany]
    refine gGw ?_
    exact fin1 rfl rfl (fun w' hm=>⟨rfl,hm.fr⟩)
   ·refine gGw ?_
    refine⟨i+1,⟨by omega,?_⟩,by omega,⟨congrArg (fun x=>some (Value.int .i64 x)) (by push_cast;rfl),?_,rfl,rfl,rfl,trivial⟩,SubM.refl _ _⟩
    ·intro x hx
     rw [htk] at hx
     rcases List.mem_append.1 hx with hx|hx
     ·exact hle x hx
     ·rw [List.mem_singleton.1 hx];omega
    ·rw [hst];rfl
 ·have ei:i=l.length:=by omega
  subst ei
  have hany:(l.any fun x=>decide (1<x))=false:=by
   rw [List.any_eq_false]
   intro x hx
   rw [List.take_length] at hle
   have:=hle x hx
   simp only [decide_eq_true_eq]
   omega
  rw [hany]
  generalize cntL l l.length=n
  refine gGw ?_
  refine br_d (fun hn1=>?_) (fun hn1=>?_)
  ·rw [decide_eq_true (show n=1 by omega)]
   refine gGw ?_
   exact fin1 rfl rfl (fun w' hm=>⟨rfl,hm.fr⟩)
  ·rw [decide_eq_false (show ¬ n=1 by omega)]
   refine gGw ?_
   refine br_d (fun hn0=>?_) (fun hn0=>?_)
   ·rw [decide_eq_true (show n=0 by omega)]
    refine gGw ?_
    exact fin1 rfl rfl (fun w' hm=>⟨by cases b<;>rfl,hm.fr⟩)
   ·rw [decide_eq_false (show ¬ n=0 by omega)]
    refine gGw ?_
    exact fin1 rfl rfl (fun w' hm=>⟨by cases b<;>rfl,hm.fr⟩)
end
section
structure Sd where
 S:Nat
 most:Int
 d:Bd
structure Sq where
 A:Option Addr
 c:Nat
 o:List UInt8
 a:Nat
abbrev SdM (s:Sd) (q:Sq):Mem:=.blk s.S (.cells [.pointer (some ⟨s.d.B,0,none⟩),.slice q.A q.o.length q.c,.int .i64 s.most].toArray 318)::BR8 q.A q.c q.o.length q.o::BdM s.d q.a
structure SqOk (s:Sd) (q:Sq):Prop where
 m8:s.d.L.length%8=0
 d:s.d.Ok
 a:q.a≤s.d.L.length
 o:(q.o.length:Int)≤s.most
 m:s.most≤1048576
def symV (a:Nat):Option (Nat × Nat)→Except Int (Int × Nat)
 | some (i,n)=>.ok ((i:Nat),a+n)
 | none=>.error 1
theorem zwD (l:List Int) (L:List UInt8) (a:Nat):zhq l L a=symV a (rTk l (ze1 l) ((L.drop a).take 15) ((L.drop a).take 15).length 1 0):=by
 unfold zhq symV;rfl
def SymR (l:List Int) (s:Sd) (q:Sq) (e:Ending) (m':Mem):Prop:=(∃ (x:Int) (a':Nat),zhq l s.d.L q.a=.ok (x,a')∧e=.returned (.tuple #[.int .i64 x,.int .i64 0])∧m'=SdM s { q with a:=a' }) ∨
 (zhq l s.d.L q.a=.error 1∧∃ z:Int,z≠0∧e=.returned (.tuple #[.int .i64 0,.int .i64 z])∧m'=SdM s q)
attribute [local irreducible] Br Rn RnU Cl RdG CpG Ld Rd Lp Dr Oth Cut fin Fits Eng.Enters Md NA
theorem zfM:Eng.Enters Tryz.prog 245:=zab fun _ _=>by kernel_rfl
set_option maxHeartbeats 1000000 in
theorem zke (s:Sd) (q:Sq) (l:List Int) (A:Option Addr) (c nl:Nat) (w:World) (hnl:l.length=nl) (hok:SqOk s q) (hl:LenL l) (hs:Stb (SdM s q) w (fun w=>IntsIn .i64 w A l)) (hm:MemOk w (Foot (SdM s q)) (SdM s q) w) :
  Ctr Tryz.prog 245 [.pointer (some ⟨s.S,0,none⟩),.slice A nl c] (SdM s q) (SymR l s q) w:=by
 subst hnl
 obtain ⟨hm8,⟨hL,hdl,hc⟩,ha,ho,hmo⟩:=hok
 have hA:=zge (hm.ok (BR8 s.d.A s.d.c s.d.L.length s.d.L) (by simp))
 have hlen:=hl.2
 refine enter (cx:=CXS 64 [] w (Foot (SdM s q))) [(0,.pointer (some ⟨s.S,0,none⟩)),(1,.slice A l.length c)] zaa Tryz.func245 rfl rfl rfl rfl hm ?_
 have h1:=fun m=>Stb.ints (cx:=CXS 64 [] w (Foot (SdM s q))) (m:=m) hs rfl
 obtain ⟨K,hK⟩:∃ K,K=(s.d.L.drop q.a).take 15:=⟨_,rfl⟩
 have hKl:K.length=min 15 (s.d.L.length-q.a):=by rw [hK,List.length_take,List.length_drop]
 have hKb:BitsL K:=by rw [hK];exact (hL.drop _).take _
 obtain ⟨R,hR⟩:∃ R,R=rTk l (ze1 l) K K.length 1 0:=⟨_,rfl⟩
 have hS:zhq l s.d.L q.a=symV q.a R:=by rw [hR,hK];exact zwD l s.d.L q.a
 have hbd:∀ i n,R=some (i,n)→n≤K.length:=fun i n h=>by
  have:=zrC K.length 1 0 i n (hR.symm.trans h);omega
 obtain ⟨e,he,he1⟩:∃ e:Nat,(if (s.d.L.length:Int)<(q.a:Int)+15 then (s.d.L.length:Int) else (q.a:Int)+15)=(e:Int)∧(q.a≤e∧e≤s.d.L.length∧e-q.a=K.length):=by
  split
  ·exact⟨s.d.L.length,by omega,by omega⟩
  ·exact⟨q.a+15,by omega,by omega⟩
 have hsub:∀ w',MemOk w (Foot (SdM s q)) (SdM s q) w'→BytsIn w' (cutA s.d.A s.d.c q.a 1) K:=fun w' hm'=>by
  have h:=BytsIn.sub (zay (hm'.ok (BR8 s.d.A s.d.c s.d.L.length s.d.L) (by simp))) s.d.c q.a (e-q.a) (by omega) hc
  rw [he1.2.2,hKl] at h
  have e2:(s.d.L.drop q.a).take (min 15 (s.d.L.length-q.a))=K:=by
   rw [hK,List.take_eq_take_iff,List.length_drop];omega
  rwa [e2] at h
 unfold SymR
 rw [hS]
 clear hS hK
 conv=>whnf
 refine zcb (γ:=Int × Nat × Int) (Tr.hs [0,1,2,3,4,5,6,7,8,9,10,11,12,13,14,15,16,17,18,19,20,21,22,23,24,25,26,27,28,29] (.sq [30,31,32,33] (.hs [34,35,36,37,38,39,40] .done))) (SdM s q) zaa mixed (by kernel_rfl) rfl (fun g=>(∃ i:Nat,R=some (i,g.2.1)∧g.1=(i:Int)∧g.2.2=0)∨(R=none∧g.1=0∧g.2.1=0∧g.2.2≠0))
  (fun g=>[(8,.int .i64 g.2.2),(7,.int .i64 (g.2.1:Nat)),(6,.int .i64 g.1),(0,.pointer (some ⟨s.S,0,none⟩))]) (fun _=>SdM s q) SubM.sl ?_ ?_
 ·refine gGw ?_
  refine gGs ?_
  refine gGw ?_
  refine gGs ?_
  refine gGw ?_
  rw [he]
  refine And.intro ⟨by omega,by omega,by omega,hA⟩ ?_
  refine gGw ?_
  refine gGs ?_
  refine gGw ?_
  refine⟨zo6,zac (m1:=[]) .nil (fun w' hm'=>zv4 l K _ _ _ _ _ _ w' rfl (by omega) ((h1 _).in_ hm') (hsub w' hm') hl (by omega) hKb) ?_⟩
  have e9:((e:Nat):Int).toNat-((q.a:Nat):Int).toNat=K.length:=he1.2.2
  rw [e9,← hR]
  rintro e' m' ⟨rfl,⟨i,n,hi,rfl⟩|⟨hn,z,hz,rfl⟩⟩
  ·conv=>whnf
   refine gGs ?_
   refine gGw ?_
   exact⟨((i:Nat),n,0),.inl ⟨i,hi,rfl,rfl⟩,⟨rfl,rfl,rfl,rfl,trivial⟩,SubM.sl⟩
  ·conv=>whnf
   refine gGs ?_
   refine gGw ?_
   exact⟨(0,0,z),.inr ⟨hn,rfl,rfl,hz⟩,⟨rfl,rfl,rfl,rfl,trivial⟩,SubM.sl⟩
 ·intro g hg
  have hn:g.2.1≤K.length:=by
   rcases hg with ⟨i,h,_⟩|⟨_,_,h,_⟩
   ·exact hbd i _ h
   ·omega
  conv=>whnf
  refine zcD 15 zaa mixed (by kernel_rfl) rfl rfl ?_
  refine gGw ?_
  refine fin2 rfl rfl rfl (fun w' hm=>⟨SdM s { q with a:=q.a+g.2.1 },?_,hm.sl⟩)
  rcases hg with ⟨i,h,h1,h2⟩|⟨h,h1,h2,hz⟩
  ·rw [h,h1,h2]
   exact .inl ⟨_,_,rfl,rfl,rfl⟩
  ·rw [h,h1,h2]
   exact .inr ⟨rfl,_,hz,rfl,rfl⟩
end
section
def KR (s:Sd) (q:Sq) (V:Except Int (Nat × List UInt8)) (e:Ending) (m':Mem):Prop:=(∃ q':Sq,V=.ok (q'.a,q'.o)∧SqOk s q'∧q.a≤q'.a∧e=.returned (.int .i64 0)∧m'=SdM s q') ∨
 ((∃ y,V=.error y)∧∃ (z:Int) (q':Sq),z≠0∧SqOk s q'∧e=.returned (.int .i64 z)∧m'=SdM s q')
theorem SqOk.at_ {s:Sd} {q:Sq} (h:SqOk s q) {a:Nat} (ha:a≤s.d.L.length):SqOk s { q with a:=a }:=⟨h.m8,h.d,ha,h.o,h.m⟩
theorem KR.no {s:Sd} {q q':Sq} {V:Except Int (Nat × List UInt8)} {y z:Int} (hV:V=.error y) (hz:z≠0) (hq:SqOk s q'):KR s q V (.returned (.int .i64 z)) (SdM s q'):=.inr ⟨⟨y,hV⟩,z,q',hz,hq,rfl,rfl⟩
theorem KR.ok {s:Sd} {q q':Sq} {V:Except Int (Nat × List UInt8)} (hV:V=.ok (q'.a,q'.o)) (hq:SqOk s q') (ha:q.a≤q'.a):KR s q V (.returned (.int .i64 0)) (SdM s q'):=.inl ⟨q',hV,hq,ha,rfl,rfl⟩
theorem zjU:∀ (f:Nat) (L:List UInt8),L.length≤8*f→(zdD f L).length=(L.length+7)/8
 | 0,L,h=>by
  have:L=[]:=List.eq_nil_of_length_eq_zero (by omega)
  subst this;rfl
 | f+1,L,h=>by
  rw [zdD]
  by_cases hL:L=[]
  ·rw [if_pos hL,hL];rfl
  ·have h1:L.length≠0:=fun h=>hL (List.eq_nil_of_length_eq_zero h)
   rw [if_neg hL,List.length_cons,zjU f _ (by rw [List.length_drop];omega),List.length_drop]
   omega
theorem zuA (d:Bd) (a n:Nat) (h:a+8*n≤d.L.length):(rawX d a n).length=n:=by
 have h1:((d.L.drop a).take (8*n)).length=8*n:=by rw [List.length_take,List.length_drop];omega
 show (zdD (8*n) _).length=n
 rw [zjU _ _ (by omega),h1];omega
theorem zog {cx:Cx} {m m':Mem} {ty:Nat} {A B:Option Addr} {cap c n k:Nat} {acc ys:List UInt8} {K:Value→Mem→Prop} (ht:TabOk cx.P cx.tab) (hT:cx.tab=tab) (hu:Out m (BR8 A cap n acc) m') (hh:Has m (BR8 B c k ys)) (hk:ys.length=k) (hb:n+k≤30000000000)
  (hK:∀ A' cap',K (.slice A' (n+k) cap') (BR8 A' cap' (n+k) (acc++ys)::m')):Rn cx m (Builtin.append_ #[22,22] ty #[.slice A n cap,.slice B k c]) K:=by
 have h1:=zgO (cx:=cx) (m:=m) (m':=m') (t:=22) (e:=5) (ty:=ty) (A:=A) (cap:=cap) (n:=n) (xs:=(zag acc).map (.int .u8)) (p:=B) (c:=c) (k:=.u8) (ys:=zag ys) (K:=K) ht (by rw [hT];rfl) rfl (by rw [hT];rfl) rfl rfl rfl hu
  (fun w hm=>rowI (hm.ok _ hh.mem)) (by rw [zaf];omega) (fun A' cap'=>by
   have:=hK A' cap'
   rw [zaf,hk,← zde]
   exact this)
 rw [zaf,hk] at h1
 exact h1
attribute [local irreducible] Br Rn RnU Cl RdG CpG Ld Rd Lp Dr Oth Cut fin Fits Eng.Enters Md NA
theorem zi3:Eng.Enters Tryz.prog 226:=zab fun _ _=>by kernel_rfl
set_option maxHeartbeats 1000000 in
theorem zmP (s:Sd) (q:Sq) (w:World) (hok:SqOk s q) (hm:MemOk w (Foot (SdM s q)) (SdM s q) w) :
  Ctr Tryz.prog 226 [.pointer (some ⟨s.S,0,none⟩)] (SdM s q) (KR s q (zkb s.d.L s.most q.a q.o)) w:=by
 have hok0:=hok
 obtain ⟨hm8,hd,ha,ho,hmo⟩:=hok
 have hd0:=hd
 obtain ⟨hL,hdl,hc⟩:=hd
 refine enter (cx:=CXS 73 [] w (Foot (SdM s q))) [(0,.pointer (some ⟨s.S,0,none⟩))] zaa Tryz.func226 rfl rfl rfl rfl hm ?_
 have hal:zb5 q.a≤s.d.L.length∧q.a≤zb5 q.a∧zb5 q.a%8=0:=by unfold zb5;omega
 generalize hV:zkb s.d.L s.most q.a q.o=V
 unfold zkb at hV
 refine gGw ?_
 refine⟨zj6,zac (m1:=BdM s.d q.a) (by repeat constructor) (fun w' hm'=>zpc s.d q.a w' hd0 ha hm'.part) ?_⟩
 rintro e m' ⟨rfl,rfl⟩
 generalize zb5 q.a=b at hal hV ⊢
 refine gGw ?_
 refine⟨zaM,zac (m1:=BdM s.d b) (by repeat constructor) (fun w' hm'=>zbt s.d b 16 w' hd0 (by omega) (by omega) hm'.part) ?_⟩
 rintro e m' (⟨hk,rfl,rfl⟩|⟨hk,rfl,rfl⟩)
 rotate_left
 ·rw [zbP hk] at hV
  refine gGw ?_
  refine br_n (br_f rfl ?_)
  refine gGw ?_
  exact fin1 rfl rfl (fun w' hm=>⟨SdM s { q with a:=b },.no hV.symm (by decide) (hok0.at_ (by omega)),hm.sl⟩)
 rw [zbO hk] at hV
 simp only at hV
 have hn:=zeQ hL b 16
 generalize numU ((s.d.L.drop b).take 16)=n at hn hV ⊢
 refine gGw ?_
 refine br_n (br_t rfl ?_)
 refine gGw ?_
 refine⟨zaM,zac (m1:=BdM s.d (b+16)) (by repeat constructor) (fun w' hm'=>zbt s.d (b+16) 16 w' hd0 (by omega) (by omega) hm'.part) ?_⟩
 rintro e m' (⟨hk2,rfl,rfl⟩|⟨hk2,rfl,rfl⟩)
 rotate_left
 ·rw [zbP hk2] at hV
  refine gGw ?_
  refine br_n (br_f rfl ?_)
  refine gGw ?_
  exact fin1 rfl rfl (fun w' hm=>⟨SdM s { q with a:=b+16 },.no hV.symm (by decide) (hok0.at_ (by omega)),hm.sl⟩)
 rw [zbO hk2] at hV
 simp only at hV
 have hn2:=zeQ hL (b+16) 16
 generalize numU ((s.d.L.drop (b+16)).take 16)=m at hn2 hV ⊢
 refine gGw ?_
 refine br_n (br_t rfl ?_)
 refine gGw ?_
 refine br_n (br_d (fun heq=>?_) (fun hne=>?_))
 rotate_left
 ·rw [if_neg (by omega)] at hV
  refine gGw ?_
  exact fin1 rfl rfl (fun w' hm=>⟨SdM s { q with a:=b+16+16 },.no hV.symm (by decide) (hok0.at_ (by omega)),hm.sl⟩)
 rw [if_pos (by omega)] at hV
 conv=>whnf
 refine zao zaa mixed (by kernel_rfl) rfl ?_;conv=>whnf
 refine gG0 ?_
 refine br_d (fun hlg=>?_) (fun hfit=>?_)
 ·rw [if_pos hlg] at hV
  refine gGw ?_
  exact fin1 rfl rfl (fun w' hm=>⟨SdM s { q with a:=b+16+16 },.no hV.symm (by decide) (hok0.at_ (by omega)),hm.sl⟩)
 rw [if_neg hfit] at hV
 refine gGw ?_
 refine⟨zmG,zac (m1:=BdM s.d (b+16+16)) (by repeat constructor) (fun w' hm'=>zs7 s.d (b+16+16) n w' hd0 (by omega) (by omega) (by omega) hm'.part) ?_⟩
 rintro e m' (⟨hk3,B,c,rfl,rfl⟩|⟨hk3,rfl,rfl⟩)
 rotate_left
 ·rw [if_neg hk3] at hV
  conv=>whnf
  (iterate 3 ((first|refine stp (by (repeat constructor);first|done|fail) ?_|refine stn (by (repeat constructor);first|done|fail) ?_|refine sto (by (repeat constructor);first|done|fail) (by first|omega|(simp only;omega)|decide) ?_|(refine ziJ (And.intro (fun hg=>?_) ?_);focus (simp only [Bool.and_eq_true,Bool.or_eq_true,Bool.not_eq_true',decide_eq_true_eq,decide_eq_false_iff_not] at hg;first|omega|exact zaB (by omega)|exact zbr (by omega)|assumption))|refine .mk fun Ap capp=>?_|refine⟨?_,trivial⟩|intro _);conv=>whnf))
  refine zfQ (SubM.row0 (SubM.refl _ _) 5 1) ?_
  refine zog (acc:=q.o) (ys:=[]) zaa rfl (by repeat constructor) (B:=none) (c:=0) (by repeat constructor) rfl (by omega) (fun B3 d3=>?_)
  rw [List.append_nil]
  refine gGw ?_
  exact fin1 rfl rfl (fun w' hm=>⟨SdM s ⟨B3,d3,q.o,b+16+16⟩,.no (q':=⟨B3,d3,q.o,b+16+16⟩) hV.symm (by decide) ⟨hm8,hd0,by show b+16+16≤_;omega,ho,hmo⟩,hm.sl⟩)
 rw [if_pos hk3] at hV
 have hrl:=zuA s.d (b+16+16) n (by omega)
 change Except.ok (_,q.o++rawX s.d (b+16+16) n)=V at hV
 generalize rawX s.d (b+16+16) n=Z at hrl hV ⊢
 conv=>whnf
 (iterate 3 ((first|refine stp (by (repeat constructor);first|done|fail) ?_|refine stn (by (repeat constructor);first|done|fail) ?_|refine sto (by (repeat constructor);first|done|fail) (by first|omega|(simp only;omega)|decide) ?_|(refine ziJ (And.intro (fun hg=>?_) ?_);focus (simp only [Bool.and_eq_true,Bool.or_eq_true,Bool.not_eq_true',decide_eq_true_eq,decide_eq_false_iff_not] at hg;first|omega|exact zaB (by omega)|exact zbr (by omega)|assumption))|refine .mk fun Ap capp=>?_|refine⟨?_,trivial⟩|intro _);conv=>whnf))
 refine zog (acc:=q.o) (ys:=Z) zaa rfl (by repeat constructor) (by repeat constructor) rfl (by omega) (fun B3 d3=>?_)
 have hz:q.o.length+Z.length=(q.o++Z).length:=(List.length_append).symm
 rw [hz]
 refine gGw ?_
 exact fin1 rfl rfl (fun w' hm=>⟨SdM s ⟨B3,d3,q.o++Z,b+16+16+8*n⟩,.ok (q':=⟨B3,d3,q.o++Z,b+16+16+8*n⟩) hV.symm ⟨hm8,hd0,by show b+16+16+8*n≤_;omega,by show ((q.o++Z).length:Int)≤_;omega,hmo⟩ (by show q.a≤b+16+16+8*n;omega),hm.sl⟩)
end
section
theorem zrh (s:Sd) (A:Option Addr) (c:Nat) (o:List UInt8) (v:UInt8) (a:Nat):SdM s ⟨A,c,o++[v],a⟩=.blk s.S (.cells [.pointer (some ⟨s.d.B,0,none⟩),.slice A (o.length+1) c,.int .i64 s.most].toArray 318)::.row A c (o.length+1) 5 1 ((zag o).map (Value.int .u8)++[.int .u8 (v.toNat:Int)])::BdM s.d a:=by
 unfold SdM BR8
 rw [zwA (v:=v) rfl]
 simp only [List.length_append,List.length_singleton]
theorem ziu {L:List UInt8} (h:BitsL L) (a:Nat) {n k:Nat} (hk:n≤k):numU ((L.drop a).take n)<2 ^ k:=Nat.lt_of_lt_of_le (zeQ h a n) (Nat.pow_le_pow_right (by omega) hk)
attribute [local irreducible] Br Rn RnU Cl RdG CpG Ld Rd Lp Dr Oth Cut fin Fits Eng.Enters Md NA
theorem zkh:Eng.Enters Tryz.prog 246:=zab fun _ _=>by kernel_rfl
set_option maxHeartbeats 1000000 in
theorem zpu (s:Sd) (q:Sq) (x:Int) (D:List Int) (A:Option Addr) (c nl:Nat) (w:World) (hnl:D.length=nl) (hok:SqOk s q) (hD:LenL D) (hx:257≤x∧x≤285) (hs:Stb (SdM s q) w (fun w=>IntsIn .i64 w A D)) (hm:MemOk w (Foot (SdM s q)) (SdM s q) w) :
  Ctr Tryz.prog 246 [.pointer (some ⟨s.S,0,none⟩),.int .i64 x,.slice A nl c] (SdM s q) (KR s q (zjF s.d.L D s.most x q.a q.o)) w:=by
 have hok0:=hok
 obtain ⟨hm8,hd,ha,ho,hmo⟩:=hok
 have hd0:=hd
 obtain ⟨hL,hdl,hc⟩:=hd
 refine enter (cx:=CXS 120 [] w (Foot (SdM s q))) [(0,.pointer (some ⟨s.S,0,none⟩)),(1,.int .i64 x),(2,.slice A nl c)] zaa Tryz.func246 rfl rfl rfl rfl hm ?_
 generalize hV:zjF s.d.L D s.most x q.a q.o=V
 unfold zjF at hV
 refine gGw ?_
 refine⟨zj2,zae _ (fun w' hm'=>zo8 x w' hx) ?_⟩
 have hk:=zxW (x-257).toNat (by omega)
 have hk2:=zxV (x-257).toNat (by omega)
 generalize lFir.getD (x-257).toNat 0=fi at hk hV ⊢
 obtain ⟨wd,hwd⟩:=zfy hk2.1
 rw [hwd] at hV hk2
 rw [hwd]
 rw [Int.toNat_natCast] at hV
 have hb1:=ziu hL q.a (n:=wd) (k:=5) (by omega)
 refine gGw ?_
 refine⟨zaM,zac (m1:=BdM s.d q.a) (by repeat constructor) (fun w' hm'=>zbt s.d q.a wd w' hd0 ha (by omega) hm'.part) ?_⟩
 rintro e m' (⟨h1,rfl,rfl⟩|⟨h1,rfl,rfl⟩)
 rotate_left
 ·rw [zbP h1] at hV
  refine gGw ?_
  refine br_n (br_f rfl ?_)
  refine gGw ?_
  exact fin1 rfl rfl (fun w' hm=>⟨SdM s q,.no hV.symm (by decide) hok0,hm.sl⟩)
 rw [zbO h1] at hV
 simp only at hV
 generalize numU ((s.d.L.drop q.a).take wd)=more at hV hb1 ⊢
 refine gGw ?_
 refine br_n (br_t rfl ?_)
 refine gGw ?_
 by_cases hsp:x=284∧more=31
 ·rw [if_pos hsp] at hV
  refine br_t (by rw [decide_eq_true hsp.1,decide_eq_true (show (more:Int)=31 by omega)];rfl) ?_
  refine gGw ?_
  exact fin1 rfl rfl (fun w' hm=>⟨SdM s { q with a:=q.a+wd },.no hV.symm (by decide) (hok0.at_ h1),hm.sl⟩)
 rw [if_neg hsp] at hV
 refine br_f (by rw [← Bool.decide_and];exact decide_eq_false (fun h=>hsp ⟨h.1,by omega⟩)) ?_
 refine gGw ?_
 refine⟨zfM,zac (m1:=SdM s { q with a:=q.a+wd }) (by repeat constructor) (fun w' hm'=>zke s { q with a:=q.a+wd } D A c nl w' hnl (hok0.at_ h1) hD (stb (r:=[]) hm' (fun w'' hm''=>hs w'' hm''.fr)) hm'.part) ?_⟩
 rintro e m' (⟨y,a2,hy,rfl,rfl⟩|⟨hy,z,hz,rfl,rfl⟩)
 rotate_left
 ·rw [show zhq D s.d.L (q.a+wd)=.error 1 from hy] at hV
  refine gGw ?_
  refine br_n (br_f (decide_eq_false hz) ?_)
  refine gGw ?_
  exact fin1 rfl rfl (fun w' hm=>⟨SdM s { q with a:=q.a+wd },.no hV.symm hz (hok0.at_ h1),hm.sl⟩)
 change zhq D s.d.L (q.a+wd)=_ at hy
 have hsy:=zkp h1 hy
 rw [hy] at hV
 simp only at hV
 refine gGw ?_
 refine br_n (br_t rfl ?_)
 refine gGw ?_
 refine br_d (fun hy29=>?_) (fun hy29=>?_)
 ·rw [if_pos hy29] at hV
  refine gGw ?_
  exact fin1 rfl rfl (fun w' hm=>⟨SdM s { q with a:=a2 },.no hV.symm (by decide) (hok0.at_ hsy.2.1),hm.sl⟩)
 rw [if_neg hy29] at hV
 obtain ⟨j,rfl⟩:=zfy hsy.2.2.1
 rw [Int.toNat_natCast] at hV
 refine gGw ?_
 refine⟨zj3,zae _ (fun w' hm'=>zo9 j w' (by omega)) ?_⟩
 have hj:=zyd j (by omega)
 have hj2:=zyc j (by omega)
 generalize dFir.getD j 0=di at hj hV ⊢
 obtain ⟨we,hwe⟩:=zfy hj2.1
 rw [hwe] at hV hj2
 rw [hwe]
 rw [Int.toNat_natCast] at hV
 have hb2:=ziu hL a2 (n:=we) (k:=13) (by omega)
 refine gGw ?_
 refine⟨zaM,zac (m1:=BdM s.d a2) (by repeat constructor) (fun w' hm'=>zbt s.d a2 we w' hd0 hsy.2.1 (by omega) hm'.part) ?_⟩
 rintro e m' (⟨h3,rfl,rfl⟩|⟨h3,rfl,rfl⟩)
 rotate_left
 ·rw [zbP h3] at hV
  refine gGw ?_
  refine br_n (br_f rfl ?_)
  refine gGw ?_
  exact fin1 rfl rfl (fun w' hm=>⟨SdM s { q with a:=a2 },.no hV.symm (by decide) (hok0.at_ hsy.2.1),hm.sl⟩)
 rw [zbO h3] at hV
 simp only at hV
 generalize numU ((s.d.L.drop a2).take we)=m2 at hV hb2 ⊢
 refine gGw ?_
 refine br_n (br_t rfl ?_)
 refine gGw ?_
 refine br_d (fun hfar=>?_) (fun hfar=>?_)
 ·rw [if_pos hfar] at hV
  refine gGw ?_
  exact fin1 rfl rfl (fun w' hm=>⟨SdM s { q with a:=a2+we },.no hV.symm (by decide) (hok0.at_ h3),hm.sl⟩)
 rw [if_neg hfar] at hV
 replace hfar:¬ (q.o.length:Int)<di+(m2:Int):=fun h=>hfar h
 conv=>whnf
 refine zao zaa mixed (by kernel_rfl) rfl ?_;conv=>whnf
 refine gG0 ?_
 refine br_d (fun hlg=>?_) (fun hlg=>?_)
 ·rw [if_pos hlg] at hV
  refine gGw ?_
  exact fin1 rfl rfl (fun w' hm=>⟨SdM s { q with a:=a2+we },.no hV.symm (by decide) (hok0.at_ h3),hm.sl⟩)
 rw [if_neg hlg] at hV
 replace hlg:¬ s.most-(q.o.length:Int)<fi+(more:Int):=fun h=>hlg h
 refine gGw ?_
 obtain ⟨fa,hfa⟩:=zfy (x:=di+(m2:Int)) (by omega)
 obtain ⟨n,hn⟩:=zfy (x:=fi+(more:Int)) (by omega)
 rw [hfa,hn] at hV
 rw [hfa,hn]
 rw [Int.toNat_natCast,Int.toNat_natCast] at hV
 have hfl:1≤fa∧fa≤q.o.length:=by omega
 have hnl2:(q.o.length:Int)+n≤s.most:=by omega
 have hat:q.a≤a2+we:=by omega
 clear hsp hfar hlg hfa hn hwd hwe
 generalize a2+we=a3 at h3 hat hV ⊢
 refine lp zaa (γ:=Nat × Option Addr × Nat) (fun g=>g.1≤n) (fun g=>[(14,.int .i64 (g.1:Int)),(11,.int .i64 (n:Int)),(13,.int .i64 (fa:Int)),(0,.pointer (some ⟨s.S,0,none⟩))]) (fun g=>SdM s ⟨g.2.1,g.2.2,cpyX fa q.o g.1,a3⟩) (fun g=>n-g.1) (0,q.A,q.c) (by simp) ⟨rfl,rfl,rfl,rfl,trivial⟩ SubM.sl ?_
 rintro ⟨i,gA,gc⟩ hi
 simp only at hi
 dsimp only
 refine gGw ?_
 refine br_d (fun hlt=>?_) (fun hge=>?_)
 ·have hcl:=zk6 fa q.o i
  have eS:cpyX fa q.o (i+1)=cpyX fa q.o i++[(cpyX fa q.o i).getD ((cpyX fa q.o i).length-fa) 0]:=rfl
  have ej:((cpyX fa q.o i).length:Int)-(fa:Int)=(((cpyX fa q.o i).length-fa:Nat):Int):=by omega
  generalize cpyX fa q.o i=p at hcl eS ej ⊢
  have hjs:=zd3 p (p.length-fa) (by omega)
  conv=>whnf
  refine dr_w (fun ⟨w9,hw9⟩=>?_)
  have hpl:Pl gA:=zcV (hw9.ok (BR8 gA gc p.length p) (by simp)) (by omega)
  refine ziP (γ:=Option Addr × Nat) 22 (Tr.hs [0,1,2,3,4,5,6,7,8,9,10,11,12,13,14,15,16] (.sq [17,18,19,20,21,22] .done)) [.blk s.S (.cells [.pointer (some ⟨s.d.B,0,none⟩),.slice gA p.length gc,.int .i64 s.most].toArray 318)] zaa mixed (by kernel_rfl) rfl
   (fun _=>True) (fun _=>[(14,.int .i64 (i:Int)),(11,.int .i64 (n:Int)),(13,.int .i64 (fa:Int)),(0,.pointer (some ⟨s.S,0,none⟩))]) (fun g=>SdM s ⟨g.1,g.2,cpyX fa q.o (i+1),a3⟩) SubM.sl ?_ ?_
  ·refine gGw ?_
   rw [ej]
   refine And.intro ⟨by omega,by omega,hpl⟩ ?_
   conv=>whnf
   refine⟨?_,trivial⟩
   refine zai (ldR zaa (by repeat constructor) rfl rfl hjs) ?_
   refine gGt ?_;(repeat ((first|refine .mk fun Ap capp=>?_|intro _);(conv=>whnf);refine gGS ?_))
   refine⟨(Ap,capp),trivial,⟨rfl,rfl,rfl,rfl,trivial⟩,?_⟩
   rw [eS,zrh]
   exact SubM.sl
  ·rintro ⟨hA,hc⟩ -
   refine gGw ?_
   exact⟨(i+1,hA,hc),by show i+1≤n;omega,by show n-(i+1)<n-i;omega,⟨congrArg (fun x=>some (Value.int .i64 x)) (by push_cast;rfl),rfl,rfl,rfl,trivial⟩,SubM.refl _ _⟩
 ·obtain rfl:i=n:=by omega
  have hcl:=zk6 fa q.o i
  refine gGw ?_
  exact fin1 rfl rfl (fun w' hm=>⟨SdM s ⟨gA,gc,cpyX fa q.o i,a3⟩,.ok (q':=⟨gA,gc,cpyX fa q.o i,a3⟩) hV.symm ⟨hm8,hd0,h3,by show ((cpyX fa q.o i).length:Int)≤_;omega,hmo⟩ hat,hm.sl⟩)
end
section
attribute [local irreducible] Br Rn RnU Cl RdG CpG Ld Rd Lp Dr Oth Cut fin Fits Eng.Enters Md NA
theorem zfs:Eng.Enters Tryz.prog 228:=zab fun _ _=>by kernel_rfl
set_option maxHeartbeats 1000000 in
theorem zh0 (s:Sd) (q:Sq) (C D:List Int) (A B:Option Addr) (c d nc nd:Nat) (w:World) (hnc:C.length=nc) (hnd:D.length=nd) (hok:SqOk s q) (hC:LenL C) (hD:LenL D) (hsC:Stb (SdM s q) w (fun w=>IntsIn .i64 w A C)) (hsD:Stb (SdM s q) w (fun w=>IntsIn .i64 w B D)) (hm:MemOk w (Foot (SdM s q)) (SdM s q) w) :
  Ctr Tryz.prog 228 [.pointer (some ⟨s.S,0,none⟩),.slice A nc c,.slice B nd d] (SdM s q) (KR s q (zdI s.d.L C D s.most (zfW s.d.L) q.a q.o)) w:=by
 refine enter (cx:=CXS 52 [] w (Foot (SdM s q))) [(0,.pointer (some ⟨s.S,0,none⟩)),(1,.slice A nc c),(2,.slice B nd d)] zaa Tryz.func228 rfl rfl rfl rfl hm ?_
 generalize hV:zdI s.d.L C D s.most (zfW s.d.L) q.a q.o=V
 refine gGw ?_
 refine lp zaa (γ:=Sq × Nat) (fun g=>SqOk s g.1∧q.a≤g.1.a∧s.d.L.length+1≤g.2+g.1.a∧zdI s.d.L C D s.most g.2 g.1.a g.1.o=V) (fun _=>[(0,.pointer (some ⟨s.S,0,none⟩)),(1,.slice A nc c),(2,.slice B nd d)]) (fun g=>SdM s g.1) (fun g=>g.2) (q,zfW s.d.L) ⟨hok,Nat.le_refl _,by show s.d.L.length+1≤(s.d.L.length+1)+q.a;omega,hV⟩ ⟨rfl,rfl,rfl,trivial⟩ SubM.sl ?_
 clear hV
 rintro ⟨p,f⟩ ⟨hp,hqp,hf,hV⟩
 simp only at hp hqp hf hV
 dsimp only
 have hp0:=hp
 obtain ⟨hm8,hd,ha,ho,hmo⟩:=hp
 obtain ⟨f,rfl⟩:∃ f',f=f'+1:=⟨f-1,by omega⟩
 rw [zdI] at hV
 refine gGw ?_
 refine⟨zfM,zac (m1:=SdM s p) (by repeat constructor) (fun w' hm'=>zke s p C A c nc w' hnc hp0 hC (stb (r:=[]) hm' (fun w'' hm''=>hsC w'' hm''.fr)) hm'.part) ?_⟩
 rintro e m' (⟨x,a1,hx,rfl,rfl⟩|⟨hx,z,hz,rfl,rfl⟩)
 rotate_left
 ·rw [hx] at hV
  refine gGw ?_
  refine br_n (br_f (decide_eq_false hz) ?_)
  refine gGw ?_
  exact fin1 rfl rfl (fun w' hm=>⟨SdM s p,.no hV.symm hz hp0,hm.sl⟩)
 have hsy:=zkp ha hx
 rw [hx] at hV
 simp only at hV
 obtain ⟨p1,hq1⟩:∃ p1:Sq,p1={ p with a:=a1 }:=⟨_,rfl⟩
 have hp1:SqOk s p1:=hq1 ▸ hp0.at_ hsy.2.1
 have ea1:p1.a=a1:=by rw [hq1]
 have eo1:p1.o=p.o:=by rw [hq1]
 rw [← hq1]
 clear hq1
 rw [← eo1] at hV ho
 subst ea1
 refine gGw ?_
 refine br_n (br_t rfl ?_)
 refine gGw ?_
 refine br_d (fun h256=>?_) (fun h256=>?_)
 ·rw [if_pos h256] at hV
  refine gGw ?_
  exact fin1 rfl rfl (fun w' hm=>⟨SdM s p1,.ok (q':=p1) hV.symm hp1 (by omega),hm.sl⟩)
 rw [if_neg h256] at hV
 refine gGw ?_
 refine br_d (fun hlit=>?_) (fun hlit=>?_)
 ·rw [if_pos hlit] at hV
  conv=>whnf
  refine zao zaa mixed (by kernel_rfl) rfl ?_;conv=>whnf
  refine gG0 ?_
  refine br_d (fun hfull=>?_) (fun hfull=>?_)
  ·rw [if_pos hfull] at hV
   refine gGw ?_
   exact fin1 rfl rfl (fun w' hm=>⟨SdM s p1,.no hV.symm (by decide) hp1,hm.sl⟩)
  rw [if_neg hfull] at hV
  replace hfull:¬ s.most≤(p1.o.length:Int):=fun h=>hfull h
  obtain ⟨j,rfl⟩:=zfy hsy.2.2.1
  rw [Int.toNat_natCast] at hV
  refine gGw ?_;(repeat ((first|refine .mk fun Ap capp=>?_|intro _);(conv=>whnf);refine gG0 ?_))
  refine⟨(⟨Ap,capp,p1.o++[UInt8.ofNat j],p1.a⟩,f),⟨⟨hm8,hd,hsy.2.1,?_,hmo⟩,by show q.a≤p1.a;omega,by show s.d.L.length+1≤f+p1.a;omega,hV⟩,by show f<f+1;omega,⟨rfl,rfl,rfl,trivial⟩,?_⟩
  ·show ((p1.o++[UInt8.ofNat j]).length:Int)≤_
   rw [List.length_append,List.length_singleton];omega
  ·show SubM _ _ (SdM s ⟨Ap,capp,p1.o++[UInt8.ofNat j],p1.a⟩)
   rw [zrh,show ((UInt8.ofNat j).toNat:Int)=(j:Int) by rw [UInt8.toNat_ofNat'];omega]
   exact SubM.sl
 rw [if_neg hlit] at hV
 refine gGw ?_
 refine br_d (fun hbig=>?_) (fun hbig=>?_)
 ·rw [if_pos hbig] at hV
  refine gGw ?_
  exact fin1 rfl rfl (fun w' hm=>⟨SdM s p1,.no hV.symm (by decide) hp1,hm.sl⟩)
 rw [if_neg hbig] at hV
 refine gGw ?_
 refine⟨zkh,zac (m1:=SdM s p1) (by repeat constructor) (fun w' hm'=>zpu s p1 x D B d nd w' hnd hp1 hD (by omega) (stb (r:=[]) hm' (fun w'' hm''=>hsD w'' hm''.fr)) hm'.part) ?_⟩
 rintro e m' (⟨q',hV',hq',hqa,rfl,rfl⟩|⟨⟨y,hV'⟩,z,q',hz,hq',rfl,rfl⟩)
 rotate_left
 ·rw [show zjF s.d.L D s.most x p1.a p1.o=_ from hV'] at hV
  refine gGw ?_
  refine br_n (br_f (decide_eq_false hz) ?_)
  refine gGw ?_
  exact fin1 rfl rfl (fun w' hm=>⟨SdM s q',.no hV.symm hz hq',hm.sl⟩)
 rw [show zjF s.d.L D s.most x p1.a p1.o=_ from hV'] at hV
 replace hqa:p1.a≤q'.a:=hqa
 refine gGw ?_
 refine br_n (br_t rfl ?_)
 refine gGw ?_
 exact⟨(q',f),⟨hq',by show q.a≤q'.a;omega,by show s.d.L.length+1≤f+q'.a;omega,hV⟩,by show f<f+1;omega,⟨rfl,rfl,rfl,trivial⟩,SubM.sl⟩
end
section
def RowU (s:Sd) (q:Sq) (n:Nat) (V:DRes) (e:Ending) (m':Mem):Prop:=(∃ (q':Sq) (r:List Int) (A:Option Addr) (c:Nat),V=.ok (q'.a,r)∧q'.o=q.o∧SqOk s q'∧q.a≤q'.a∧r.length=n∧(∀ x∈r,0≤x∧x≤15)∧e=.returned (.tuple #[.slice A n c,.int .i64 0])∧m'=IR A c n r::SdM s q') ∨
 ((∃ y,V=.error y)∧∃ (z:Int) (q':Sq),z≠0∧SqOk s q'∧e=.returned (.tuple #[.slice none 0 0,.int .i64 z])∧m'=SdM s q')
theorem RowU.no {s:Sd} {q q':Sq} {n:Nat} {V:DRes} {y z:Int} (hV:V=.error y) (hz:z≠0) (hq:SqOk s q'):RowU s q n V (.returned (.tuple #[.slice none 0 0,.int .i64 z])) (SdM s q'):=.inr ⟨⟨y,hV⟩,z,q',hz,hq,rfl,rfl⟩
theorem zkN {A:Option Addr} {c n:Nat} {r:List Int} {v:Int}:IR A c n (r++[v])=.row A c n 3 1 (r.map (Value.int .i64)++[.int .i64 v]):=by
 unfold IR;rw [List.map_append];rfl
theorem zkt {r:List Int} {v:Int} (i:Nat):r++List.replicate (i+1) v=(r++List.replicate i v)++[v]:=by
 rw [List.replicate_succ',List.append_assoc]
theorem zxZ {w:World} {A:Option Addr} {c n:Nat} {l:List Int} (h:Res.ok w (IR A c n l)) (hn:0<l.length):Pl A:=by
 obtain ⟨b,rfl,_⟩:=zaQ h (j:=0) (v:=.int .i64 (l.getD 0 0)) (by rw [List.getElem?_map,List.getD_eq_getElem?_getD,List.getElem?_eq_getElem hn];rfl)
 exact⟨b,0,rfl⟩
attribute [local irreducible] Br Rn RnU Cl RdG CpG Ld Rd Lp Dr Oth Cut fin Fits Eng.Enters Md NA
theorem zmQ:Eng.Enters Tryz.prog 248:=zab fun _ _=>by kernel_rfl
set_option maxHeartbeats 2000000 in
theorem zuc (s:Sd) (q:Sq) (C:List Int) (A:Option Addr) (c nl n:Nat) (w:World) (hnl:C.length=nl) (h19:nl=19) (hn:n≤400) (hok:SqOk s q) (hC:LenL C) (hsC:Stb (SdM s q) w (fun w=>IntsIn .i64 w A C)) (hm:MemOk w (Foot (SdM s q)) (SdM s q) w) :
  Ctr Tryz.prog 248 [.pointer (some ⟨s.S,0,none⟩),.slice A nl c,.int .i64 (n:Nat)] (SdM s q) (RowU s q n (rowX s.d.L C n (zfW s.d.L) q.a [])) w:=by
 refine enter (cx:=CXS 87 [] w (Foot (SdM s q))) [(0,.pointer (some ⟨s.S,0,none⟩)),(1,.slice A nl c),(2,.int .i64 (n:Nat))] zaa Tryz.func248 rfl rfl rfl rfl hm ?_
 generalize hV:rowX s.d.L C n (zfW s.d.L) q.a []=V
 refine gGw ?_
 refine lp_w zaa (γ:=Sq × Nat × List Int × Option Addr × Nat) (fun g=>SqOk s g.1∧g.1.o=q.o∧q.a≤g.1.a∧s.d.L.length+1≤g.2.1+g.1.a∧g.2.2.1.length≤n∧(∀ x∈g.2.2.1,0≤x∧x≤15)∧rowX s.d.L C n g.2.1 g.1.a g.2.2.1=V) (fun g=>[(8,.slice g.2.2.2.1 g.2.2.1.length g.2.2.2.2),(0,.pointer (some ⟨s.S,0,none⟩)),(1,.slice A nl c),(2,.int .i64 (n:Nat))]) (fun g=>IR g.2.2.2.1 g.2.2.2.2 g.2.2.1.length g.2.2.1::SdM s g.1) (fun g=>g.2.1) (q,zfW s.d.L,[],none,0) ⟨hok,rfl,Nat.le_refl _,by show s.d.L.length+1≤(s.d.L.length+1)+q.a;omega,Nat.zero_le _,(fun x hx=>by cases hx),hV⟩ ⟨rfl,rfl,rfl,rfl,trivial⟩ (SubM.row0 SubM.sl _ _) ?_
 clear hV
 rintro ⟨p,f,r,rA,rc⟩ ⟨hp,hpo,hqp,hf,hrn,hrx,hV⟩ ⟨w9,hw9⟩
 simp only at hp hpo hqp hf hV hrn hrx
 dsimp only
 have hpl:0<r.length→Pl rA:=fun h=>zxZ (hw9.ok (IR rA rc r.length r) (List.mem_cons_self ..)) h
 have hp0:=hp
 obtain ⟨hm8,hd,ha,ho,hmo⟩:=hp
 have hd0:=hd
 obtain ⟨hL,hdl,hc⟩:=hd
 obtain ⟨f,rfl⟩:∃ f',f=f'+1:=⟨f-1,by omega⟩
 rw [rowX] at hV
 refine gGw ?_
 refine br_d (fun hlt=>?_) (fun hge=>?_)
 rotate_left
 ·rw [if_pos (by omega)] at hV
  have en:r.length=n:=by omega
  subst en
  refine gGw ?_
  exact fin2 rfl rfl rfl (fun w' hm=>⟨IR rA rc r.length r::SdM s p,.inl ⟨p,r,rA,rc,hV.symm,hpo,hp0,hqp,rfl,hrx,rfl,rfl⟩,hm.sl⟩)
 rw [if_neg (by omega)] at hV
 refine gGw ?_
 refine⟨zfM,zac (m1:=SdM s p) (by repeat constructor) (fun w' hm'=>zke s p C A c nl w' hnl hp0 hC (stb (r:=[IR rA rc r.length r]) hm' (fun w'' hm''=>hsC w'' hm''.fr)) hm'.part) ?_⟩
 rintro e m' (⟨x,a1,hx,rfl,rfl⟩|⟨hx,z,hz,rfl,rfl⟩)
 rotate_left
 ·rw [hx] at hV
  refine gGw ?_
  refine br_n (br_f (decide_eq_false hz) ?_)
  refine gGw ?_
  exact fin2 rfl rfl rfl (fun w' hm=>⟨SdM s p,.no hV.symm hz hp0,hm.sl⟩)
 have hsy:=zkp ha hx
 rw [hx] at hV
 simp only at hV
 obtain ⟨p1,hq1⟩:∃ p1:Sq,p1={ p with a:=a1 }:=⟨_,rfl⟩
 have hp1:SqOk s p1:=hq1 ▸ hp0.at_ hsy.2.1
 have ea1:p1.a=a1:=by rw [hq1]
 have eo1:p1.o=p.o:=by rw [hq1]
 rw [← hq1]
 clear hq1
 rw [← eo1] at ho
 subst ea1
 refine gGw ?_
 refine br_n (br_t rfl ?_)
 refine gGw ?_
 refine br_d (fun hlit=>?_) (fun hlit=>?_)
 ·rw [if_pos hlit] at hV
  refine gGw ?_;(repeat ((first|refine .mk fun Ap capp=>?_|intro _);(conv=>whnf);refine gG0 ?_))
  refine⟨(p1,f,r++[x],Ap,capp),⟨hp1,eo1.trans hpo,by show q.a≤p1.a;omega,by show s.d.L.length+1≤f+p1.a;omega,by show (r++[x]).length≤n;rw [List.length_append,List.length_singleton];omega,?_,hV⟩,by show f<f+1;omega,⟨by show some (Value.slice Ap (r.length+1) capp)=some (Value.slice Ap (r++[x]).length capp);rw [List.length_append,List.length_singleton],rfl,rfl,rfl,trivial⟩,?_⟩
  ·intro y hy
   rcases List.mem_append.1 hy with hy|hy
   ·exact hrx y hy
   ·rw [List.mem_singleton.1 hy];omega
  ·show SubM _ _ (IR Ap capp (r++[x]).length (r++[x])::SdM s p1)
   rw [zkN,List.length_append,List.length_singleton]
   exact SubM.sl
 rw [if_neg hlit] at hV
 have hx3:x=16∨x=17∨x=18:=by omega
 rcases hx3 with hx3|hx3|hx3
 ·subst hx3
  simp only [show ((16:Int)=16)=True from eq_self _,show ((17:Int)=16)=False by decide,show ((17:Int)=17)=True from eq_self _,show ((18:Int)=16)=False by decide,show ((18:Int)=17)=False by decide,show ((18:Int)=18)=True from eq_self _,show ((16:Int)=18)=False by decide,show ((17:Int)=18)=False by decide,if_true,if_false,true_and,false_and] at hV
  refine gGw ?_;(repeat ((first|refine .mk fun Ap capp=>?_|intro _);(conv=>whnf);refine gG0 ?_))
  refine And.intro ⟨by decide,by decide,Pl.mk _ _⟩ ?_
  refine gGw ?_
  refine⟨zaM,zac (m1:=BdM s.d p1.a) (by repeat constructor) (fun w' hm'=>zbt s.d p1.a 2 w' hd0 hp1.a (by omega) hm'.part) ?_⟩
  rintro e m' (⟨h3,rfl,rfl⟩|⟨h3,rfl,rfl⟩)
  rotate_left
  ·rw [zbP h3] at hV
   refine gGw ?_
   refine br_n (br_f rfl ?_)
   refine gGw ?_
   exact fin2 rfl rfl rfl (fun w' hm=>⟨SdM s p1,.no hV.symm (by decide) hp1,hm.sl⟩)
  rw [zbO h3] at hV
  simp only at hV
  have hb2:=ziu hL p1.a (n:=2) (k:=7) (by omega)
  generalize numU ((s.d.L.drop p1.a).take 2)=m2 at hV hb2 ⊢
  obtain ⟨p2,hq2⟩:∃ p2:Sq,p2={ p1 with a:=p1.a+2 }:=⟨_,rfl⟩
  have hp2:SqOk s p2:=hq2 ▸ hp1.at_ h3
  have ea2:p2.a=p1.a+2:=by rw [hq2]
  have eo2:p2.o=p1.o:=by rw [hq2]
  rw [← ea2] at hV
  have hlp:s.d.L.length+1≤f+p2.a∧q.a≤p2.a:=by omega
  refine gGw ?_
  refine br_n (br_t rfl ?_)
  refine gGw ?_
  refine br_f rfl ?_
  refine gGw ?_
  refine br_t rfl ?_
  refine gGw ?_
  refine br_d (fun h0=>?_) (fun h0=>?_)
  ·rw [if_pos (by omega)] at hV
   refine gGw ?_
   exact fin2 rfl rfl rfl (fun w' hm=>⟨SdM s p2,.no hV.symm (by decide) hp2,hq2 ▸ hm.sl⟩)
  rw [if_neg (by omega)] at hV
  refine gGw ?_
  have ej:(r.length:Int)-1=((r.length-1:Nat):Int):=by omega
  rw [ej]
  refine And.intro ⟨by omega,by omega,hpl (by omega)⟩ ?_
  conv=>whnf
  refine zai (ldR zaa (by repeat constructor) rfl rfl (zbg (xs:=r) (j:=r.length-1) (by omega))) ?_
  have hvb:=hrx (r.getD (r.length-1) 0) (zbC (by omega))
  generalize r.getD (r.length-1) 0=v at hV hvb ⊢
  refine gGw ?_
  refine br_d (fun hlg=>?_) (fun hlg=>?_)
  ·rw [if_pos (by omega)] at hV
   refine gGw ?_
   exact fin2 rfl rfl rfl (fun w' hm=>⟨SdM s p2,.no hV.symm (by decide) hp2,hq2 ▸ hm.sl⟩)
  rw [if_neg (by omega)] at hV
  refine gGw ?_
  obtain ⟨tm,htm⟩:∃ tm,tm=m2+3:=⟨_,rfl⟩
  rw [show (m2:Int)+3=(tm:Int) by omega]
  rw [← htm] at hV
  refine lp zaa (γ:=Nat × Option Addr × Nat) (fun g=>g.1≤tm) (fun g=>[(15,.int .i64 (g.1:Int)),(14,.int .i64 v),(13,.int .i64 (tm:Int)),(8,.slice g.2.1 (r.length+g.1) g.2.2),(0,.pointer (some ⟨s.S,0,none⟩)),(1,.slice A nl c),(2,.int .i64 (n:Nat))]) (fun g=>IR g.2.1 g.2.2 (r.length+g.1) (r++List.replicate g.1 v)::SdM s p2) (fun g=>tm-g.1) (0,rA,rc) (Nat.zero_le _) ⟨rfl,rfl,rfl,rfl,rfl,rfl,rfl,trivial⟩ (by show SubM _ _ (IR rA rc r.length (r++[])::SdM s p2);rw [List.append_nil,hq2];exact SubM.sl) ?_
  rintro ⟨i,gA,gc⟩ hi
  simp only at hi
  dsimp only
  have hrl:(r++List.replicate i (v:Int)).length=r.length+i:=by rw [List.length_append,List.length_replicate]
  have hsn:=zkt (r:=r) (v:=(v:Int)) i
  have hall:∀ y∈r++List.replicate i (v:Int),0≤y∧y≤15:=fun y hy=>by
   rcases List.mem_append.1 hy with hy|hy
   ·exact hrx y hy
   ·rw [(List.mem_replicate.1 hy).2];exact hvb
  refine gGw ?_
  refine br_d (fun hit=>?_) (fun hit=>?_)
  ·generalize r++List.replicate i (v:Int)=r2 at hrl hsn hall ⊢
   refine gGw ?_;(repeat ((first|refine .mk fun Ap capp=>?_|intro _);(conv=>whnf);refine gG0 ?_))
   refine⟨(i+1,Ap,capp),by show i+1≤tm;omega,by show tm-(i+1)<tm-i;omega,⟨congrArg (fun x=>some (Value.int .i64 x)) (by push_cast;rfl),rfl,rfl,rfl,rfl,rfl,rfl,trivial⟩,?_⟩
   show SubM _ _ (IR Ap capp (r.length+(i+1)) (r++List.replicate (i+1) v)::SdM s p2)
   rw [hsn,zkN]
   exact SubM.sl
  ·have ei:i=tm:=by omega
   subst ei
   refine gGw ?_
   refine⟨(p2,f,r++List.replicate i v,gA,gc),⟨hp2,eo2.trans (eo1.trans hpo),hlp.2,hlp.1,by show (r++List.replicate i (v:Int)).length≤n;omega,hall,hV⟩,by show f<f+1;omega,⟨by show some (Value.slice gA (r.length+i) gc)=some (Value.slice gA (r++List.replicate i (v:Int)).length gc);rw [hrl],rfl,rfl,rfl,trivial⟩,?_⟩
   show SubM _ _ (IR gA gc (r++List.replicate i (v:Int)).length (r++List.replicate i v)::SdM s p2)
   rw [hrl]
   exact SubM.sl
 ·subst hx3
  simp only [show ((16:Int)=16)=True from eq_self _,show ((17:Int)=16)=False by decide,show ((17:Int)=17)=True from eq_self _,show ((18:Int)=16)=False by decide,show ((18:Int)=17)=False by decide,show ((18:Int)=18)=True from eq_self _,show ((16:Int)=18)=False by decide,show ((17:Int)=18)=False by decide,if_true,if_false,true_and,false_and] at hV
  refine gGw ?_;(repeat ((first|refine .mk fun Ap capp=>?_|intro _);(conv=>whnf);refine gG0 ?_))
  refine And.intro ⟨by decide,by decide,Pl.mk _ _⟩ ?_
  refine gGw ?_
  refine⟨zaM,zac (m1:=BdM s.d p1.a) (by repeat constructor) (fun w' hm'=>zbt s.d p1.a 3 w' hd0 hp1.a (by omega) hm'.part) ?_⟩
  rintro e m' (⟨h3,rfl,rfl⟩|⟨h3,rfl,rfl⟩)
  rotate_left
  ·rw [zbP h3] at hV
   refine gGw ?_
   refine br_n (br_f rfl ?_)
   refine gGw ?_
   exact fin2 rfl rfl rfl (fun w' hm=>⟨SdM s p1,.no hV.symm (by decide) hp1,hm.sl⟩)
  rw [zbO h3] at hV
  simp only at hV
  have hb2:=ziu hL p1.a (n:=3) (k:=7) (by omega)
  generalize numU ((s.d.L.drop p1.a).take 3)=m2 at hV hb2 ⊢
  obtain ⟨p2,hq2⟩:∃ p2:Sq,p2={ p1 with a:=p1.a+3 }:=⟨_,rfl⟩
  have hp2:SqOk s p2:=hq2 ▸ hp1.at_ h3
  have ea2:p2.a=p1.a+3:=by rw [hq2]
  have eo2:p2.o=p1.o:=by rw [hq2]
  rw [← ea2] at hV
  have hlp:s.d.L.length+1≤f+p2.a∧q.a≤p2.a:=by omega
  refine gGw ?_
  refine br_n (br_t rfl ?_)
  refine gGw ?_
  refine br_f rfl ?_
  refine gGw ?_
  refine br_f rfl ?_
  refine gGw ?_
  refine br_d (fun hlg=>?_) (fun hlg=>?_)
  ·rw [if_pos (by omega)] at hV
   refine gGw ?_
   exact fin2 rfl rfl rfl (fun w' hm=>⟨SdM s p2,.no hV.symm (by decide) hp2,hq2 ▸ hm.sl⟩)
  rw [if_neg (by omega)] at hV
  refine gGw ?_
  obtain ⟨tm,htm⟩:∃ tm,tm=m2+3:=⟨_,rfl⟩
  rw [show (m2:Int)+3=(tm:Int) by omega]
  rw [← htm] at hV
  refine lp zaa (γ:=Nat × Option Addr × Nat) (fun g=>g.1≤tm) (fun g=>[(15,.int .i64 (g.1:Int)),(14,.int .i64 0),(13,.int .i64 (tm:Int)),(8,.slice g.2.1 (r.length+g.1) g.2.2),(0,.pointer (some ⟨s.S,0,none⟩)),(1,.slice A nl c),(2,.int .i64 (n:Nat))]) (fun g=>IR g.2.1 g.2.2 (r.length+g.1) (r++List.replicate g.1 0)::SdM s p2) (fun g=>tm-g.1) (0,rA,rc) (Nat.zero_le _) ⟨rfl,rfl,rfl,rfl,rfl,rfl,rfl,trivial⟩ (by show SubM _ _ (IR rA rc r.length (r++[])::SdM s p2);rw [List.append_nil,hq2];exact SubM.sl) ?_
  rintro ⟨i,gA,gc⟩ hi
  simp only at hi
  dsimp only
  have hrl:(r++List.replicate i (0:Int)).length=r.length+i:=by rw [List.length_append,List.length_replicate]
  have hsn:=zkt (r:=r) (v:=(0:Int)) i
  have hall:∀ y∈r++List.replicate i (0:Int),0≤y∧y≤15:=fun y hy=>by
   rcases List.mem_append.1 hy with hy|hy
   ·exact hrx y hy
   ·rw [(List.mem_replicate.1 hy).2];omega
  refine gGw ?_
  refine br_d (fun hit=>?_) (fun hit=>?_)
  ·generalize r++List.replicate i (0:Int)=r2 at hrl hsn hall ⊢
   refine gGw ?_;(repeat ((first|refine .mk fun Ap capp=>?_|intro _);(conv=>whnf);refine gG0 ?_))
   refine⟨(i+1,Ap,capp),by show i+1≤tm;omega,by show tm-(i+1)<tm-i;omega,⟨congrArg (fun x=>some (Value.int .i64 x)) (by push_cast;rfl),rfl,rfl,rfl,rfl,rfl,rfl,trivial⟩,?_⟩
   show SubM _ _ (IR Ap capp (r.length+(i+1)) (r++List.replicate (i+1) 0)::SdM s p2)
   rw [hsn,zkN]
   exact SubM.sl
  ·have ei:i=tm:=by omega
   subst ei
   refine gGw ?_
   refine⟨(p2,f,r++List.replicate i 0,gA,gc),⟨hp2,eo2.trans (eo1.trans hpo),hlp.2,hlp.1,by show (r++List.replicate i (0:Int)).length≤n;omega,hall,hV⟩,by show f<f+1;omega,⟨by show some (Value.slice gA (r.length+i) gc)=some (Value.slice gA (r++List.replicate i (0:Int)).length gc);rw [hrl],rfl,rfl,rfl,trivial⟩,?_⟩
   show SubM _ _ (IR gA gc (r++List.replicate i (0:Int)).length (r++List.replicate i 0)::SdM s p2)
   rw [hrl]
   exact SubM.sl
 ·subst hx3
  simp only [show ((16:Int)=16)=True from eq_self _,show ((17:Int)=16)=False by decide,show ((17:Int)=17)=True from eq_self _,show ((18:Int)=16)=False by decide,show ((18:Int)=17)=False by decide,show ((18:Int)=18)=True from eq_self _,show ((16:Int)=18)=False by decide,show ((17:Int)=18)=False by decide,if_true,if_false,true_and,false_and] at hV
  refine gGw ?_;(repeat ((first|refine .mk fun Ap capp=>?_|intro _);(conv=>whnf);refine gG0 ?_))
  refine And.intro ⟨by decide,by decide,Pl.mk _ _⟩ ?_
  refine gGw ?_
  refine⟨zaM,zac (m1:=BdM s.d p1.a) (by repeat constructor) (fun w' hm'=>zbt s.d p1.a 7 w' hd0 hp1.a (by omega) hm'.part) ?_⟩
  rintro e m' (⟨h3,rfl,rfl⟩|⟨h3,rfl,rfl⟩)
  rotate_left
  ·rw [zbP h3] at hV
   refine gGw ?_
   refine br_n (br_f rfl ?_)
   refine gGw ?_
   exact fin2 rfl rfl rfl (fun w' hm=>⟨SdM s p1,.no hV.symm (by decide) hp1,hm.sl⟩)
  rw [zbO h3] at hV
  simp only at hV
  have hb2:=ziu hL p1.a (n:=7) (k:=7) (by omega)
  generalize numU ((s.d.L.drop p1.a).take 7)=m2 at hV hb2 ⊢
  obtain ⟨p2,hq2⟩:∃ p2:Sq,p2={ p1 with a:=p1.a+7 }:=⟨_,rfl⟩
  have hp2:SqOk s p2:=hq2 ▸ hp1.at_ h3
  have ea2:p2.a=p1.a+7:=by rw [hq2]
  have eo2:p2.o=p1.o:=by rw [hq2]
  rw [← ea2] at hV
  have hlp:s.d.L.length+1≤f+p2.a∧q.a≤p2.a:=by omega
  refine gGw ?_
  refine br_n (br_t rfl ?_)
  refine gGw ?_
  refine br_t rfl ?_
  refine gGw ?_
  refine br_f rfl ?_
  refine gGw ?_
  refine br_d (fun hlg=>?_) (fun hlg=>?_)
  ·rw [if_pos (by omega)] at hV
   refine gGw ?_
   exact fin2 rfl rfl rfl (fun w' hm=>⟨SdM s p2,.no hV.symm (by decide) hp2,hq2 ▸ hm.sl⟩)
  rw [if_neg (by omega)] at hV
  refine gGw ?_
  obtain ⟨tm,htm⟩:∃ tm,tm=m2+11:=⟨_,rfl⟩
  rw [show (m2:Int)+11=(tm:Int) by omega]
  rw [← htm] at hV
  refine lp zaa (γ:=Nat × Option Addr × Nat) (fun g=>g.1≤tm) (fun g=>[(15,.int .i64 (g.1:Int)),(14,.int .i64 0),(13,.int .i64 (tm:Int)),(8,.slice g.2.1 (r.length+g.1) g.2.2),(0,.pointer (some ⟨s.S,0,none⟩)),(1,.slice A nl c),(2,.int .i64 (n:Nat))]) (fun g=>IR g.2.1 g.2.2 (r.length+g.1) (r++List.replicate g.1 0)::SdM s p2) (fun g=>tm-g.1) (0,rA,rc) (Nat.zero_le _) ⟨rfl,rfl,rfl,rfl,rfl,rfl,rfl,trivial⟩ (by show SubM _ _ (IR rA rc r.length (r++[])::SdM s p2);rw [List.append_nil,hq2];exact SubM.sl) ?_
  rintro ⟨i,gA,gc⟩ hi
  simp only at hi
  dsimp only
  have hrl:(r++List.replicate i (0:Int)).length=r.length+i:=by rw [List.length_append,List.length_replicate]
  have hsn:=zkt (r:=r) (v:=(0:Int)) i
  have hall:∀ y∈r++List.replicate i (0:Int),0≤y∧y≤15:=fun y hy=>by
   rcases List.mem_append.1 hy with hy|hy
   ·exact hrx y hy
   ·rw [(List.mem_replicate.1 hy).2];omega
  refine gGw ?_
  refine br_d (fun hit=>?_) (fun hit=>?_)
  ·generalize r++List.replicate i (0:Int)=r2 at hrl hsn hall ⊢
   refine gGw ?_;(repeat ((first|refine .mk fun Ap capp=>?_|intro _);(conv=>whnf);refine gG0 ?_))
   refine⟨(i+1,Ap,capp),by show i+1≤tm;omega,by show tm-(i+1)<tm-i;omega,⟨congrArg (fun x=>some (Value.int .i64 x)) (by push_cast;rfl),rfl,rfl,rfl,rfl,rfl,rfl,trivial⟩,?_⟩
   show SubM _ _ (IR Ap capp (r.length+(i+1)) (r++List.replicate (i+1) 0)::SdM s p2)
   rw [hsn,zkN]
   exact SubM.sl
  ·have ei:i=tm:=by omega
   subst ei
   refine gGw ?_
   refine⟨(p2,f,r++List.replicate i 0,gA,gc),⟨hp2,eo2.trans (eo1.trans hpo),hlp.2,hlp.1,by show (r++List.replicate i (0:Int)).length≤n;omega,hall,hV⟩,by show f<f+1;omega,⟨by show some (Value.slice gA (r.length+i) gc)=some (Value.slice gA (r++List.replicate i (0:Int)).length gc);rw [hrl],rfl,rfl,rfl,trivial⟩,?_⟩
   show SubM _ _ (IR gA gc (r++List.replicate i (0:Int)).length (r++List.replicate i 0)::SdM s p2)
   rw [hrl]
   exact SubM.sl
end
section
attribute [local irreducible] Br Rn RnU Cl RdG CpG Ld Rd Lp Dr Oth Cut fin Fits Eng.Enters Md NA
theorem zkj:Eng.Enters Tryz.prog 227:=zab fun _ _=>by kernel_rfl
theorem zpw (w:World):Ctr Tryz.prog 227 [] [] (fun e m'=>e=.returned (.tuple #[.agg (fixL.map (Value.int .i64)).toArray,.agg (fixD.map (Value.int .i64)).toArray])∧m'=[]) w:=by
 refine enter (cx:=CXS 35 [] w (Foot [])) [] zaa Tryz.func227 rfl rfl rfl rfl (MemOk.nil w _) ?_
 refine gGw ?_;(repeat ((first|refine .mk fun Ap capp=>?_|intro _);(conv=>whnf);refine gG0 ?_))
 rename_i b0 b1 b2 b3
 have hz1:∃ X:List Int,X.length=288∧X.map (Value.int .i64)=List.replicate 288 (.int .i64 0):=⟨List.replicate 288 0,by simp,by simp⟩
 have hz2:∃ X:List Int,X.length=32∧X.map (Value.int .i64)=List.replicate 32 (.int .i64 0):=⟨List.replicate 32 0,by simp,by simp⟩
 obtain ⟨X,hX,eX⟩:=hz1
 obtain ⟨Y,hY,eY⟩:=hz2
 refine lp zaa (γ:=Nat) (fun i=>i≤288) (fun i=>[(4,.int .i64 (i:Int)),(0,.pointer (some ⟨b0,0,none⟩)),(1,.pointer (some ⟨b1,0,none⟩)),(2,.pointer (some ⟨b2,0,none⟩)),(3,.pointer (some ⟨b3,0,none⟩))]) (fun i=>[.blk b2 (.cells ((upL fixV 288 i).map (Value.int .i64)).toArray 293),.blk b3 (.cells ((upL (fun _=>5) 32 0).map (Value.int .i64)).toArray 294),.blk b0 (.cells (X.map (Value.int .i64)).toArray 293),.blk b1 (.cells (Y.map (Value.int .i64)).toArray 294)]) (fun i=>288-i) 0 (by omega) ⟨rfl,rfl,rfl,rfl,rfl,trivial⟩ (by rw [eX,eY];exact SubM.sl) ?_
 rintro i hi
 dsimp only
 clear eX eY
 refine gGw ?_
 refine br_d (fun hlt=>?_) (fun hge=>?_)
 ·have hl:=zfJ fixV 288 i
  have hu:=zhQ fixV 288 i
  have h5:∀ v:Int,v=fixV i→(upL fixV 288 i).set i v=upL fixV 288 (i+1):=fun v h=>by rw [h,hu]
  have hfv:fixV i=if 280≤i∨i<144 then 8 else if i<256 then 9 else 7:=rfl
  generalize upL fixV 288 i=q at hl h5 ⊢
  refine gGw ?_
  refine br_d (fun hc1=>?_) (fun hc1=>?_)
  ·rw [if_pos (by omega)] at hfv
   refine gGw ?_
   refine And.intro ⟨by omega,by omega,Pl.mk _ _⟩ ?_
   conv=>whnf
   refine zaO (b:=b2) (off:=0+i) (cs':=(upL fixV 288 (i+1)).map (Value.int .i64)) zaa rfl (by repeat constructor) rfl rfl (Nat.ble_eq_true_of_le (show 0+i+1≤_ by rw [List.length_map,hl];omega)) (by rw [Nat.zero_add,← h5 8 hfv.symm,List.map_set];rfl) ?_
   refine gGw ?_
   exact⟨i+1,by omega,by omega,⟨congrArg (fun x=>some (Value.int .i64 x)) (by push_cast;rfl),rfl,rfl,rfl,rfl,trivial⟩,SubM.sl⟩
  refine gGw ?_
  refine br_d (fun hc2=>?_) (fun hc2=>?_)
  ·rw [if_neg (by omega),if_pos (by omega)] at hfv
   refine gGw ?_
   refine And.intro ⟨by omega,by omega,Pl.mk _ _⟩ ?_
   conv=>whnf
   refine zaO (b:=b2) (off:=0+i) (cs':=(upL fixV 288 (i+1)).map (Value.int .i64)) zaa rfl (by repeat constructor) rfl rfl (Nat.ble_eq_true_of_le (show 0+i+1≤_ by rw [List.length_map,hl];omega)) (by rw [Nat.zero_add,← h5 9 hfv.symm,List.map_set];rfl) ?_
   refine gGw ?_
   exact⟨i+1,by omega,by omega,⟨congrArg (fun x=>some (Value.int .i64 x)) (by push_cast;rfl),rfl,rfl,rfl,rfl,trivial⟩,SubM.sl⟩
  refine gGw ?_
  refine br_d (fun hc3=>?_) (fun hc3=>?_)
  ·rw [if_neg (by omega),if_neg (by omega)] at hfv
   refine gGw ?_
   refine And.intro ⟨by omega,by omega,Pl.mk _ _⟩ ?_
   conv=>whnf
   refine zaO (b:=b2) (off:=0+i) (cs':=(upL fixV 288 (i+1)).map (Value.int .i64)) zaa rfl (by repeat constructor) rfl rfl (Nat.ble_eq_true_of_le (show 0+i+1≤_ by rw [List.length_map,hl];omega)) (by rw [Nat.zero_add,← h5 7 hfv.symm,List.map_set];rfl) ?_
   refine gGw ?_
   exact⟨i+1,by omega,by omega,⟨congrArg (fun x=>some (Value.int .i64 x)) (by push_cast;rfl),rfl,rfl,rfl,rfl,trivial⟩,SubM.sl⟩
  ·rw [if_pos (by omega)] at hfv
   refine gGw ?_
   refine And.intro ⟨by omega,by omega,Pl.mk _ _⟩ ?_
   conv=>whnf
   refine zaO (b:=b2) (off:=0+i) (cs':=(upL fixV 288 (i+1)).map (Value.int .i64)) zaa rfl (by repeat constructor) rfl rfl (Nat.ble_eq_true_of_le (show 0+i+1≤_ by rw [List.length_map,hl];omega)) (by rw [Nat.zero_add,← h5 8 hfv.symm,List.map_set];rfl) ?_
   refine gGw ?_
   exact⟨i+1,by omega,by omega,⟨congrArg (fun x=>some (Value.int .i64 x)) (by push_cast;rfl),rfl,rfl,rfl,rfl,trivial⟩,SubM.sl⟩
 ·obtain rfl:i=288:=by omega
  rw [zsi]
  have hfl:fixL.length=288:=by decide
  generalize hq:fixL=q at hfl
  refine gGw ?_
  refine lp zaa (γ:=Nat) (fun i=>i≤32) (fun i=>[(5,.int .i64 (i:Int)),(0,.pointer (some ⟨b0,0,none⟩)),(1,.pointer (some ⟨b1,0,none⟩)),(2,.pointer (some ⟨b2,0,none⟩)),(3,.pointer (some ⟨b3,0,none⟩))]) (fun i=>[.blk b3 (.cells ((upL (fun _=>5) 32 i).map (Value.int .i64)).toArray 294),.blk b2 (.cells (q.map (Value.int .i64)).toArray 293),.blk b0 (.cells (X.map (Value.int .i64)).toArray 293),.blk b1 (.cells (Y.map (Value.int .i64)).toArray 294)]) (fun i=>32-i) 0 (by omega) ⟨rfl,rfl,rfl,rfl,rfl,trivial⟩ SubM.sl ?_
  clear hi hge
  rintro i hi
  dsimp only
  refine gGw ?_
  refine br_d (fun hlt=>?_) (fun hge=>?_)
  ·have hl:=zfJ (fun _=>5) 32 i
   have hu:=zhQ (fun _=>5) 32 i
   refine gGw ?_
   refine And.intro ⟨by omega,by omega,Pl.mk _ _⟩ ?_
   conv=>whnf
   refine zaO (b:=b3) (off:=0+i) (cs':=(upL (fun _=>5) 32 (i+1)).map (Value.int .i64)) zaa rfl (by repeat constructor) rfl rfl (Nat.ble_eq_true_of_le (show 0+i+1≤_ by rw [List.length_map,hl];omega)) (by rw [Nat.zero_add,← hu,List.map_set];rfl) ?_
   refine gGw ?_
   exact⟨i+1,by omega,by omega,⟨congrArg (fun x=>some (Value.int .i64 x)) (by push_cast;rfl),rfl,rfl,rfl,rfl,trivial⟩,SubM.sl⟩
  ·obtain rfl:i=32:=by omega
   rw [zsk]
   have hdl:fixD.length=32:=by decide
   generalize hr:fixD=r at hdl
   conv=>whnf
   refine za5 (γ:=Unit) (Tr.hs [0,1] (.sq [2,3] .done)) [.blk b2 (.cells (q.map (Value.int .i64)).toArray 293),.blk b3 (.cells (r.map (Value.int .i64)).toArray 294)] zaa mixed (by kernel_rfl) rfl (fun _=>True)
    (fun _=>[(0,.pointer (some ⟨b0,0,none⟩)),(1,.pointer (some ⟨b1,0,none⟩))]) (fun _=>[.blk b0 (.cells (q.map (Value.int .i64)).toArray 293),.blk b1 (.cells (r.map (Value.int .i64)).toArray 294)]) SubM.sl ?_ ?_
   ·refine gGw ?_
    refine⟨_,(ldA zaa (by repeat constructor) rfl rfl (by rw [List.length_map];exact hfl)).g,?_⟩
    conv=>whnf
    refine⟨_,(ldA zaa (by repeat constructor) rfl rfl (by rw [List.length_map];exact hdl)).g,?_⟩
    conv=>whnf
    refine⟨?_,trivial⟩
    conv=>whnf
    refine zaO (b:=b0) (off:=0) (cs':=q.map (Value.int .i64)) zaa rfl (by repeat constructor) (by rw [zat,List.length_map];exact hfl) (by rw [zat];exact zbn _ _) (Nat.ble_eq_true_of_le (by rw [zat,List.length_map,List.length_map];omega)) (by rw [zat];exact zb1 _ _ (by rw [List.length_map,List.length_map];omega)) ?_
    conv=>whnf
    refine gGs ?_
    conv=>whnf
    refine⟨?_,trivial⟩
    conv=>whnf
    refine zaO (b:=b1) (off:=0) (cs':=r.map (Value.int .i64)) zaa rfl (by repeat constructor) (by rw [zat,List.length_map];exact hdl) (by rw [zat];exact zbn _ _) (Nat.ble_eq_true_of_le (by rw [zat,List.length_map,List.length_map];omega)) (by rw [zat];exact zb1 _ _ (by rw [List.length_map,List.length_map];omega)) ?_
    conv=>whnf
    refine gGs ?_
    conv=>whnf
    exact⟨(),trivial,⟨rfl,rfl,trivial⟩,SubM.sl⟩
   ·rintro ⟨⟩ -
    refine gGw ?_
    subst hq hr
    exact zx5 rfl rfl (ldA zaa (by repeat constructor) rfl rfl (by rw [List.length_map];exact hfl)) rfl (ldA zaa (by repeat constructor) rfl rfl (by rw [List.length_map];exact hdl)) (fun w' hm=>⟨_,⟨rfl,rfl⟩,hm.sublist (List.nil_sublist _)⟩)
end
section
def DyU (s:Sd) (q:Sq) (V:Except Int (Nat × List Int × List Int)) (e:Ending) (m':Mem):Prop:=(∃ (q':Sq) (r:List Int) (k:Nat) (A:Option Addr) (c:Nat),V=.ok (q'.a,r.take k,r.drop k)∧q'.o=q.o∧SqOk s q'∧q.a≤q'.a∧k≤r.length∧r.length≤c∧LenL r∧e=.returned (.tuple #[.slice A k c,.slice (cutA A c k 1) (r.length-k) (c-k),.int .i64 0])∧m'=IR A c r.length r::SdM s q') ∨
 ((∃ y,V=.error y)∧∃ (z:Int) (q':Sq),z≠0∧SqOk s q'∧e=.returned (.tuple #[.slice none 0 0,.slice none 0 0,.int .i64 z])∧m'=SdM s q')
theorem DyU.no {s:Sd} {q q':Sq} {V:Except Int (Nat × List Int × List Int)} {y z:Int} (hV:V=.error y) (hz:z≠0) (hq:SqOk s q'):DyU s q V (.returned (.tuple #[.slice none 0 0,.slice none 0 0,.int .i64 z])) (SdM s q'):=.inr ⟨⟨y,hV⟩,z,q',hz,hq,rfl,rfl⟩
def zva (L:List UInt8) (a b:Nat):DRes→Except Int (Nat × List Int × List Int)
 | .error e=>.error e
 | .ok (a4,l) =>
  if zfx l false then
   match rowX L l (a+b+258) (zfW L) a4 [] with
   | .error e=>.error e
   | .ok (a5,r) =>
    if r.getD 256 0=0 then .error 151
    else if zfx (r.take (a+257)) false&&zfx (r.drop (a+257)) true then .ok (a5,r.take (a+257),r.drop (a+257)) else .error 151
  else .error 151
theorem zvO {A:Option Addr} (h:Pl A) (m:Nat):cutA A m (Int.toNat 0) ty3.cells=A:=by
 obtain ⟨b,o,rfl⟩:=h
 unfold cutA
 split
 ·rfl
 ·rfl
attribute [local irreducible] Br Rn RnU Cl RdG CpG Ld Rd Lp Dr Oth Cut fin Fits Eng.Enters Md NA
theorem zmT:Eng.Enters Tryz.prog 229:=zab fun _ _=>by kernel_rfl
set_option maxHeartbeats 2000000 in
theorem zug (s:Sd) (q:Sq) (w:World) (hok:SqOk s q) (hm:MemOk w (Foot (SdM s q)) (SdM s q) w) :
  Ctr Tryz.prog 229 [.pointer (some ⟨s.S,0,none⟩)] (SdM s q) (DyU s q (zvb s.d.L q.a)) w:=by
 have hok0:=hok
 obtain ⟨hm8,hd,ha,ho,hmo⟩:=hok
 have hd0:=hd
 obtain ⟨hL,hdl,hc⟩:=hd
 refine enter (cx:=CXS 127 [] w (Foot (SdM s q))) [(0,.pointer (some ⟨s.S,0,none⟩))] zaa Tryz.func229 rfl rfl rfl rfl hm ?_
 generalize hV:zvb s.d.L q.a=V
 unfold zvb at hV
 refine gGw ?_
 refine⟨zaM,zac (m1:=BdM s.d (q.a)) (by repeat constructor) (fun w' hm'=>zbt s.d (q.a) 5 w' hd0 (by omega) (by omega) hm'.part) ?_⟩
 rintro e m' (⟨h1,rfl,rfl⟩|⟨h1,rfl,rfl⟩)
 rotate_left
 ·rw [zbP h1] at hV
  refine gGw ?_
  refine br_n (br_f rfl ?_)
  refine gGw ?_
  exact fin3 rfl rfl rfl rfl (fun w' hm=>⟨SdM s { q with a:=q.a },.no hV.symm (by decide) (hok0.at_ (by omega)),hm.sl⟩)
 rw [zbO h1] at hV
 simp only at hV
 have hba:=zeQ hL (q.a) 5
 generalize numU ((s.d.L.drop (q.a)).take 5)=a at hba hV ⊢
 refine gGw ?_
 refine br_n (br_t rfl ?_)
 refine gGw ?_
 refine⟨zaM,zac (m1:=BdM s.d (q.a+5)) (by repeat constructor) (fun w' hm'=>zbt s.d (q.a+5) 5 w' hd0 (by omega) (by omega) hm'.part) ?_⟩
 rintro e m' (⟨h2,rfl,rfl⟩|⟨h2,rfl,rfl⟩)
 rotate_left
 ·rw [zbP h2] at hV
  refine gGw ?_
  refine br_n (br_f rfl ?_)
  refine gGw ?_
  exact fin3 rfl rfl rfl rfl (fun w' hm=>⟨SdM s { q with a:=q.a+5 },.no hV.symm (by decide) (hok0.at_ (by omega)),hm.sl⟩)
 rw [zbO h2] at hV
 simp only at hV
 have hbb:=zeQ hL (q.a+5) 5
 generalize numU ((s.d.L.drop (q.a+5)).take 5)=b at hbb hV ⊢
 refine gGw ?_
 refine br_n (br_t rfl ?_)
 refine gGw ?_
 refine⟨zaM,zac (m1:=BdM s.d (q.a+5+5)) (by repeat constructor) (fun w' hm'=>zbt s.d (q.a+5+5) 4 w' hd0 (by omega) (by omega) hm'.part) ?_⟩
 rintro e m' (⟨h3,rfl,rfl⟩|⟨h3,rfl,rfl⟩)
 rotate_left
 ·rw [zbP h3] at hV
  refine gGw ?_
  refine br_n (br_f rfl ?_)
  refine gGw ?_
  exact fin3 rfl rfl rfl rfl (fun w' hm=>⟨SdM s { q with a:=q.a+5+5 },.no hV.symm (by decide) (hok0.at_ (by omega)),hm.sl⟩)
 rw [zbO h3] at hV
 simp only at hV
 have hbcn:=zeQ hL (q.a+5+5) 4
 generalize numU ((s.d.L.drop (q.a+5+5)).take 4)=cn at hbcn hV ⊢
 refine gGw ?_
 refine br_n (br_t rfl ?_)
 refine gGw ?_
 refine And.intro (fun _=>zbr (by omega)) ?_
 refine gGw ?_
 by_cases hbig:286<a+257∨30<b+1
 ·have hor:(decide ((286:Int)<(a:Int)+257)||decide ((30:Int)<(b:Int)+1))=true:=by
   rcases hbig with h|h
   ·rw [decide_eq_true (show (286:Int)<(a:Int)+257 by omega)];rfl
   ·rw [decide_eq_true (show (30:Int)<(b:Int)+1 by omega),Bool.or_true]
  rw [if_pos hbig] at hV
  refine br_t hor ?_
  refine gGw ?_
  exact fin3 rfl rfl rfl rfl (fun w' hm=>⟨SdM s { q with a:=q.a+5+5+4 },.no hV.symm (by decide) (hok0.at_ (by omega)),hm.sl⟩)
 rw [if_neg hbig] at hV
 refine br_f (by rw [decide_eq_false (by omega),decide_eq_false (by omega)];rfl) ?_
 replace hV:zva s.d.L a b (zpW s.d.L (cn+4) 0 (q.a+5+5+4) (List.replicate 19 0))=V:=by unfold zva;exact hV
 refine gGw ?_
 refine⟨ordL.map (Value.int .i64),⟨by kernel_rfl,by kernel_rfl,by kernel_rfl⟩,?_⟩
 intro oB
 refine gGw ?_
 refine zc2 zaa rfl rfl rfl rfl rfl (by decide) (by decide) (by decide) (fun lB=>?_)
 refine gGw ?_
 refine lp zaa (γ:=Nat × Sq × List Int) (fun g=>g.1≤cn+4∧g.2.1.o=q.o∧SqOk s g.2.1∧q.a≤g.2.1.a∧g.2.2.length=19∧(∀ x∈g.2.2,0≤x∧x≤15)∧zva s.d.L a b (zpW s.d.L (cn+4-g.1) g.1 g.2.1.a g.2.2)=V)
  (fun g=>[(11,.int .i64 (g.1:Int)),(10,.slice (some ⟨lB,0,none⟩) 19 19),(9,.slice (some ⟨oB,0,none⟩) 19 19),(8,.int .u64 (cn:Nat)),(7,.int .u64 (b:Nat)),(5,.int .u64 (a:Nat)),(0,.pointer (some ⟨s.S,0,none⟩))])
  (fun g=>IR (some ⟨lB,0,none⟩) 19 19 g.2.2::.blk oB (.cells (ordL.map (Value.int .i64)).toArray 3)::SdM s g.2.1) (fun g=>cn+4-g.1) (0,{ q with a:=q.a+5+5+4 },List.replicate 19 0) ⟨Nat.zero_le _,rfl,hok0.at_ h3,by show q.a≤q.a+5+5+4;omega,rfl,(fun x hx=>by rw [(List.mem_replicate.1 hx).2];decide),hV⟩ ⟨rfl,rfl,rfl,rfl,rfl,rfl,rfl,trivial⟩ SubM.sl ?_
 clear hV
 rintro ⟨i,p,l⟩ ⟨hi,hpo,hp,hqp,hll,hlx,hV⟩
 simp only at hi hpo hp hqp hll hlx hV
 dsimp only
 have hpa:=hp.a
 refine gGw ?_
 refine br_d (fun hlt=>?_) (fun hge=>?_)
 ·have hob:=zvH i (by omega)
  have hon:=zrH i (by omega)
  rw [show cn+4-i=(cn+4-(i+1))+1 by omega,zpW] at hV
  generalize ordL.getD i 0=oi at hob hon hV
  refine gGw ?_
  refine⟨zaM,zac (m1:=BdM s.d p.a) (by repeat constructor) (fun w' hm'=>zbt s.d p.a 3 w' hd0 hpa (by omega) hm'.part) ?_⟩
  rintro e m' (⟨h4,rfl,rfl⟩|⟨h4,rfl,rfl⟩)
  rotate_left
  ·rw [zbP h4] at hV
   refine gGw ?_
   refine br_n (br_f rfl ?_)
   refine gGw ?_
   exact fin3 rfl rfl rfl rfl (fun w' hm=>⟨SdM s p,.no hV.symm (by decide) hp,hm.sl⟩)
  rw [zbO h4] at hV
  simp only at hV
  have hbm:=zeQ hL p.a 3
  generalize numU ((s.d.L.drop p.a).take 3)=m at hbm hV ⊢
  refine gGw ?_
  refine br_n (br_t rfl ?_)
  refine gGw ?_
  refine And.intro ⟨by omega,by omega,Pl.mk _ _⟩ ?_
  conv=>whnf
  refine zai (ld1 (off:=0+i) zaa (by repeat constructor) rfl rfl hon) ?_
  refine gGw ?_
  refine And.intro ⟨by omega,by omega,Pl.mk _ _⟩ ?_
  conv=>whnf
  refine zaw (off:=oi.toNat) (xs':=(l.set oi.toNat (m:Int)).map (.int .i64)) zaa rfl (by repeat constructor) rfl rfl (by show oi.toNat+1≤19*1;omega) Nat.one_pos (by rw [List.map_set];rfl) ?_
  refine gGw ?_
  refine⟨(i+1,{ p with a:=p.a+3 },l.set oi.toNat (m:Int)),⟨by show i+1≤cn+4;omega,hpo,hp.at_ h4,by show q.a≤p.a+3;omega,by show (l.set oi.toNat (m:Int)).length=19;rw [List.length_set];exact hll,fun y hy=>?_,hV⟩,by show cn+4-(i+1)<cn+4-i;omega,⟨congrArg (fun x=>some (Value.int .i64 x)) (by push_cast;rfl),rfl,rfl,rfl,rfl,rfl,rfl,trivial⟩,SubM.sl⟩
  rcases List.mem_or_eq_of_mem_set hy with hy|rfl
  ·exact hlx y hy
  ·omega
 have ei:i=cn+4:=by omega
 subst ei
 rw [Nat.sub_self,zpW,zva] at hV
 have hlL:LenL l:=⟨hlx,by omega⟩
 refine gGw ?_
 refine⟨zew,zae _ (fun w' hm'=>zhU l false (some ⟨lB,0,none⟩) 19 19 w' hll (rowI (hm'.ok (IR (some ⟨lB,0,none⟩) 19 19 l) (List.mem_cons_self ..))) hlL) ?_⟩
 refine gGw ?_
 refine br_n (br (fun hcd=>?_) (fun hcd=>?_))
 rotate_left
 ·rw [if_neg (by rw [hcd];decide)] at hV
  refine gGw ?_
  exact fin3 rfl rfl rfl rfl (fun w' hm=>⟨SdM s p,.no hV.symm (by decide) hp,hm.sl⟩)
 rw [if_pos hcd] at hV
 have e9:(a:Int)+(b:Int)+258=((a+b+258:Nat):Int):=by omega
 refine gGw ?_
 rw [e9]
 refine⟨zmQ,zac (m1:=SdM s p) (by repeat constructor) (fun w' hm'=>(zuc s p l (some ⟨lB,0,none⟩) 19 19 (a+b+258) w' hll rfl (by omega) hp hlL (stb (r:=[IR (some ⟨lB,0,none⟩) 19 19 l,.blk oB (.cells (ordL.map (Value.int .i64)).toArray 3)]) hm' (fun w'' hm''=>rowI (hm''.ok (IR (some ⟨lB,0,none⟩) 19 19 l) (List.mem_cons_self ..)))) hm'.part).ex) ?_⟩
 rintro e m' ⟨⟨q2,r,rA,rc,he,hq2o,hq2,hpq,hrl,hrx,rfl,rfl⟩|⟨⟨y,he⟩,z,q2,hz,hq2,rfl,rfl⟩,w9,hok9⟩
 rotate_left
 ·rw [he] at hV
  refine gGw ?_
  refine br_n (br_f (decide_eq_false hz) ?_)
  refine gGw ?_
  exact fin3 rfl rfl rfl rfl (fun w' hm=>⟨SdM s q2,.no hV.symm hz hq2,hm.sl⟩)
 rw [he] at hV
 simp only at hV
 rw [← hrl] at hok9 ⊢
 have hr9:=hok9 _ (List.mem_cons_self ..)
 have hpl:Pl rA:=zft hr9 (by rw [List.length_map];omega)
 have hcap:r.length≤rc:=zeJ hr9
 refine gGw ?_
 refine br_n (br_t rfl ?_)
 conv=>whnf
 refine zao zaa mixed (by kernel_rfl) rfl ?_;conv=>whnf
 refine gG0 ?_
 refine And.intro ⟨by omega,by omega,by omega,.inr hpl⟩ ?_
 refine gGw ?_
 refine And.intro ⟨by omega,by omega,by omega,.inr hpl⟩ ?_
 refine gGw ?_
 rw [zvO hpl,show ((a:Int)+257).toNat=a+257 by omega,show a+257-Int.toNat 0=a+257 from rfl,show rc-Int.toNat 0=rc from rfl,show ((r.length:Nat):Int).toNat=r.length from rfl]
 refine And.intro ⟨by omega,by omega,hpl⟩ ?_
 conv=>whnf
 refine zai (ldR zaa (by repeat constructor) rfl rfl (zbg (xs:=r) (j:=256) (by omega))) ?_
 refine gGw ?_
 have hLr:LenL r:=⟨hrx,by omega⟩
 have hLt:LenL (r.take (a+257)):=⟨fun x hx=>hrx x (List.mem_of_mem_take hx),by rw [List.length_take];omega⟩
 have hLd:LenL (r.drop (a+257)):=⟨fun x hx=>hrx x (List.mem_of_mem_drop hx),by rw [List.length_drop];omega⟩
 refine br_d (fun h0=>?_) (fun h0=>?_)
 ·rw [if_pos h0] at hV
  refine gGw ?_
  refine br_t rfl ?_
  refine gGw ?_
  refine br_t rfl ?_
  refine gGw ?_
  exact fin3 rfl rfl rfl rfl (fun w' hm=>⟨SdM s q2,.no hV.symm (by decide) hq2,hm.sl⟩)
 rw [if_neg h0] at hV
 refine gGw ?_
 refine⟨zew,zae _ (fun w' hm'=>zhU (r.take (a+257)) false rA rc (a+257) w' (by rw [List.length_take];omega) (by have h:=IntsIn.sub (rowI (hm'.ok (IR rA rc r.length r) (by simp))) rc 0 (a+257) (by omega) hcap;exact zvO hpl rc ▸ h) hLt) ?_⟩
 refine gGw ?_
 refine br_n (br (fun hk1=>?_) (fun hk1=>?_))
 rotate_left
 ·rw [hk1,Bool.false_and,if_neg (by decide)] at hV
  refine gGw ?_
  refine br_t rfl ?_
  refine gGw ?_
  exact fin3 rfl rfl rfl rfl (fun w' hm=>⟨SdM s q2,.no hV.symm (by decide) hq2,hm.sl⟩)
 rw [hk1,Bool.true_and] at hV
 refine gGw ?_
 refine⟨zew,zae _ (fun w' hm'=>zhU (r.drop (a+257)) true (cutA rA rc (a+257) 1) (rc-(a+257)) (r.length-(a+257)) w' (by rw [List.length_drop]) (by have h:=IntsIn.sub (rowI (hm'.ok (IR rA rc r.length r) (by simp))) rc (a+257) (r.length-(a+257)) (by omega) hcap;rwa [List.take_of_length_le (by rw [List.length_drop];omega)] at h) hLd) ?_⟩
 refine gGw ?_
 refine br_n (br (fun hk2=>?_) (fun hk2=>?_))
 rotate_left
 ·rw [if_neg (by rw [hk2];decide)] at hV
  refine gGw ?_
  exact fin3 rfl rfl rfl rfl (fun w' hm=>⟨SdM s q2,.no hV.symm (by decide) hq2,hm.sl⟩)
 rw [if_pos hk2] at hV
 refine gGw ?_
 exact fin3 rfl rfl rfl rfl (fun w' hm=>⟨IR rA rc r.length r::SdM s q2,.inl ⟨q2,r,a+257,rA,rc,hV.symm,hq2o.trans hpo,hq2,by omega,by omega,hcap,hLr,rfl,rfl⟩,hm.sl⟩)
end
section
def KZ (q:Sq) (V:Except Int (Nat × List UInt8)) (z:Int) (q':Sq):Prop:=(z=0∧V=.ok (q'.a,q'.o)∧q.a≤q'.a)∨(z≠0∧∃ y,V=.error y)
theorem KR.one {s:Sd} {q:Sq} {V:Except Int (Nat × List UInt8)} {e:Ending} {m':Mem} (h:KR s q V e m'):∃ (z:Int) (q':Sq),KZ q V z q'∧SqOk s q'∧e=.returned (.int .i64 z)∧m'=SdM s q':=by
 rcases h with ⟨q',h1,h2,h3,h4,h5⟩|⟨h1,z,q',h2,h3,h4,h5⟩
 ·exact⟨0,q',.inl ⟨rfl,h1,h3⟩,h2,h4,h5⟩
 ·exact⟨z,q',.inr ⟨h2,h1⟩,h3,h4,h5⟩
def BkR (s:Sd) (q:Sq) (V:Except Int (Bool × Nat × List UInt8)) (e:Ending) (m':Mem):Prop:=∃ (kd:IntKind) (k f t n z:Int) (last:Bool) (q':Sq),SqOk s q'∧e=.returned (.tuple #[.agg #[.int kd k,.bool last,.int .i64 f,.int .i64 t,.int .i64 n],.int .i64 z])∧m'=SdM s q' ∧
 ((z=0∧V=.ok (last,q'.a,q'.o)∧q.a<q'.a)∨(z≠0∧∃ y,V=.error y))
def blkV (last:Nat):Except Int (Nat × List UInt8)→Except Int (Bool × Nat × List UInt8)
 | .error e=>.error e
 | .ok (a3,o2)=>.ok (decide (last=1),a3,o2)
theorem KZ.blk {q q1 q':Sq} {V:Except Int (Nat × List UInt8)} {W:Except Int (Bool × Nat × List UInt8)} {z:Int} {last:Nat} {b:Bool} (h:KZ q V z q') (hW:blkV last V=W) (hb:b=decide (last=1)) (hq:q1.a<q.a):(z=0∧W=.ok (b,q'.a,q'.o)∧q1.a<q'.a)∨(z≠0∧∃ y,W=.error y):=by
 subst hW hb
 rcases h with ⟨h1,rfl,h3⟩|⟨h1,y,rfl⟩
 ·exact .inl ⟨h1,rfl,by omega⟩
 ·exact .inr ⟨h1,y,rfl⟩
theorem zsj:LenL fixL:=⟨by unfold fixL;intro x hx;obtain ⟨i,_,rfl⟩:=List.mem_map.1 hx;split<;>(try split)<;>omega,by rw [zkW];omega⟩
theorem zsl:LenL fixD:=⟨by decide,by rw [zkX];omega⟩
theorem LenL.take {l:List Int} (h:LenL l) (k:Nat):LenL (l.take k):=⟨fun x hx=>h.1 x (List.mem_of_mem_take hx),by have:=h.2;rw [List.length_take];omega⟩
theorem LenL.drop {l:List Int} (h:LenL l) (k:Nat):LenL (l.drop k):=⟨fun x hx=>h.1 x (List.mem_of_mem_drop hx),by have:=h.2;rw [List.length_drop];omega⟩
theorem IntsIn.take_ {k:IntKind} {w:World} {p:Option Addr} {xs ys:List Int} (h:IntsIn k w p (xs++ys)):IntsIn k w p xs:=by
 intro hn
 obtain ⟨b,o,rfl,hc⟩:=h (by simp;omega)
 refine⟨b,o,rfl,fun i hi=>?_⟩
 have:=hc i (by simp;omega)
 rwa [List.getD,List.getElem?_append_left hi,← List.getD] at this
attribute [local irreducible] Br Rn RnU Cl RdG CpG Ld Rd Lp Dr Oth Cut fin Fits Eng.Enters Md NA
theorem zki:Eng.Enters Tryz.prog 211:=zab fun _ _=>by kernel_rfl
set_option maxHeartbeats 2000000 in
theorem zpv (s:Sd) (q:Sq) (w:World) (hok:SqOk s q) (hm:MemOk w (Foot (SdM s q)) (SdM s q) w) :
  Ctr Tryz.prog 211 [.pointer (some ⟨s.S,0,none⟩)] (SdM s q) (BkR s q (zoZ s.d.L s.most q.a q.o)) w:=by
 have hok0:=hok
 obtain ⟨hm8,hd,ha,ho,hmo⟩:=hok
 have hd0:=hd
 obtain ⟨hL,hdl,hc⟩:=hd
 refine enter (cx:=CXS 105 [] w (Foot (SdM s q))) [(0,.pointer (some ⟨s.S,0,none⟩))] zaa Tryz.func211 rfl rfl rfl rfl hm ?_
 generalize hV:zoZ s.d.L s.most q.a q.o=V
 unfold zoZ at hV
 refine gGw ?_;(repeat ((first|refine .mk fun Ap capp=>?_|intro _);(conv=>whnf);refine gG0 ?_))
 rename_i bR bB
 refine⟨zaM,zac (m1:=BdM s.d q.a) (by repeat constructor) (fun w' hm'=>zbt s.d q.a 1 w' hd0 (by omega) (by omega) hm'.part) ?_⟩
 rintro e m' (⟨h1,rfl,rfl⟩|⟨h1,rfl,rfl⟩)
 rotate_left
 ·rw [zbP h1] at hV
  refine gGw ?_
  refine br_n (br_f rfl ?_)
  refine gGw ?_
  exact zbV rfl rfl (ldN zaa (by repeat constructor) rfl rfl rfl rfl) rfl (fun w' hm=>⟨SdM s q,⟨.i64,0,_,_,_,120,false,q,hok0,rfl,rfl,.inr ⟨by decide,_,hV.symm⟩⟩,hm.sl⟩)
 rw [zbO h1] at hV
 simp only at hV
 generalize numU ((s.d.L.drop q.a).take 1)=last at hV ⊢
 refine gGw ?_
 refine br_n (br_t rfl ?_)
 refine gGw ?_
 refine⟨zaM,zac (m1:=BdM s.d (q.a+1)) (by repeat constructor) (fun w' hm'=>zbt s.d (q.a+1) 2 w' hd0 (by omega) (by omega) hm'.part) ?_⟩
 rintro e m' (⟨h2,rfl,rfl⟩|⟨h2,rfl,rfl⟩)
 rotate_left
 ·rw [zbP h2] at hV
  refine gGw ?_
  refine br_n (br_f rfl ?_)
  refine gGw ?_
  exact zbV rfl rfl (ldN zaa (by repeat constructor) rfl rfl rfl rfl) rfl (fun w' hm=>⟨SdM s { q with a:=q.a+1 },⟨.i64,0,_,_,_,120,false,{ q with a:=q.a+1 },hok0.at_ (by omega),rfl,rfl,.inr ⟨by decide,_,hV.symm⟩⟩,hm.sl⟩)
 rw [zbO h2] at hV
 simp only at hV
 have hbk:=zeQ hL (q.a+1) 2
 generalize numU ((s.d.L.drop (q.a+1)).take 2)=kind at hbk hV ⊢
 replace hV:blkV last (zwX s.d.L s.most kind (q.a+1+2) q.o)=V:=by rw [← hV];unfold blkV;rfl
 obtain ⟨p,hpq⟩:∃ p:Sq,p={ q with a:=q.a+1+2 }:=⟨_,rfl⟩
 have hp:SqOk s p:=hpq ▸ hok0.at_ h2
 have epa:p.a=q.a+1+2:=by rw [hpq]
 have epo:p.o=q.o:=by rw [hpq]
 have hpm:=hp.m
 have hpo:=hp.o
 have hlt:q.a<p.a:=by omega
 have hlb:decide ((last:Int)=1)=decide (last=1):=by
  by_cases h:last=1
  ·rw [decide_eq_true h,decide_eq_true (by omega)]
  ·rw [decide_eq_false h,decide_eq_false (by omega)]
 rw [← epa,← epo] at hV
 unfold zwX at hV
 have hcut:∀ m1:Mem,BdM s.d (q.a+1+2)++.blk s.S (.cells [.pointer (some ⟨s.d.B,0,none⟩),.slice q.A q.o.length q.c,.int .i64 s.most].toArray 318)::BR8 q.A q.c q.o.length q.o::m1=BdM s.d (q.a+1+2)++.blk s.S (.cells [.pointer (some ⟨s.d.B,0,none⟩),.slice q.A q.o.length q.c,.int .i64 s.most].toArray 318)::BR8 q.A q.c q.o.length q.o::m1:=fun _=>rfl
 clear hcut
 refine gGw ?_
 refine br_n (br_t rfl ?_)
 refine gGw ?_
 refine br_d (fun hk0=>?_) (fun hk0=>?_)
 ·rw [if_pos (by omega)] at hV
  refine gGw ?_
  refine⟨zi3,zac (m1:=SdM s p) (by rw [hpq];exact (by repeat constructor)) (fun w' hm'=>zmP s p w' hp hm'.part) ?_⟩
  intro e m' hKR
  obtain ⟨z,q5,hZ,hq5,rfl,rfl⟩:=hKR.one
  have h5o:=hq5.o
  have h5a:=hq5.a
  refine gGw ?_
  exact zbV rfl rfl (ldN zaa (by repeat constructor) rfl rfl rfl rfl) rfl (fun w' hm=>⟨SdM s q5,⟨.i64,(kind:Nat),_,_,_,z,decide ((last:Int)=1),q5,hq5,rfl,rfl,hZ.blk hV hlb hlt⟩,hm.sl⟩)
 rw [if_neg (by omega)] at hV
 refine gGw ?_
 refine br_d (fun hk1=>?_) (fun hk1=>?_)
 ·rw [if_pos (by omega)] at hV
  unfold zvL at hV
  have hfl:=zkW
  have hdl:=zkX
  have hfn:=zsj
  have hdn:=zsl
  refine gGw ?_
  refine⟨zkj,zac (m1:=[]) .nil (fun w' hm'=>zpw w') ?_⟩
  rintro e m' ⟨rfl,rfl⟩
  generalize fixL=L at hV hfl hfn ⊢
  generalize fixD=D at hV hdl hdn ⊢
  refine gGw ?_;(repeat ((first|refine .mk fun Ap capp=>?_|intro _);(conv=>whnf);refine gG0 ?_))
  rename_i bL bD
  refine zaO (b:=bL) (off:=0) (cs':=L.map (Value.int .i64)) zaa rfl (by repeat constructor) (by rw [zat,List.length_map];exact hfl) (by rw [zat];exact zbn _ _) (Nat.ble_eq_true_of_le (by rw [zat,List.length_map,hfl];decide)) (by rw [zat];exact zb1 _ _ (by rw [List.length_map,hfl];rfl)) ?_
  conv=>whnf
  refine zaO (b:=bD) (off:=0) (cs':=D.map (Value.int .i64)) zaa rfl (by repeat constructor) (by rw [zat,List.length_map];exact hdl) (by rw [zat];exact zbn _ _) (Nat.ble_eq_true_of_le (by rw [zat,List.length_map,hdl];decide)) (by rw [zat];exact zb1 _ _ (by rw [List.length_map,hdl];rfl)) ?_
  conv=>whnf
  refine zcD 3 zaa mixed (by kernel_rfl) rfl rfl ?_
  refine gGw ?_
  refine And.intro ⟨by omega,by omega,by omega,Pl.mk _ _⟩ ?_
  refine gGw ?_
  refine And.intro ⟨by omega,by omega,by omega,Pl.mk _ _⟩ ?_
  refine gGw ?_
  refine⟨zfs,zcj (SubM.torow (b:=bL) (n:=288) (by repeat constructor) (by rw [List.length_map];exact hfl) rfl) (zcj (SubM.torow (b:=bD) (n:=32) (by repeat constructor) (by rw [List.length_map];exact hdl) rfl) ?_)⟩
  refine zac (m1:=SdM s p) (R:=KR s p (zdI s.d.L L D s.most (zfW s.d.L) p.a p.o)) (by rw [hpq];exact (by repeat constructor)) ?_ ?_
  ·intro w' hm'
   refine zh0 s p L D (some ⟨bL,0,none⟩) (some ⟨bD,0,none⟩) 288 32 288 32 w' hfl hdl hp hfn hdn (stb hm' ?_) (stb hm' ?_) hm'.part
   ·intro w'' hm''
    exact rowI (hm''.ok _ (List.mem_cons_of_mem _ (List.mem_cons_self ..)))
   ·intro w'' hm''
    exact rowI (hm''.ok _ (List.mem_cons_self ..))
  intro e m' hKR
  obtain ⟨z,q5,hZ,hq5,rfl,rfl⟩:=hKR.one
  have h5o:=hq5.o
  have h5a:=hq5.a
  refine gGw ?_
  exact zbV rfl rfl (ldN zaa (by repeat constructor) rfl rfl rfl rfl) rfl (fun w' hm=>⟨SdM s q5,⟨.i64,(kind:Nat),_,_,_,z,decide ((last:Int)=1),q5,hq5,rfl,rfl,hZ.blk hV hlb hlt⟩,hm.sl⟩)
 rw [if_neg (by omega)] at hV
 refine gGw ?_
 refine br_d (fun hk2=>?_) (fun hk2=>?_)
 rotate_left
 ·rw [if_neg (by omega)] at hV
  have hZ:KZ p (.error 150) 150 p:=.inr ⟨by decide,_,rfl⟩
  refine gGw ?_
  exact zbV rfl rfl (ldN zaa (by repeat constructor) rfl rfl rfl rfl) rfl (fun w' hm=>⟨SdM s p,⟨.i64,(kind:Nat),_,_,_,150,decide ((last:Int)=1),p,hp,rfl,rfl,hZ.blk hV hlb hlt⟩,by rw [hpq];exact hm.sl⟩)
 rw [if_pos (by omega)] at hV
 unfold zoW at hV
 refine gGw ?_
 refine⟨zmT,zac (m1:=SdM s p) (by rw [hpq];exact (by repeat constructor)) (fun w' hm'=>zug s p w' hp hm'.part) ?_⟩
 rintro e m' (⟨q4,r,k,A,c,he,hq4o,hq4,hpq4,hkr,hrc,hLr,rfl,rfl⟩|⟨⟨y,he⟩,z,q5,hz,hq5,rfl,rfl⟩)
 rotate_left
 ·rw [he] at hV
  have hZ:KZ p (.error y) z q5:=.inr ⟨hz,_,rfl⟩
  have h5o:=hq5.o
  have h5a:=hq5.a
  refine gGw ?_
  refine br_f (decide_eq_false hz) ?_
  refine gGw ?_
  exact zbV rfl rfl (ldN zaa (by repeat constructor) rfl rfl rfl rfl) rfl (fun w' hm=>⟨SdM s q5,⟨.i64,(kind:Nat),_,_,_,z,decide ((last:Int)=1),q5,hq5,rfl,rfl,hZ.blk hV hlb hlt⟩,hm.sl⟩)
 rw [he] at hV
 simp only at hV
 refine gGw ?_
 rw [← hq4o] at hV
 refine br_t rfl ?_
 refine gGw ?_
 refine⟨zfs,?_⟩
 refine zac (m1:=SdM s q4) (R:=KR s q4 (zdI s.d.L (r.take k) (r.drop k) s.most (zfW s.d.L) q4.a q4.o)) (by repeat constructor) ?_ ?_
 ·intro w' hm'
  refine zh0 s q4 (r.take k) (r.drop k) A (cutA A c k 1) c (c-k) k (r.length-k) w' (by rw [List.length_take];omega) (by rw [List.length_drop]) hq4 (hLr.take k) (hLr.drop k) (stb hm' ?_) (stb hm' ?_) hm'.part
  ·intro w'' hm''
   have h:=rowI (hm''.ok (IR A c r.length r) (List.mem_cons_self ..))
   exact IntsIn.take_ (ys:=r.drop k) (by rw [List.take_append_drop];exact h)
  ·intro w'' hm''
   have h:=IntsIn.sub (rowI (hm''.ok (IR A c r.length r) (List.mem_cons_self ..))) c k (r.length-k) (by omega) hrc
   rwa [List.take_of_length_le (by rw [List.length_drop];omega)] at h
 intro e m' hKR
 obtain ⟨z,q5,hZ,hq5,rfl,rfl⟩:=hKR.one
 have h5o:=hq5.o
 have h5a:=hq5.a
 replace hlt:q.a<q4.a:=by omega
 refine gGw ?_
 exact zbV rfl rfl (ldN zaa (by repeat constructor) rfl rfl rfl rfl) rfl (fun w' hm=>⟨SdM s q5,⟨.i64,(kind:Nat),_,_,_,z,decide ((last:Int)=1),q5,hq5,rfl,rfl,hZ.blk hV hlb hlt⟩,hm.sl⟩)
end
section
def unpV (most:Int):Except Int (Nat × List UInt8)→Bool
 | .error _=>true
 | .ok (_,o)=>!decide ((o.length:Int)=most)
theorem fin4 {cx:Cx} {fn:Func} {R:Ending→World→Prop} {e:Env} {m:Mem} {t u s r:Tmp} (hr:fn.results=#[.tmp t,.tmp u,.tmp s,.tmp r]) {v v' v'' v3:Value} (hv:e.get t=some v) (hv':e.get u=some v') (hv'':e.get s=some v'') (hv3:e.get r=some v3) (h:∀ w,MemOk cx.w0 cx.S m w→R (.returned (.tuple #[v,v',v'',v3])) w):fin cx fn R .ret e m :=
 ⟨[v,v',v'',v3],by rw [hr];exact⟨v,[v',v'',v3],hv,rfl,v',[v'',v3],hv',rfl,v'',[v3],hv'',rfl,v3,[],hv3,rfl,rfl⟩,h⟩
attribute [local irreducible] Br Rn RnU Cl RdG CpG Ld Rd Lp Dr Oth Cut fin Fits Eng.Enters Md NA
set_option maxHeartbeats 2000000 in
theorem zmN:zc5 zhu:=by
 intro A c bs most w hb hbl hmo
 refine enter (cx:=CXS 54 [] w (Foot [])) [(0,.slice A bs.length c),(1,.int .i64 most)] zaa Tryz.func188 rfl rfl rfl rfl (MemOk.nil w _) ?_
 have h1:=fun m=>BytsIn.byts (cx:=CXS 54 [] w (Foot [])) (m:=m) hb zam
 have hLb:=zsQ bs
 have hLl:=zqw bs
 have hU:∃ R,zhS (zdl bs) most (zfW (zdl bs)) 0 []=R∧zhu bs most=unpV most R:=⟨_,rfl,by unfold zhu unpV;rfl⟩
 obtain ⟨R,hR,hU⟩:=hU
 rw [hU]
 refine gGw ?_
 refine br_f (by rw [decide_eq_false (by omega),decide_eq_false (by omega)];rfl) ?_
 refine gGw ?_
 refine⟨zo7,zac (m1:=[]) .nil (fun w' hm'=>(zv5 bs A c w' ((h1 []).in_ hm') (by omega)).ex) ?_⟩
 rintro e m' ⟨⟨B,d,rfl,rfl⟩,w9,hok9⟩
 rw [← hLl] at hok9 ⊢
 have hcap:(zdl bs).length≤d:=zeJ (hok9 _ (List.mem_cons_self ..))
 generalize zdl bs=L at hLb hLl hR hcap ⊢
 refine gGw ?_;(repeat ((first|refine .mk fun Ap capp=>?_|intro _);(conv=>whnf);refine gG0 ?_))
 rename_i dB sS
 obtain ⟨sd,hsd⟩:∃ sd:Sd,sd=⟨sS,most,⟨dB,B,d,L⟩⟩:=⟨_,rfl⟩
 have eL:sd.d.L=L:=by rw [hsd]
 have eM:sd.most=most:=by rw [hsd]
 have eS:sd.S=sS:=by rw [hsd]
 have hok0:SqOk sd ⟨none,0,[],0⟩:=by
  rw [hsd]
  exact⟨by show L.length%8=0;omega,⟨hLb,by show L.length≤160000;omega,hcap⟩,Nat.zero_le _,hmo.1,hmo.2⟩
 rw [← eL,← eM] at hR
 refine lp zaa (γ:=Sq × Nat × Option Addr × Nat × Nat × List Value) (fun g=>SqOk sd g.1∧sd.d.L.length+1≤g.2.1+g.1.a∧g.2.2.2.2.1≤g.1.a∧zhS sd.d.L sd.most g.2.1 g.1.a g.1.o=R)
  (fun g=>[(9,.slice g.2.2.1 g.2.2.2.2.1 g.2.2.2.1),(8,.pointer (some ⟨sd.S,0,none⟩))])
  (fun g=>.row g.2.2.1 g.2.2.2.1 g.2.2.2.2.1 226 5 g.2.2.2.2.2::SdM sd g.1) (fun g=>g.2.1) (⟨none,0,[],0⟩,zfW sd.d.L,none,0,0,[]) ⟨hok0,by show sd.d.L.length+1≤(sd.d.L.length+1)+0;omega,Nat.le_refl _,hR⟩ ⟨rfl,by rw [eS];rfl,trivial⟩ ?_ ?_
 ·rw [hsd]
  intro w' hm'
  exact SubM.row0 (SubM.refl _ _) _ _ w' (SubM.sel  (by repeat constructor) w' (SubM.row0 (SubM.refl _ _) 5 1 w' hm'))
 clear hR
 rintro ⟨q,f,lA,lc,n,xs⟩ ⟨hq,hf,hn,hR⟩
 simp only at hq hf hn hR
 dsimp only
 have hqa:=hq.a
 have hdl:=hq.d.len
 obtain ⟨f,rfl⟩:∃ f',f=f'+1:=⟨f-1,by omega⟩
 rw [zhS] at hR
 refine gGw ?_
 refine⟨zki,zac (m1:=SdM sd q) (by repeat constructor) (fun w' hm'=>zpv sd q w' hq hm'.part) ?_⟩
 rintro e m' ⟨kd,k,fr,to,nb,z,last,q5,hq5,rfl,rfl,⟨rfl,hB,hlt⟩|⟨hz,y,hB⟩⟩
 rotate_left
 ·rw [hB] at hR
  refine gGw ?_;(repeat ((first|refine .mk fun Ap capp=>?_|intro _);(conv=>whnf);refine gG0 ?_))
  refine br_n (br_f (decide_eq_false hz) ?_)
  refine gGw ?_
  exact fin4 rfl rfl rfl rfl rfl (fun w' hm=>⟨[],⟨⟨_,_,_,_,_,_,_,_,rfl,by rw [← hR,decide_eq_false hz];rfl⟩,rfl⟩,hm.sublist (List.nil_sublist _)⟩)
 have h5a:=hq5.a
 rw [hB] at hR
 simp only at hR
 refine gGw ?_;(repeat ((first|refine .mk fun Ap capp=>?_|intro _);(conv=>whnf);refine gG0 ?_))
 refine br_n (br_t rfl ?_)
 refine gGw ?_;(repeat ((first|refine .mk fun Ap capp=>?_|intro _);(conv=>whnf);refine gG0 ?_))
 refine br (fun hl=>?_) (fun hl=>?_)
 ·rw [if_pos hl] at hR
  conv=>whnf
  refine zao zaa mixed (by kernel_rfl) rfl ?_;conv=>whnf
  refine gG0 ?_
  refine fin4 rfl rfl rfl rfl rfl (fun w' hm=>⟨[],⟨⟨_,_,_,_,_,_,_,_,rfl,?_⟩,rfl⟩,hm.sublist (List.nil_sublist _)⟩)
  rw [← hR]
  rfl
 ·rw [if_neg (by rw [hl];decide)] at hR
  refine gGw ?_
  exact⟨(q5,f,Ap,capp,n+1,_),⟨hq5,by show sd.d.L.length+1≤f+q5.a;omega,by show n+1≤q5.a;omega,hR⟩,by show f<f+1;omega,⟨rfl,rfl,trivial⟩,SubM.sl⟩
end
end Go.Proofs.YtlmgelmloddfgaaGreat
namespace Go.Proofs.YtlmgelmloddfgaaGreat
open Go Go.ChangeShapes Go.WideShapes Go.ChangeAt Go.RowKit Go.Deep Eng
namespace Row15
theorem own:ownKnob Tryz.prog.godebug=Option.none:=by kernel_rfl
theorem zkM:laidOutB Tryz.prog=true:=by kernel_rfl
theorem u_u8:Tryz.prog.underlying 5=some (.int .u8):=by kernel_rfl
theorem zqR:Tryz.prog.underlying 3=some (.int .i64):=by kernel_rfl
theorem zxx:Tryz.prog.underlying 4=some .bool:=by kernel_rfl
theorem zqS:Tryz.prog.underlying 22=some (.slice 5):=by kernel_rfl
theorem c_u8:Tryz.prog.cellsOf 5=1:=by kernel_rfl
theorem b_u8:Tryz.prog.bytesOf 5=1:=by kernel_rfl
variable {H:Type} {enc:TypeId × Value→H} {w:World}
theorem zrO {k:IntKind} {t e:TypeId} {base fuel:Nat} {sp:Nat→Bool} {hd:Bool} {c:Value} {x:DataW H × List MemPlace} (ht:Tryz.prog.underlying t=some (.slice e)) (he:Tryz.prog.underlying e=some (.int k)) (hc:Tryz.prog.cellsOf e=1)
  (h:DataW.trod enc Tryz.prog w base sp hd fuel t [c]=some x) (hb:1≤Tryz.prog.bytesOf e) (hz:∀ n∈x.1.weights Tryz.prog t,n≤reachBytes) :
  ∃ A cap,∃ xs:List Int,c=.slice A xs.length cap∧xs.length≤cap∧xs.length≤140737488355328∧(∀ x∈xs,(Lit.int k x).wf=true)∧IntsIn k w A xs:=by
 rcases open_slice1 ht hc h with ⟨h1,_⟩|⟨a,len,cap,m,n,V,D,Pl,h1,_,hl,_,hm,hx,hv⟩
 ·exact⟨none,0,[],by simpa using h1,Nat.le_refl _,by simp,fun x hx=>(by cases hx),fun h=>absurd h (by simp)⟩
 have hlm:len≤m:=by rw [hm];split<;>omega
 have hv':∀ i,i<len→∃ z:Int,V i=.int k z∧(Lit.int k z).wf=true:=fun i hi=>by
  obtain ⟨z,hz1,_,hz2⟩:=DataW.trod_int he (hv i (by omega)).2
  exact⟨z,by simpa using hz1,hz2⟩
 have hlen:((List.range len).map fun i=>match V i with|.int _ z=>z|_=>0).length=len:=by simp
 refine⟨some a,cap,(List.range len).map fun i=>match V i with|.int _ z=>z|_=>0,by rw [hlen];simpa using h1,by rw [hlen];exact hl,?_,fun x hx=>?_,fun hp=>?_⟩
 ·have:=hz ((len+(m-len))*Tryz.prog.bytesOf e) (by rw [hx];simp [DataW.weights,ht])
  have h2:len*1≤(len+(m-len))*Tryz.prog.bytesOf e:=Nat.mul_le_mul (by omega) hb
  simp only [reachBytes] at this
  rw [hlen]
  omega
 ·obtain ⟨i,hi,rfl⟩:=List.mem_map.1 hx
  obtain ⟨z,h1,h2⟩:=hv' i (List.mem_range.1 hi)
  simp only [h1];exact h2
 ·rw [hlen] at hp ⊢
  have h0:=(hv 0 (by omega)).1
  obtain ⟨b,o,s⟩:=a
  cases s with
  | some q =>
   exfalso
   simp only [Addr.add,World.cell?] at h0
   revert h0
   simp
   split<;>simp
  | none =>
   refine⟨b,o,rfl,fun i hi=>?_⟩
   obtain ⟨z,h1,_⟩:=hv' i hi
   have:=(hv i (by omega)).1
   rw [Addr.add_lit,h1] at this
   rw [List.getD_eq_getElem?_getD,List.getElem?_map,List.getElem?_range hi]
   simpa [h1] using this
theorem zvm {xs:List Int} (h:∀ x∈xs,(Lit.int .u8 x).wf=true):∃ bs:List UInt8,zag bs=xs:=by
 induction xs with
 | nil=>exact⟨[],rfl⟩
 | cons x r ih =>
  obtain ⟨bs,hb⟩:=ih fun y hy=>h y (List.mem_cons_of_mem _ hy)
  have hx:=(Lit.wf_int_iff .u8 x).1 (h x (List.mem_cons_self ..))
  have h1:0≤x∧x≤255:=hx
  refine⟨UInt8.ofNat x.toNat::bs,?_⟩
  show ((UInt8.ofNat x.toNat).toNat:Int)::zag bs=_
  rw [hb,UInt8.toNat_ofNat',Nat.mod_eq_of_lt (by omega),Int.toNat_of_nonneg (by omega)]
end Row15
end Go.Proofs.YtlmgelmloddfgaaGreat
namespace Go.Proofs.YtlmgelmloddfgaaGreat
open Go Go.ChangeShapes Go.WideShapes Go.ChangeAt Go.RowKit Go.Deep Eng
namespace CheckCounts
open Row15
theorem params:Tryz.f4.params.toList=[22,3,5]:=by kernel_rfl
/-- WHAT THE WALK GIVES, FOR EVERY ARGUMENT. -/
theorem zvh (H:Type) (enc:TypeId × Value→H) (W:World) (base:Nat) (args:Array Value) (ds gs:List (DataW H)) (before:List MemPlace)
  (hval:∀ (j:Nat) t v,Tryz.f4.params[j]?=some t→args[j]?=some v→Value.okWide Tryz.prog W .any base t v)
  (hW:DataW.Whole enc Tryz.prog Tryz.f4.params.toList Rows.checkCountsSpec.vars false W args.toList ds gs before)
  (hz:(DataW.weightsEach Tryz.prog (Tryz.f4.params.toList++(OpenSpec.ofChange Rows.checkCountsSpec).bare.plain.varTypes Tryz.prog) (ds++gs)).all (·≤reachBytes)=true) :
  Calls Tryz.prog 4 args W fun e W'=>∃ v,e=.returned v∧Rows.checkCountsSpec.post enc Tryz.prog Tryz.f4 false true false false W args v W':=by
 have hW':=hW
 obtain ⟨p,q,hA0,hV,rfl,hfz,hnd⟩:=hW
 have hA:DataW.TrodAll enc Tryz.prog W 0 (fun _=>true) true Tryz.f4.params.toList args.toList ds p:=hA0
 rw [params] at hA hz
 obtain ⟨v0,v1,v2,d0,d1,d2,p0,p1,p2,hargs,rfl,rfl,h0,h1,h2⟩:=trodAll_three hA
 subst hargs
 obtain ⟨a0,len0,cap0,rfl⟩:=okWide_slice zqS (hval 0 22 v0 (by kernel_rfl) rfl)
 obtain ⟨rfl,rfl⟩:=trodVars_none hV
 clear hA0 hA
 simp only [List.append_nil] at hW'
 have hlt:∀ x∈p0++p1++p2,x.block<W.heap.size:=fun x hx=>by simpa using hW'.lt x hx
 have h0k:=h0
 have h1k:=h1
 have h2k:=h2
 obtain ⟨n0,e0⟩:=h0
 obtain ⟨n1,e1⟩:=h1
 obtain ⟨n2,e2⟩:=h2
 have hz0:∀ n∈d0.weights Tryz.prog 22,n≤reachBytes:=fun n hn=>by
  have:=List.all_eq_true.1 hz n (DataW.weights_mem_each (j:=0) (t:=22) (d:=d0) rfl rfl n hn)
  simpa using this
 obtain ⟨A,c,xs,hcs,hcap,hn,hwf,hin⟩:=zrO zqS u_u8 c_u8 e0 (by rw [b_u8];omega) hz0
 injection hcs with ha hl hc
 subst ha hl hc
 obtain ⟨at_,hv1⟩:=okWide_int zqR (hval 1 3 v1 (by kernel_rfl) rfl)
 obtain ⟨xv,hv2⟩:=okWide_int u_u8 (hval 2 5 v2 (by kernel_rfl) rfl)
 subst hv1 hv2
 obtain ⟨z,hz1,hz2,hz3⟩:=DataW.trod_int u_u8 e2
 have hz1:xv=z:=by simpa [Value.cells] using hz1
 subst hz1
 have hxb:0≤xv∧xv≤255:=(Lit.wf_int_iff .u8 xv).1 hz3
 obtain ⟨v,rfl⟩:∃ v:UInt8,xv=(v.toNat:Int):=⟨UInt8.ofNat xv.toNat,by rw [UInt8.toNat_ofNat',Nat.mod_eq_of_lt (by omega),Int.toNat_of_nonneg hxb.1]⟩
 obtain ⟨bs,rfl⟩:=zvm hwf
 rw [zaf] at hcap hn
 have key:=zno zhu zmN bs at_ v a0 cap0 W hin hn hcap
 rw [← zaf bs] at key
 refine Calls.mono key fun e W' ⟨m',⟨he,hm0⟩,hm⟩=>?_
 subst he hm0
 have hb:Below W.heap.size W W':=(hm.fr.mono (T:=fun _=>False) (fun k _ ⟨r,hr,_⟩=>by cases hr)).below
 exact⟨_,rfl,_,_,_,[],p0++(p1++p2),[],hW',trodAll_mk1 (shut_bool zxx _),trodAll_mk3 (Below.trod zkM (by kernel_rfl) (of_decide_eq_true (by kernel_rfl)) h0k hb (fun x hx=>hlt x (by simp [hx]))) (Below.trod zkM (by kernel_rfl) (of_decide_eq_true (by kernel_rfl)) h1k hb (fun x hx=>hlt x (by simp [hx]))) (Below.trod zkM (by kernel_rfl) (of_decide_eq_true (by kernel_rfl)) h2k hb (fun x hx=>hlt x (by simp [hx]))),rfl,hb.frame _,fun h=>by cases h⟩
end CheckCounts
end Go.Proofs.YtlmgelmloddfgaaGreat
namespace Go.Proofs.YtlmgelmloddfgaaGreat
open Go Go.ChangeShapes Go.WideShapes Go.ChangeAt Go.RowKit
namespace CheckCounts
open Row15
noncomputable abbrev W0 (os:Os):World:=World.laidAll Tryz.prog os Rows.checkCountsRow.laid
abbrev A0:Array Value:=#[.slice none 0 0,.int .i64 0,.int .u8 0]
theorem reads (os:Os) {H:Type} (enc:TypeId × Value→H):DataW.whole enc Tryz.prog ((W0 os).forCall (fun _ _=>0) ⟨#[],A0,[]⟩).memory Tryz.f4.params.toList Rows.checkCountsSpec.vars false A0.toList 8 =
  some ([.nil,.lit (.int .i64 0),.lit (.int .u8 0)],[],[]):=by kernel_rfl
theorem zuU (os:Os):laidMet Tryz.prog Rows.checkCountsRow.laid ((W0 os).forCall (fun _ _=>0) ⟨#[],A0,[]⟩).memory:=laidMet_laidAll _ (by kernel_rfl) (by kernel_rfl)
theorem lifted (os:Os) (started:os.Started) (H:Type) (enc:TypeId × Value→H) (F:Stop.Interp) :
  ReturnsInHanded {} Tryz.checked os 4 .any ((OpenSpec.ofChange Rows.checkCountsSpec).preRow enc Tryz.prog Tryz.f4 Rows.checkCountsRow.domain false Rows.checkCountsRow.laid) (((OpenSpec.ofChange Rows.checkCountsSpec).at F).post enc Tryz.prog Tryz.f4 false true false false):=by
 refine returnsInHanded_of_row (C:=Tryz.checked) (s:=OpenSpec.ofChange Rows.checkCountsSpec) own started (by kernel_rfl) Tryz.func4
  (witness_row_at (enc:=enc) (C:=Tryz.checked) false (W0 os) A0 (World.laidAll_os _ _ _) (by kernel_rfl) (by kernel_rfl) (by kernel_rfl)
   (OpenSpec.preRow_of_cond 8 (reads os enc) (by kernel_rfl) (fun k hk=>by cases hk) (by kernel_rfl) (zuU os))) ?_
 intro W base args ds gs before hval hW _ _ hz _ _ _
 exact zvh H enc W base args ds gs before hval hW hz
theorem named:Tryz.prog.funcNamed Rows.checkCountsRow.func=some 4:=by kernel_rfl
theorem inst:Tryz.f4.isInstance Tryz.prog Rows.checkCountsRow.origin Rows.checkCountsRow.targs:=of_decide_eq_true (by kernel_rfl)
theorem wrap:Tryz.f4.isWrapper Tryz.prog Rows.checkCountsRow.wrapper Rows.checkCountsRow.mainSum:=by unfold Func.isWrapper;first|(rw [if_pos (by decide +kernel)];kernel_rfl)|(rw [if_neg (by decide +kernel)];exact⟨rfl,rfl⟩)
end CheckCounts
end Go.Proofs.YtlmgelmloddfgaaGreat
