/- Part of a proof: contracts of the functions that the law reaches. No statement of the seat is proved here. -/
import Derived.Test.YtlmgelmloddfgaaGreatCdM8
set_option linter.unusedVariables false
set_option linter.unusedSimpArgs false
set_option linter.unusedSectionVars false
set_option maxRecDepth 100000
namespace Go.Proofs.YtlmgelmloddfgaaGreat
open Go Go.RowKit Eng
theorem zhC (P:Nat→Bool) (i:Nat):bsF P i i=i:=by rw [bsF,if_neg (Nat.lt_irrefl _)]
theorem zla {P:Nat→Bool} {i j:Nat} (h:i<j) (hp:P ((i+j)/2)=true):bsF P i j=bsF P ((i+j)/2+1) j:=by rw [bsF,if_pos h,if_pos hp]
theorem zoT {P:Nat→Bool} {i j:Nat} (h:i<j) (hp:P ((i+j)/2)=false):bsF P i j=bsF P i ((i+j)/2):=by rw [bsF,if_pos h,if_neg (by rw [hp];decide)]
def symT (k:Int→Int) (a m b:Nat) (xs:List Int) (M s:Nat):List Int :=
 if M<M+m-s∧M+m-s<b then symF k M (M+m-s) b (if a<s∧s<M then symF k a s M (if s<m∧m<M+m-s then rotF m (m-s) (M+m-s-m) xs else xs) else (if s<m∧m<M+m-s then rotF m (m-s) (M+m-s-m) xs else xs))
 else (if a<s∧s<M then symF k a s M (if s<m∧m<M+m-s then rotF m (m-s) (M+m-s-m) xs else xs) else (if s<m∧m<M+m-s then rotF m (m-s) (M+m-s-m) xs else xs))
theorem zjn {k:Int→Int} {a m b:Nat} {xs:List Int} {M s:Nat} (n1:¬ m-a=1) (n2:¬ b-m=1) (h1:a<m) (h2:m<b) (hM:M=(a+b)/2)
  (hs:s=if M<m then bsF (fun c=>!decide (zaK k xs (M+m-1-c)<zaK k xs c)) (M+m-b) M else bsF (fun c=>!decide (zaK k xs (M+m-1-c)<zaK k xs c)) a m):symF k a m b xs=symT k a m b xs M s:=by
 subst hM
 rw [symF,if_neg n1,if_neg n2,dif_pos ⟨h1,h2⟩]
 simp only
 rw [← hs]
 rfl
attribute [local irreducible] Br Rn RnU Cl RdG CpG Ld Rd Lp Dr Oth Cut fin Fits Eng.Enters Md NA
def SymC (q:Ks) (A:Option Addr) (c N:Nat):Prop:=∀ (xs:List Int) (a m b:Nat) (w:World),b-a≤N→a<m→m<b→b≤xs.length→xs.length≤1048576→KsOk q xs→KIn q A c xs.length xs w→MemOk w (Foot (SoM q A c xs.length xs)) (SoM q A c xs.length xs) w →
 Ctr Tryz.prog 256 [.slice A xs.length c,.int .i64 (a:Int),.int .i64 (m:Int),.int .i64 (b:Int),q.fv] (SoM q A c xs.length xs) (fun e m'=>e=.returned (.tuple #[])∧m'=SoM q A c xs.length (symF q.key a m b xs)) w
set_option maxHeartbeats 2000000 in
theorem zqZ (q:Ks) (A:Option Addr) (c N:Nat) (ih:SymC q A c N):SymC q A c (N+1):=by
 intro xs a m b w hN h1 h2 h3 hl hq hK hm
 obtain ⟨n0,hn⟩:∃ n,n=xs.length:=⟨_,rfl⟩
 rw [← hn] at h3 hl hm hK ⊢
 refine enter (cx:=⟨Tryz.prog,220,w,Foot (SoM q A c n0 xs),tab,[],[221],[],[]⟩) [(0,.slice A n0 c),(1,.int .i64 (a:Int)),(2,.int .i64 (m:Int)),(3,.int .i64 (b:Int)),(4,q.fv)] zaa Tryz.func256 rfl rfl rfl rfl hm ?_
 have hpl:0<n0→Pl A:=fun h=>zc0 (hm.ok (IR A c n0 xs) (by simp)) h
 have hcmp:∀ (ys:List Int),ys.Perm xs→∀ i j,i<n0→j<n0→∀ w',MemOk w (Foot (SoM q A c n0 xs)) (SoM q A c n0 ys) w'→Calls Tryz.prog 221 #[.int .i64 (ys.getD i 0),.int .i64 (ys.getD j 0),.pointer (some ⟨q.B,0,none⟩)] w' fun e w''=>e=.returned (.int .i64 (zaK q.key ys i-zaK q.key ys j))∧Fr (fun _=>False) w' w'' :=
  fun ys hp i j hi hj w' hm'=>zvJ hq hK hp (by rw [hp.length_eq,← hn];exact hi) (by rw [hp.length_eq,← hn];exact hj) hm'
 refine gGw ?_
 refine br_d (fun hone=>?_) (fun hmore=>?_)
 ·have eY:symF q.key a m b xs=upF xs a (bsF (fun h=>decide (zaK q.key xs h<zaK q.key xs a)) m b-1-a):=by rw [symF,if_pos (by omega)]
  have hbd:=zhh (fun h=>decide (zaK q.key xs h<zaK q.key xs a)) m b (by omega)
  rw [eY]
  refine gGw ?_
  refine lp zaa (γ:=Nat × Nat) (fun g=>m≤g.1∧g.1≤g.2∧g.2≤b∧bsF (fun h=>decide (zaK q.key xs h<zaK q.key xs a)) (m) (b)=bsF (fun h=>decide (zaK q.key xs h<zaK q.key xs a)) g.1 g.2) (fun g=>[(10,.int .i64 (g.1:Int)),(11,.int .i64 (g.2:Int)),(0,.slice A n0 c),(1,.int .i64 (a:Int)),(2,.int .i64 (m:Int)),(3,.int .i64 (b:Int)),(4,q.fv)]) (fun _=>SoM q A c n0 xs) (fun g=>g.2-g.1) (m,b)
   ⟨Nat.le_refl _,by simp only;omega,Nat.le_refl _,rfl⟩ ⟨rfl,rfl,rfl,rfl,rfl,rfl,rfl,trivial⟩ (SubM.refl _ _) ?_
  rintro ⟨i,j⟩ ⟨hi,hij,hj,he⟩
  simp only at hi hij hj he
  dsimp only
  refine gGw ?_
  refine br_d (fun hlt=>?_) (fun hge=>?_)
  ·have hlt':i<j:=by omega
   have eH:((i:Int)+(j:Int))/2 ^ Int.toNat 1=(((i+j)/2:Nat):Int):=by
    show ((i:Int)+(j:Int))/2=_
    omega
   have hyes:=zla (P:=fun h=>decide (zaK q.key xs h<zaK q.key xs a)) hlt'
   have hno:=zoT (P:=fun h=>decide (zaK q.key xs h<zaK q.key xs a)) hlt'
   have hh:i≤(i+j)/2∧(i+j)/2<j:=by omega
   refine gGw ?_
   rw [eH]
   generalize (i+j)/2=h at hh hyes hno ⊢
   have g1:=zbm (xs:=xs) (j:=h) (by omega)
   have g0:=zbm (xs:=xs) (j:=a) (by omega)
   refine zar zaa mixed (by kernel_rfl) rfl ?_
   conv=>whnf
   (repeat ((first|refine stp (by (repeat constructor);first|done|fail) ?_|refine stn (by (repeat constructor);first|done|fail) ?_|refine sto (by (repeat constructor);first|done|fail) (by first|omega|(simp only;omega)|decide) ?_|(refine zaO (And.intro (fun hg=>?_) ?_);focus (simp only [Bool.and_eq_true,Bool.or_eq_true,Bool.not_eq_true',decide_eq_true_eq,decide_eq_false_iff_not] at hg;first|omega|exact zaf (by omega)|exact zak (by omega)|assumption))|refine .mk fun Ap capp=>?_|refine⟨?_,trivial⟩);conv=>whnf))
   refine And.intro ⟨by omega,by omega,hpl (by omega)⟩ ?_
   conv=>whnf
   refine⟨_,(ldR zaa (by repeat constructor) rfl rfl g1).g,?_⟩
   conv=>whnf
   (repeat ((first|refine stp (by (repeat constructor);first|done|fail) ?_|refine stn (by (repeat constructor);first|done|fail) ?_|refine sto (by (repeat constructor);first|done|fail) (by first|omega|(simp only;omega)|decide) ?_|(refine zaO (And.intro (fun hg=>?_) ?_);focus (simp only [Bool.and_eq_true,Bool.or_eq_true,Bool.not_eq_true',decide_eq_true_eq,decide_eq_false_iff_not] at hg;first|omega|exact zaf (by omega)|exact zak (by omega)|assumption))|refine .mk fun Ap capp=>?_|refine⟨?_,trivial⟩);conv=>whnf))
   refine And.intro ⟨by omega,by omega,hpl (by omega)⟩ ?_
   conv=>whnf
   refine⟨_,(ldR zaa (by repeat constructor) rfl rfl g0).g,?_⟩
   conv=>whnf
   (repeat ((first|refine stp (by (repeat constructor);first|done|fail) ?_|refine stn (by (repeat constructor);first|done|fail) ?_|refine sto (by (repeat constructor);first|done|fail) (by first|omega|(simp only;omega)|decide) ?_|(refine zaO (And.intro (fun hg=>?_) ?_);focus (simp only [Bool.and_eq_true,Bool.or_eq_true,Bool.not_eq_true',decide_eq_true_eq,decide_eq_false_iff_not] at hg;first|omega|exact zaf (by omega)|exact zak (by omega)|assumption))|refine .mk fun Ap capp=>?_|refine⟨?_,trivial⟩);conv=>whnf))
   refine⟨_,cpg zcU (fun _ w' hm'=>hcmp _ (List.Perm.refl _) (h) (a) (by omega) (by omega) w' hm'),?_⟩
   conv=>whnf
   (repeat ((first|refine stp (by (repeat constructor);first|done|fail) ?_|refine stn (by (repeat constructor);first|done|fail) ?_|refine sto (by (repeat constructor);first|done|fail) (by first|omega|(simp only;omega)|decide) ?_|(refine zaO (And.intro (fun hg=>?_) ?_);focus (simp only [Bool.and_eq_true,Bool.or_eq_true,Bool.not_eq_true',decide_eq_true_eq,decide_eq_false_iff_not] at hg;first|omega|exact zaf (by omega)|exact zak (by omega)|assumption))|refine .mk fun Ap capp=>?_|refine⟨?_,trivial⟩);conv=>whnf))
   refine br_d (fun hc=>?_) (fun hc=>?_)
   ·have hP:=hyes (by simp only [decide_eq_true_eq];omega)
    refine gGw ?_
    refine⟨(h+1,j),⟨by simp only;omega,by simp only;omega,hj,by rw [he,hP]⟩,by simp only;omega,⟨?_,rfl,rfl,rfl,rfl,rfl,rfl,trivial⟩,SubM.refl _ _⟩
    rfl
   ·have hP:=hno (by simp only [decide_eq_false_iff_not];omega)
    refine gGw ?_
    exact⟨(i,h),⟨hi,by simp only;omega,by simp only;omega,by rw [he,hP]⟩,by simp only;omega,⟨rfl,rfl,rfl,rfl,rfl,rfl,rfl,trivial⟩,SubM.refl _ _⟩
  ·have hie:i=j:=by omega
   subst hie
   rw [zhC] at he
   rw [he] at hbd ⊢
   refine gGw ?_
   refine lp zaa (γ:=Nat) (fun t=>t≤i-1-a) (fun t=>[(13,.int .i64 ((a+t:Nat):Int)),(10,.int .i64 (i:Int)),(0,.slice A n0 c),(1,.int .i64 (a:Int)),(2,.int .i64 (m:Int)),(3,.int .i64 (b:Int)),(4,q.fv)]) (fun t=>SoM q A c n0 (upF xs a t)) (fun t=>i-1-a-t) 0 (by omega) ⟨rfl,rfl,rfl,rfl,rfl,rfl,rfl,trivial⟩ (SubM.refl _ _) ?_
   rintro t ht
   dsimp only
   refine gGw ?_
   refine br_d (fun hlt=>?_) (fun hge=>?_)
   ·have hyl:(upF xs a t).length=n0:=by rw [(zjT xs a t (by omega)).length_eq,hn]
    have eS:upF xs a (t+1)=zbX (upF xs a t) (a+t) (a+t+1):=rfl
    generalize upF xs a t=ys at hyl eS ⊢
    have g1:=zbm (xs:=ys) (j:=a+t+1) (by omega)
    have g0:=zbm (xs:=ys) (j:=a+t) (by omega)
    have ea:((a+t:Nat):Int)+1=((a+t+1:Nat):Int):=by push_cast;rfl
    conv=>whnf
    refine zbc (γ:=Unit) (Tr.hs [0,1,2,3,4,5,6,7,8,10,11,12] (.alts 9 (.sq [13] (.hs [14] (.sq [15] (.hs [16] (.sq [17] .done))))) (.alts 13 (.sq [9] (.hs [14] (.sq [15] (.hs [16] (.sq [17] .done))))) .stop))) [] zaa mixed (by kernel_rfl) rfl (fun _=>True)
     (fun _=>[(13,.int .i64 ((a+t:Nat):Int)),(10,.int .i64 (i:Int)),(0,.slice A n0 c),(1,.int .i64 (a:Int)),(2,.int .i64 (m:Int)),(3,.int .i64 (b:Int)),(4,q.fv)]) (fun _=>SoM q A c n0 (zbX ys (a+t) (a+t+1))) (SubM.sel .nil) ?_ ?_
    ·refine gGw ?_
     refine And.intro ⟨by omega,by omega,hpl (by omega)⟩ ?_
     refine gGw ?_
     refine And.intro ⟨by omega,by omega,hpl (by omega)⟩ ?_
     conv=>whnf
     refine⟨?_,?_⟩
     ·refine zaj (ldR zaa (by repeat constructor) rfl rfl g1) ?_
      refine gGt ?_
      refine zaj (ldR zaa (by repeat constructor) rfl rfl g0) ?_
      refine gGt ?_
      refine And.intro ⟨by omega,by omega,hpl (by omega)⟩ ?_
      refine gGt ?_
      refine zaz (off:=a+t) (xs':=(ys.set (a+t) (ys.getD (a+t+1) 0)).map (.int .i64)) zaa rfl (by repeat constructor) rfl rfl (by show a+t+1≤n0*1;omega) (Nat.one_pos) (by rw [List.map_set];rfl) ?_
      refine gGt ?_
      refine And.intro ⟨by omega,by omega,hpl (by omega)⟩ ?_
      refine gGt ?_
      refine zaz (off:=a+t+1) (xs':=(zbX ys (a+t) (a+t+1)).map (.int .i64)) zaa rfl (by repeat constructor) rfl rfl (by show a+t+1+1≤n0*1;omega) (Nat.one_pos) (by unfold zbX;rw [List.map_set (l:=ys.set (a+t) (ys.getD (a+t+1) 0))];rfl) ?_
      refine gGt ?_
      exact⟨(),trivial,⟨rfl,rfl,rfl,rfl,rfl,rfl,rfl,trivial⟩,SubM.sl⟩
     conv=>whnf
     refine⟨?_,trivial⟩
     ·refine zaj (ldR zaa (by repeat constructor) rfl rfl g0) ?_
      refine gGt ?_
      refine zaj (ldR zaa (by repeat constructor) rfl rfl g1) ?_
      refine gGt ?_
      refine And.intro ⟨by omega,by omega,hpl (by omega)⟩ ?_
      refine gGt ?_
      refine zaz (off:=a+t) (xs':=(ys.set (a+t) (ys.getD (a+t+1) 0)).map (.int .i64)) zaa rfl (by repeat constructor) rfl rfl (by show a+t+1≤n0*1;omega) (Nat.one_pos) (by rw [List.map_set];rfl) ?_
      refine gGt ?_
      refine And.intro ⟨by omega,by omega,hpl (by omega)⟩ ?_
      refine gGt ?_
      refine zaz (off:=a+t+1) (xs':=(zbX ys (a+t) (a+t+1)).map (.int .i64)) zaa rfl (by repeat constructor) rfl rfl (by show a+t+1+1≤n0*1;omega) (Nat.one_pos) (by unfold zbX;rw [List.map_set (l:=ys.set (a+t) (ys.getD (a+t+1) 0))];rfl) ?_
      refine gGt ?_
      exact⟨(),trivial,⟨rfl,rfl,rfl,rfl,rfl,rfl,rfl,trivial⟩,SubM.sl⟩
    ·rintro ⟨⟩ -
     refine gGw ?_
     rw [← eS]
     exact⟨t+1,by omega,by omega,⟨rfl,rfl,rfl,rfl,rfl,rfl,rfl,trivial⟩,SubM.refl _ _⟩
   ·have hte:t=i-1-a:=by omega
    subst hte
    refine gGw ?_
    exact fin0 rfl (fun w' hm=>⟨_,⟨rfl,rfl⟩,hm⟩) (by first|exact .inl rfl|exact .inr rfl)
 ·refine gGw ?_
  refine br_d (fun htwo=>?_) (fun hmore2=>?_)
  ·have eY:symF q.key a m b xs=zkX xs m (m-bsF (fun h=>!decide (zaK q.key xs m<zaK q.key xs h)) a m):=by rw [symF,if_neg (by omega),if_pos (by omega)]
   have hbd:=zhh (fun h=>!decide (zaK q.key xs m<zaK q.key xs h)) a m (by omega)
   rw [eY]
   refine gGw ?_
   refine lp zaa (γ:=Nat × Nat) (fun g=>a≤g.1∧g.1≤g.2∧g.2≤m∧bsF (fun h=>!decide (zaK q.key xs m<zaK q.key xs h)) (a) (m)=bsF (fun h=>!decide (zaK q.key xs m<zaK q.key xs h)) g.1 g.2) (fun g=>[(14,.int .i64 (g.1:Int)),(15,.int .i64 (g.2:Int)),(0,.slice A n0 c),(1,.int .i64 (a:Int)),(2,.int .i64 (m:Int)),(3,.int .i64 (b:Int)),(4,q.fv)]) (fun _=>SoM q A c n0 xs) (fun g=>g.2-g.1) (a,m)
    ⟨Nat.le_refl _,by simp only;omega,Nat.le_refl _,rfl⟩ ⟨rfl,rfl,rfl,rfl,rfl,rfl,rfl,trivial⟩ (SubM.refl _ _) ?_
   rintro ⟨i,j⟩ ⟨hi,hij,hj,he⟩
   simp only at hi hij hj he
   dsimp only
   refine gGw ?_
   refine br_d (fun hlt=>?_) (fun hge=>?_)
   ·have hlt':i<j:=by omega
    have eH:((i:Int)+(j:Int))/2 ^ Int.toNat 1=(((i+j)/2:Nat):Int):=by
     show ((i:Int)+(j:Int))/2=_
     omega
    have hyes:=zla (P:=fun h=>!decide (zaK q.key xs m<zaK q.key xs h)) hlt'
    have hno:=zoT (P:=fun h=>!decide (zaK q.key xs m<zaK q.key xs h)) hlt'
    have hh:i≤(i+j)/2∧(i+j)/2<j:=by omega
    refine gGw ?_
    rw [eH]
    generalize (i+j)/2=h at hh hyes hno ⊢
    have g1:=zbm (xs:=xs) (j:=m) (by omega)
    have g0:=zbm (xs:=xs) (j:=h) (by omega)
    refine zar zaa mixed (by kernel_rfl) rfl ?_
    conv=>whnf
    (repeat ((first|refine stp (by (repeat constructor);first|done|fail) ?_|refine stn (by (repeat constructor);first|done|fail) ?_|refine sto (by (repeat constructor);first|done|fail) (by first|omega|(simp only;omega)|decide) ?_|(refine zaO (And.intro (fun hg=>?_) ?_);focus (simp only [Bool.and_eq_true,Bool.or_eq_true,Bool.not_eq_true',decide_eq_true_eq,decide_eq_false_iff_not] at hg;first|omega|exact zaf (by omega)|exact zak (by omega)|assumption))|refine .mk fun Ap capp=>?_|refine⟨?_,trivial⟩);conv=>whnf))
    refine And.intro ⟨by omega,by omega,hpl (by omega)⟩ ?_
    conv=>whnf
    refine⟨_,(ldR zaa (by repeat constructor) rfl rfl g1).g,?_⟩
    conv=>whnf
    (repeat ((first|refine stp (by (repeat constructor);first|done|fail) ?_|refine stn (by (repeat constructor);first|done|fail) ?_|refine sto (by (repeat constructor);first|done|fail) (by first|omega|(simp only;omega)|decide) ?_|(refine zaO (And.intro (fun hg=>?_) ?_);focus (simp only [Bool.and_eq_true,Bool.or_eq_true,Bool.not_eq_true',decide_eq_true_eq,decide_eq_false_iff_not] at hg;first|omega|exact zaf (by omega)|exact zak (by omega)|assumption))|refine .mk fun Ap capp=>?_|refine⟨?_,trivial⟩);conv=>whnf))
    refine And.intro ⟨by omega,by omega,hpl (by omega)⟩ ?_
    conv=>whnf
    refine⟨_,(ldR zaa (by repeat constructor) rfl rfl g0).g,?_⟩
    conv=>whnf
    (repeat ((first|refine stp (by (repeat constructor);first|done|fail) ?_|refine stn (by (repeat constructor);first|done|fail) ?_|refine sto (by (repeat constructor);first|done|fail) (by first|omega|(simp only;omega)|decide) ?_|(refine zaO (And.intro (fun hg=>?_) ?_);focus (simp only [Bool.and_eq_true,Bool.or_eq_true,Bool.not_eq_true',decide_eq_true_eq,decide_eq_false_iff_not] at hg;first|omega|exact zaf (by omega)|exact zak (by omega)|assumption))|refine .mk fun Ap capp=>?_|refine⟨?_,trivial⟩);conv=>whnf))
    refine⟨_,cpg zcU (fun _ w' hm'=>hcmp _ (List.Perm.refl _) (m) (h) (by omega) (by omega) w' hm'),?_⟩
    conv=>whnf
    (repeat ((first|refine stp (by (repeat constructor);first|done|fail) ?_|refine stn (by (repeat constructor);first|done|fail) ?_|refine sto (by (repeat constructor);first|done|fail) (by first|omega|(simp only;omega)|decide) ?_|(refine zaO (And.intro (fun hg=>?_) ?_);focus (simp only [Bool.and_eq_true,Bool.or_eq_true,Bool.not_eq_true',decide_eq_true_eq,decide_eq_false_iff_not] at hg;first|omega|exact zaf (by omega)|exact zak (by omega)|assumption))|refine .mk fun Ap capp=>?_|refine⟨?_,trivial⟩);conv=>whnf))
    refine br_n (br_d (fun hc=>?_) (fun hc=>?_))
    ·have hP:=hno (by simp only [Bool.not_eq_false',decide_eq_true_eq];omega)
     refine gGw ?_
     exact⟨(i,h),⟨hi,by simp only;omega,by simp only;omega,by rw [he,hP]⟩,by simp only;omega,⟨rfl,rfl,rfl,rfl,rfl,rfl,rfl,trivial⟩,SubM.refl _ _⟩
    ·have hP:=hyes (by simp only [Bool.not_eq_true',decide_eq_false_iff_not];omega)
     refine gGw ?_
     refine⟨(h+1,j),⟨by simp only;omega,by simp only;omega,hj,by rw [he,hP]⟩,by simp only;omega,⟨?_,rfl,rfl,rfl,rfl,rfl,rfl,trivial⟩,SubM.refl _ _⟩
     rfl
   ·have hie:i=j:=by omega
    subst hie
    rw [zhC] at he
    rw [he] at hbd ⊢
    refine gGw ?_
    refine lp zaa (γ:=Nat) (fun t=>t≤m-i) (fun t=>[(17,.int .i64 ((m-t:Nat):Int)),(14,.int .i64 (i:Int)),(0,.slice A n0 c),(1,.int .i64 (a:Int)),(2,.int .i64 (m:Int)),(3,.int .i64 (b:Int)),(4,q.fv)]) (fun t=>SoM q A c n0 (zkX xs m t)) (fun t=>m-i-t) 0 (by omega) ⟨rfl,rfl,rfl,rfl,rfl,rfl,rfl,trivial⟩ (SubM.refl _ _) ?_
    rintro t ht
    dsimp only
    refine gGw ?_
    refine br_d (fun hlt=>?_) (fun hge=>?_)
    ·have hyl:(zkX xs m t).length=n0:=by rw [(zgV xs m (by omega) t (by omega)).length_eq,hn]
     have eS:zkX xs m (t+1)=zbX (zkX xs m t) (m-t) (m-t-1):=rfl
     generalize zkX xs m t=ys at hyl eS ⊢
     have g1:=zbm (xs:=ys) (j:=m-t-1) (by omega)
     have g0:=zbm (xs:=ys) (j:=m-t) (by omega)
     have ea:((m-t:Nat):Int)-1=((m-t-1:Nat):Int):=by omega
     conv=>whnf
     refine zbc (γ:=Unit) (Tr.hs [0,1,2,3,4,5,6,7,8,10,11,12] (.alts 9 (.sq [13] (.hs [14] (.sq [15] (.hs [16] (.sq [17] .done))))) (.alts 13 (.sq [9] (.hs [14] (.sq [15] (.hs [16] (.sq [17] .done))))) .stop))) [] zaa mixed (by kernel_rfl) rfl (fun _=>True)
      (fun _=>[(17,.int .i64 ((m-t:Nat):Int)),(14,.int .i64 (i:Int)),(0,.slice A n0 c),(1,.int .i64 (a:Int)),(2,.int .i64 (m:Int)),(3,.int .i64 (b:Int)),(4,q.fv)]) (fun _=>SoM q A c n0 (zbX ys (m-t) (m-t-1))) (SubM.sel .nil) ?_ ?_
     ·refine gGw ?_
      rw [ea]
      refine And.intro ⟨by omega,by omega,hpl (by omega)⟩ ?_
      refine gGw ?_
      refine And.intro ⟨by omega,by omega,hpl (by omega)⟩ ?_
      conv=>whnf
      refine⟨?_,?_⟩
      ·refine zaj (ldR zaa (by repeat constructor) rfl rfl g1) ?_
       refine gGt ?_
       refine zaj (ldR zaa (by repeat constructor) rfl rfl g0) ?_
       refine gGt ?_
       refine And.intro ⟨by omega,by omega,hpl (by omega)⟩ ?_
       refine gGt ?_
       refine zaz (off:=m-t) (xs':=(ys.set (m-t) (ys.getD (m-t-1) 0)).map (.int .i64)) zaa rfl (by repeat constructor) rfl rfl (by show m-t+1≤n0*1;omega) (Nat.one_pos) (by rw [List.map_set];rfl) ?_
       refine gGt ?_
       refine And.intro ⟨by omega,by omega,hpl (by omega)⟩ ?_
       refine gGt ?_
       refine zaz (off:=m-t-1) (xs':=(zbX ys (m-t) (m-t-1)).map (.int .i64)) zaa rfl (by repeat constructor) rfl rfl (by show m-t-1+1≤n0*1;omega) (Nat.one_pos) (by unfold zbX;rw [List.map_set (l:=ys.set (m-t) (ys.getD (m-t-1) 0))];rfl) ?_
       refine gGt ?_
       exact⟨(),trivial,⟨rfl,rfl,rfl,rfl,rfl,rfl,rfl,trivial⟩,SubM.sl⟩
      conv=>whnf
      refine⟨?_,trivial⟩
      ·refine zaj (ldR zaa (by repeat constructor) rfl rfl g0) ?_
       refine gGt ?_
       refine zaj (ldR zaa (by repeat constructor) rfl rfl g1) ?_
       refine gGt ?_
       refine And.intro ⟨by omega,by omega,hpl (by omega)⟩ ?_
       refine gGt ?_
       refine zaz (off:=m-t) (xs':=(ys.set (m-t) (ys.getD (m-t-1) 0)).map (.int .i64)) zaa rfl (by repeat constructor) rfl rfl (by show m-t+1≤n0*1;omega) (Nat.one_pos) (by rw [List.map_set];rfl) ?_
       refine gGt ?_
       refine And.intro ⟨by omega,by omega,hpl (by omega)⟩ ?_
       refine gGt ?_
       refine zaz (off:=m-t-1) (xs':=(zbX ys (m-t) (m-t-1)).map (.int .i64)) zaa rfl (by repeat constructor) rfl rfl (by show m-t-1+1≤n0*1;omega) (Nat.one_pos) (by unfold zbX;rw [List.map_set (l:=ys.set (m-t) (ys.getD (m-t-1) 0))];rfl) ?_
       refine gGt ?_
       exact⟨(),trivial,⟨rfl,rfl,rfl,rfl,rfl,rfl,rfl,trivial⟩,SubM.sl⟩
     ·rintro ⟨⟩ -
      refine gGw ?_
      rw [← eS]
      refine⟨t+1,by omega,by omega,⟨?_,rfl,rfl,rfl,rfl,rfl,rfl,trivial⟩,SubM.refl _ _⟩
      rw [show ((m-(t+1):Nat):Int)=((m-t:Nat):Int)-1 by omega];rfl
    ·have hte:t=m-i:=by omega
     subst hte
     refine gGw ?_
     exact fin0 rfl (fun w' hm=>⟨_,⟨rfl,rfl⟩,hm⟩) (by first|exact .inl rfl|exact .inr rfl)
  ·obtain ⟨M,hM⟩:∃ M,M=(a+b)/2:=⟨_,rfl⟩
   have hM2:2*M≤a+b∧a+b<2*M+2:=by omega
   have eM:((a:Int)+(b:Int))/2 ^ Int.toNat 1=(M:Int):=by
    show ((a:Int)+(b:Int))/2=_
    omega
   refine gGw ?_
   rw [eM]
   refine br_d (fun hgt=>?_) (fun hgt=>?_)
   ·have hgt:M<m:=by omega
    refine gGw ?_
    refine lp zaa (γ:=Nat × Nat) (fun g=>M+m-b≤g.1∧g.1≤g.2∧g.2≤M∧bsF (fun c=>!decide (zaK q.key xs (M+m-1-c)<zaK q.key xs c)) (M+m-b) (M)=bsF (fun c=>!decide (zaK q.key xs (M+m-1-c)<zaK q.key xs c)) g.1 g.2) (fun g=>[(20,.int .i64 (g.1:Int)),(21,.int .i64 (g.2:Int)),(18,.int .i64 (M:Int)),(19,.int .i64 ((M:Int)+(m:Int))),(22,.int .i64 ((M:Int)+(m:Int)-1)),(0,.slice A n0 c),(1,.int .i64 (a:Int)),(2,.int .i64 (m:Int)),(3,.int .i64 (b:Int)),(4,q.fv)]) (fun _=>SoM q A c n0 xs) (fun g=>g.2-g.1) (M+m-b,M)
     ⟨Nat.le_refl _,by simp only;omega,Nat.le_refl _,rfl⟩ ⟨by rw [show ((M+m-b:Nat):Int)=(M:Int)+(m:Int)-(b:Int) by omega];rfl,rfl,rfl,rfl,rfl,rfl,rfl,rfl,rfl,rfl,trivial⟩ (SubM.refl _ _) ?_
    rintro ⟨i,j⟩ ⟨hi,hij,hj,he⟩
    simp only at hi hij hj he
    dsimp only
    refine gGw ?_
    refine br_d (fun hlt=>?_) (fun hge=>?_)
    ·have hlt':i<j:=by omega
     have eH:((i:Int)+(j:Int))/2 ^ Int.toNat 1=(((i+j)/2:Nat):Int):=by
      show ((i:Int)+(j:Int))/2=_
      omega
     have hyes:=zla (P:=fun c=>!decide (zaK q.key xs (M+m-1-c)<zaK q.key xs c)) hlt'
     have hno:=zoT (P:=fun c=>!decide (zaK q.key xs (M+m-1-c)<zaK q.key xs c)) hlt'
     have hh:i≤(i+j)/2∧(i+j)/2<j:=by omega
     refine gGw ?_
     rw [eH]
     generalize (i+j)/2=h at hh hyes hno ⊢
     have eP:(M:Int)+(m:Int)-1-(h:Int)=((M+m-1-h:Nat):Int):=by omega
     have g1:=zbm (xs:=xs) (j:=M+m-1-h) (by omega)
     have g0:=zbm (xs:=xs) (j:=h) (by omega)
     refine zar zaa mixed (by kernel_rfl) rfl ?_
     conv=>whnf
     (repeat ((first|refine stp (by (repeat constructor);first|done|fail) ?_|refine stn (by (repeat constructor);first|done|fail) ?_|refine sto (by (repeat constructor);first|done|fail) (by first|omega|(simp only;omega)|decide) ?_|(refine zaO (And.intro (fun hg=>?_) ?_);focus (simp only [Bool.and_eq_true,Bool.or_eq_true,Bool.not_eq_true',decide_eq_true_eq,decide_eq_false_iff_not] at hg;first|omega|exact zaf (by omega)|exact zak (by omega)|assumption))|refine .mk fun Ap capp=>?_|refine⟨?_,trivial⟩);conv=>whnf))
     rw [eP]
     refine And.intro ⟨by omega,by omega,hpl (by omega)⟩ ?_
     conv=>whnf
     refine⟨_,(ldR zaa (by repeat constructor) rfl rfl g1).g,?_⟩
     conv=>whnf
     (repeat ((first|refine stp (by (repeat constructor);first|done|fail) ?_|refine stn (by (repeat constructor);first|done|fail) ?_|refine sto (by (repeat constructor);first|done|fail) (by first|omega|(simp only;omega)|decide) ?_|(refine zaO (And.intro (fun hg=>?_) ?_);focus (simp only [Bool.and_eq_true,Bool.or_eq_true,Bool.not_eq_true',decide_eq_true_eq,decide_eq_false_iff_not] at hg;first|omega|exact zaf (by omega)|exact zak (by omega)|assumption))|refine .mk fun Ap capp=>?_|refine⟨?_,trivial⟩);conv=>whnf))
     refine And.intro ⟨by omega,by omega,hpl (by omega)⟩ ?_
     conv=>whnf
     refine⟨_,(ldR zaa (by repeat constructor) rfl rfl g0).g,?_⟩
     conv=>whnf
     (repeat ((first|refine stp (by (repeat constructor);first|done|fail) ?_|refine stn (by (repeat constructor);first|done|fail) ?_|refine sto (by (repeat constructor);first|done|fail) (by first|omega|(simp only;omega)|decide) ?_|(refine zaO (And.intro (fun hg=>?_) ?_);focus (simp only [Bool.and_eq_true,Bool.or_eq_true,Bool.not_eq_true',decide_eq_true_eq,decide_eq_false_iff_not] at hg;first|omega|exact zaf (by omega)|exact zak (by omega)|assumption))|refine .mk fun Ap capp=>?_|refine⟨?_,trivial⟩);conv=>whnf))
     refine⟨_,cpg zcU (fun _ w' hm'=>hcmp _ (List.Perm.refl _) (M+m-1-h) (h) (by omega) (by omega) w' hm'),?_⟩
     conv=>whnf
     (repeat ((first|refine stp (by (repeat constructor);first|done|fail) ?_|refine stn (by (repeat constructor);first|done|fail) ?_|refine sto (by (repeat constructor);first|done|fail) (by first|omega|(simp only;omega)|decide) ?_|(refine zaO (And.intro (fun hg=>?_) ?_);focus (simp only [Bool.and_eq_true,Bool.or_eq_true,Bool.not_eq_true',decide_eq_true_eq,decide_eq_false_iff_not] at hg;first|omega|exact zaf (by omega)|exact zak (by omega)|assumption))|refine .mk fun Ap capp=>?_|refine⟨?_,trivial⟩);conv=>whnf))
     refine br_n (br_d (fun hc=>?_) (fun hc=>?_))
     ·have hP:=hno (by simp only [Bool.not_eq_false',decide_eq_true_eq];omega)
      refine gGw ?_
      exact⟨(i,h),⟨hi,by simp only;omega,by simp only;omega,by rw [he,hP]⟩,by simp only;omega,⟨rfl,rfl,rfl,rfl,rfl,rfl,rfl,rfl,rfl,rfl,trivial⟩,SubM.refl _ _⟩
     ·have hP:=hyes (by simp only [Bool.not_eq_true',decide_eq_false_iff_not];omega)
      refine gGw ?_
      refine⟨(h+1,j),⟨by simp only;omega,by simp only;omega,hj,by rw [he,hP]⟩,by simp only;omega,⟨?_,rfl,rfl,rfl,rfl,rfl,rfl,rfl,rfl,rfl,trivial⟩,SubM.refl _ _⟩
      rfl
    ·have hie:i=j:=by omega
     subst hie
     rw [zhC] at he
     have hbd:=zhh (fun c=>!decide (zaK q.key xs (M+m-1-c)<zaK q.key xs c)) (M+m-b) (M) (by omega)
     rw [he] at hbd
     have eY:symF q.key a m b xs=symT q.key a m b xs M i:=zjn (by omega) (by omega) h1 h2 hM (by rw [if_pos hgt,← he])
     have eE:(M:Int)+(m:Int)-(i:Int)=((M+m-i:Nat):Int):=by omega
     have hp0:(xs).Perm xs:=List.Perm.refl _
     have hy0:(xs).length=n0:=by rw [hp0.length_eq,hn]
     refine gGw ?_
     rw [eE]
     refine br (fun hc0=>?_) (fun hc0=>?_)
     ·have hd0:i<m∧m<M+m-i:=by simp only [Bool.and_eq_true,decide_eq_true_eq] at hc0;omega
      refine gGw ?_
      refine⟨zgf,zac (m1:=SoM q A c n0 (xs)) (by repeat constructor) (fun w' hm'=>hy0 ▸ zjq q A c _ i m (M+m-i) w' (by omega) (by omega) (by omega) (by omega) (hy0 ▸ hm'.part)) ?_⟩
      rintro e m' ⟨rfl,rfl⟩
      have hp1:(rotF m (m-i) (M+m-i-m) (xs)).Perm xs:=zeP _ _ _ _ (by omega) (by omega) (by omega)
      have hy1:(rotF m (m-i) (M+m-i-m) (xs)).length=n0:=by rw [hp1.length_eq,hn]
      refine gGw ?_
      refine br (fun hc1=>?_) (fun hc1=>?_)
      ·have hd1:a<i∧i<M:=by simp only [Bool.and_eq_true,decide_eq_true_eq] at hc1;omega
       refine gGw ?_
       refine⟨zaU,zac (m1:=SoM q A c n0 (rotF m (m-i) (M+m-i-m) (xs))) (by repeat constructor) (fun w' hm'=>hy1 ▸ ih _ a i M w' (by omega) (by omega) (by omega) (by omega) (by omega) (hq.perm hp1) (KIn.row (KIn.fr hK hm'.fr)) (hy1 ▸ hm'.part)) ?_⟩
       rintro e m' ⟨rfl,rfl⟩
       have hp2:(symF q.key a i M (rotF m (m-i) (M+m-i-m) (xs))).Perm xs:=(zdZ q.key a i M _ (by omega) (by omega) (by omega)).trans hp1
       have hy2:(symF q.key a i M (rotF m (m-i) (M+m-i-m) (xs))).length=n0:=by rw [hp2.length_eq,hn]
       refine gGw ?_
       refine br (fun hc2=>?_) (fun hc2=>?_)
       ·have hd2:M<M+m-i∧M+m-i<b:=by simp only [Bool.and_eq_true,decide_eq_true_eq] at hc2;omega
        refine gGw ?_
        refine⟨zaU,zac (m1:=SoM q A c n0 (symF q.key a i M (rotF m (m-i) (M+m-i-m) (xs)))) (by repeat constructor) (fun w' hm'=>hy2 ▸ ih _ M (M+m-i) b w' (by omega) (by omega) (by omega) (by omega) (by omega) (hq.perm hp2) (KIn.row (KIn.fr hK hm'.fr)) (hy2 ▸ hm'.part)) ?_⟩
        rintro e m' ⟨rfl,rfl⟩
        refine gGw ?_
        refine fin0 rfl (fun w' hm=>⟨_,⟨rfl,?_⟩,hm⟩) (by first|exact .inl rfl|exact .inr rfl)
        rw [eY]
        unfold symT
        rw [if_pos hd0,if_pos hd1,if_pos hd2]
        all_goals rfl
       ·have hd2:¬ (M<M+m-i∧M+m-i<b):=by simp only [Bool.and_eq_false_iff,decide_eq_false_iff_not] at hc2;omega
        refine gGw ?_
        refine fin0 rfl (fun w' hm=>⟨_,⟨rfl,?_⟩,hm⟩) (by first|exact .inl rfl|exact .inr rfl)
        rw [eY]
        unfold symT
        rw [if_pos hd0,if_pos hd1,if_neg hd2]
        all_goals rfl
      ·have hd1:¬ (a<i∧i<M):=by simp only [Bool.and_eq_false_iff,decide_eq_false_iff_not] at hc1;omega
       have hp2:(rotF m (m-i) (M+m-i-m) (xs)).Perm xs:=zeP _ _ _ _ (by omega) (by omega) (by omega)
       have hy2:(rotF m (m-i) (M+m-i-m) (xs)).length=n0:=by rw [hp2.length_eq,hn]
       refine gGw ?_
       refine br (fun hc2=>?_) (fun hc2=>?_)
       ·have hd2:M<M+m-i∧M+m-i<b:=by simp only [Bool.and_eq_true,decide_eq_true_eq] at hc2;omega
        refine gGw ?_
        refine⟨zaU,zac (m1:=SoM q A c n0 (rotF m (m-i) (M+m-i-m) (xs))) (by repeat constructor) (fun w' hm'=>hy2 ▸ ih _ M (M+m-i) b w' (by omega) (by omega) (by omega) (by omega) (by omega) (hq.perm hp2) (KIn.row (KIn.fr hK hm'.fr)) (hy2 ▸ hm'.part)) ?_⟩
        rintro e m' ⟨rfl,rfl⟩
        refine gGw ?_
        refine fin0 rfl (fun w' hm=>⟨_,⟨rfl,?_⟩,hm⟩) (by first|exact .inl rfl|exact .inr rfl)
        rw [eY]
        unfold symT
        rw [if_pos hd0,if_neg hd1,if_pos hd2]
        all_goals rfl
       ·have hd2:¬ (M<M+m-i∧M+m-i<b):=by simp only [Bool.and_eq_false_iff,decide_eq_false_iff_not] at hc2;omega
        refine gGw ?_
        refine fin0 rfl (fun w' hm=>⟨_,⟨rfl,?_⟩,hm⟩) (by first|exact .inl rfl|exact .inr rfl)
        rw [eY]
        unfold symT
        rw [if_pos hd0,if_neg hd1,if_neg hd2]
        all_goals rfl
     ·have hd0:¬ (i<m∧m<M+m-i):=by simp only [Bool.and_eq_false_iff,decide_eq_false_iff_not] at hc0;omega
      have hp1:(xs).Perm xs:=List.Perm.refl _
      have hy1:(xs).length=n0:=by rw [hp1.length_eq,hn]
      refine gGw ?_
      refine br (fun hc1=>?_) (fun hc1=>?_)
      ·have hd1:a<i∧i<M:=by simp only [Bool.and_eq_true,decide_eq_true_eq] at hc1;omega
       refine gGw ?_
       refine⟨zaU,zac (m1:=SoM q A c n0 (xs)) (by repeat constructor) (fun w' hm'=>hy1 ▸ ih _ a i M w' (by omega) (by omega) (by omega) (by omega) (by omega) (hq.perm hp1) (KIn.row (KIn.fr hK hm'.fr)) (hy1 ▸ hm'.part)) ?_⟩
       rintro e m' ⟨rfl,rfl⟩
       have hp2:(symF q.key a i M (xs)).Perm xs:=(zdZ q.key a i M _ (by omega) (by omega) (by omega)).trans hp1
       have hy2:(symF q.key a i M (xs)).length=n0:=by rw [hp2.length_eq,hn]
       refine gGw ?_
       refine br (fun hc2=>?_) (fun hc2=>?_)
       ·have hd2:M<M+m-i∧M+m-i<b:=by simp only [Bool.and_eq_true,decide_eq_true_eq] at hc2;omega
        refine gGw ?_
        refine⟨zaU,zac (m1:=SoM q A c n0 (symF q.key a i M (xs))) (by repeat constructor) (fun w' hm'=>hy2 ▸ ih _ M (M+m-i) b w' (by omega) (by omega) (by omega) (by omega) (by omega) (hq.perm hp2) (KIn.row (KIn.fr hK hm'.fr)) (hy2 ▸ hm'.part)) ?_⟩
        rintro e m' ⟨rfl,rfl⟩
        refine gGw ?_
        refine fin0 rfl (fun w' hm=>⟨_,⟨rfl,?_⟩,hm⟩) (by first|exact .inl rfl|exact .inr rfl)
        rw [eY]
        unfold symT
        rw [if_neg hd0,if_pos hd1,if_pos hd2]
        all_goals rfl
       ·have hd2:¬ (M<M+m-i∧M+m-i<b):=by simp only [Bool.and_eq_false_iff,decide_eq_false_iff_not] at hc2;omega
        refine gGw ?_
        refine fin0 rfl (fun w' hm=>⟨_,⟨rfl,?_⟩,hm⟩) (by first|exact .inl rfl|exact .inr rfl)
        rw [eY]
        unfold symT
        rw [if_neg hd0,if_pos hd1,if_neg hd2]
        all_goals rfl
      ·have hd1:¬ (a<i∧i<M):=by simp only [Bool.and_eq_false_iff,decide_eq_false_iff_not] at hc1;omega
       have hp2:(xs).Perm xs:=List.Perm.refl _
       have hy2:(xs).length=n0:=by rw [hp2.length_eq,hn]
       refine gGw ?_
       refine br (fun hc2=>?_) (fun hc2=>?_)
       ·have hd2:M<M+m-i∧M+m-i<b:=by simp only [Bool.and_eq_true,decide_eq_true_eq] at hc2;omega
        refine gGw ?_
        refine⟨zaU,zac (m1:=SoM q A c n0 (xs)) (by repeat constructor) (fun w' hm'=>hy2 ▸ ih _ M (M+m-i) b w' (by omega) (by omega) (by omega) (by omega) (by omega) (hq.perm hp2) (KIn.row (KIn.fr hK hm'.fr)) (hy2 ▸ hm'.part)) ?_⟩
        rintro e m' ⟨rfl,rfl⟩
        refine gGw ?_
        refine fin0 rfl (fun w' hm=>⟨_,⟨rfl,?_⟩,hm⟩) (by first|exact .inl rfl|exact .inr rfl)
        rw [eY]
        unfold symT
        rw [if_neg hd0,if_neg hd1,if_pos hd2]
        all_goals rfl
       ·have hd2:¬ (M<M+m-i∧M+m-i<b):=by simp only [Bool.and_eq_false_iff,decide_eq_false_iff_not] at hc2;omega
        refine gGw ?_
        refine fin0 rfl (fun w' hm=>⟨_,⟨rfl,?_⟩,hm⟩) (by first|exact .inl rfl|exact .inr rfl)
        rw [eY]
        unfold symT
        rw [if_neg hd0,if_neg hd1,if_neg hd2]
        all_goals rfl
   ·have hgt:¬ M<m:=by omega
    refine gGw ?_
    refine lp zaa (γ:=Nat × Nat) (fun g=>a≤g.1∧g.1≤g.2∧g.2≤m∧bsF (fun c=>!decide (zaK q.key xs (M+m-1-c)<zaK q.key xs c)) (a) (m)=bsF (fun c=>!decide (zaK q.key xs (M+m-1-c)<zaK q.key xs c)) g.1 g.2) (fun g=>[(20,.int .i64 (g.1:Int)),(21,.int .i64 (g.2:Int)),(18,.int .i64 (M:Int)),(19,.int .i64 ((M:Int)+(m:Int))),(22,.int .i64 ((M:Int)+(m:Int)-1)),(0,.slice A n0 c),(1,.int .i64 (a:Int)),(2,.int .i64 (m:Int)),(3,.int .i64 (b:Int)),(4,q.fv)]) (fun _=>SoM q A c n0 xs) (fun g=>g.2-g.1) (a,m)
     ⟨Nat.le_refl _,by simp only;omega,Nat.le_refl _,rfl⟩ ⟨rfl,rfl,rfl,rfl,rfl,rfl,rfl,rfl,rfl,rfl,trivial⟩ (SubM.refl _ _) ?_
    rintro ⟨i,j⟩ ⟨hi,hij,hj,he⟩
    simp only at hi hij hj he
    dsimp only
    refine gGw ?_
    refine br_d (fun hlt=>?_) (fun hge=>?_)
    ·have hlt':i<j:=by omega
     have eH:((i:Int)+(j:Int))/2 ^ Int.toNat 1=(((i+j)/2:Nat):Int):=by
      show ((i:Int)+(j:Int))/2=_
      omega
     have hyes:=zla (P:=fun c=>!decide (zaK q.key xs (M+m-1-c)<zaK q.key xs c)) hlt'
     have hno:=zoT (P:=fun c=>!decide (zaK q.key xs (M+m-1-c)<zaK q.key xs c)) hlt'
     have hh:i≤(i+j)/2∧(i+j)/2<j:=by omega
     refine gGw ?_
     rw [eH]
     generalize (i+j)/2=h at hh hyes hno ⊢
     have eP:(M:Int)+(m:Int)-1-(h:Int)=((M+m-1-h:Nat):Int):=by omega
     have g1:=zbm (xs:=xs) (j:=M+m-1-h) (by omega)
     have g0:=zbm (xs:=xs) (j:=h) (by omega)
     refine zar zaa mixed (by kernel_rfl) rfl ?_
     conv=>whnf
     (repeat ((first|refine stp (by (repeat constructor);first|done|fail) ?_|refine stn (by (repeat constructor);first|done|fail) ?_|refine sto (by (repeat constructor);first|done|fail) (by first|omega|(simp only;omega)|decide) ?_|(refine zaO (And.intro (fun hg=>?_) ?_);focus (simp only [Bool.and_eq_true,Bool.or_eq_true,Bool.not_eq_true',decide_eq_true_eq,decide_eq_false_iff_not] at hg;first|omega|exact zaf (by omega)|exact zak (by omega)|assumption))|refine .mk fun Ap capp=>?_|refine⟨?_,trivial⟩);conv=>whnf))
     rw [eP]
     refine And.intro ⟨by omega,by omega,hpl (by omega)⟩ ?_
     conv=>whnf
     refine⟨_,(ldR zaa (by repeat constructor) rfl rfl g1).g,?_⟩
     conv=>whnf
     (repeat ((first|refine stp (by (repeat constructor);first|done|fail) ?_|refine stn (by (repeat constructor);first|done|fail) ?_|refine sto (by (repeat constructor);first|done|fail) (by first|omega|(simp only;omega)|decide) ?_|(refine zaO (And.intro (fun hg=>?_) ?_);focus (simp only [Bool.and_eq_true,Bool.or_eq_true,Bool.not_eq_true',decide_eq_true_eq,decide_eq_false_iff_not] at hg;first|omega|exact zaf (by omega)|exact zak (by omega)|assumption))|refine .mk fun Ap capp=>?_|refine⟨?_,trivial⟩);conv=>whnf))
     refine And.intro ⟨by omega,by omega,hpl (by omega)⟩ ?_
     conv=>whnf
     refine⟨_,(ldR zaa (by repeat constructor) rfl rfl g0).g,?_⟩
     conv=>whnf
     (repeat ((first|refine stp (by (repeat constructor);first|done|fail) ?_|refine stn (by (repeat constructor);first|done|fail) ?_|refine sto (by (repeat constructor);first|done|fail) (by first|omega|(simp only;omega)|decide) ?_|(refine zaO (And.intro (fun hg=>?_) ?_);focus (simp only [Bool.and_eq_true,Bool.or_eq_true,Bool.not_eq_true',decide_eq_true_eq,decide_eq_false_iff_not] at hg;first|omega|exact zaf (by omega)|exact zak (by omega)|assumption))|refine .mk fun Ap capp=>?_|refine⟨?_,trivial⟩);conv=>whnf))
     refine⟨_,cpg zcU (fun _ w' hm'=>hcmp _ (List.Perm.refl _) (M+m-1-h) (h) (by omega) (by omega) w' hm'),?_⟩
     conv=>whnf
     (repeat ((first|refine stp (by (repeat constructor);first|done|fail) ?_|refine stn (by (repeat constructor);first|done|fail) ?_|refine sto (by (repeat constructor);first|done|fail) (by first|omega|(simp only;omega)|decide) ?_|(refine zaO (And.intro (fun hg=>?_) ?_);focus (simp only [Bool.and_eq_true,Bool.or_eq_true,Bool.not_eq_true',decide_eq_true_eq,decide_eq_false_iff_not] at hg;first|omega|exact zaf (by omega)|exact zak (by omega)|assumption))|refine .mk fun Ap capp=>?_|refine⟨?_,trivial⟩);conv=>whnf))
     refine br_n (br_d (fun hc=>?_) (fun hc=>?_))
     ·have hP:=hno (by simp only [Bool.not_eq_false',decide_eq_true_eq];omega)
      refine gGw ?_
      exact⟨(i,h),⟨hi,by simp only;omega,by simp only;omega,by rw [he,hP]⟩,by simp only;omega,⟨rfl,rfl,rfl,rfl,rfl,rfl,rfl,rfl,rfl,rfl,trivial⟩,SubM.refl _ _⟩
     ·have hP:=hyes (by simp only [Bool.not_eq_true',decide_eq_false_iff_not];omega)
      refine gGw ?_
      refine⟨(h+1,j),⟨by simp only;omega,by simp only;omega,hj,by rw [he,hP]⟩,by simp only;omega,⟨?_,rfl,rfl,rfl,rfl,rfl,rfl,rfl,rfl,rfl,trivial⟩,SubM.refl _ _⟩
      rfl
    ·have hie:i=j:=by omega
     subst hie
     rw [zhC] at he
     have hbd:=zhh (fun c=>!decide (zaK q.key xs (M+m-1-c)<zaK q.key xs c)) (a) (m) (by omega)
     rw [he] at hbd
     have eY:symF q.key a m b xs=symT q.key a m b xs M i:=zjn (by omega) (by omega) h1 h2 hM (by rw [if_neg hgt,← he])
     have eE:(M:Int)+(m:Int)-(i:Int)=((M+m-i:Nat):Int):=by omega
     have hp0:(xs).Perm xs:=List.Perm.refl _
     have hy0:(xs).length=n0:=by rw [hp0.length_eq,hn]
     refine gGw ?_
     rw [eE]
     refine br (fun hc0=>?_) (fun hc0=>?_)
     ·have hd0:i<m∧m<M+m-i:=by simp only [Bool.and_eq_true,decide_eq_true_eq] at hc0;omega
      refine gGw ?_
      refine⟨zgf,zac (m1:=SoM q A c n0 (xs)) (by repeat constructor) (fun w' hm'=>hy0 ▸ zjq q A c _ i m (M+m-i) w' (by omega) (by omega) (by omega) (by omega) (hy0 ▸ hm'.part)) ?_⟩
      rintro e m' ⟨rfl,rfl⟩
      have hp1:(rotF m (m-i) (M+m-i-m) (xs)).Perm xs:=zeP _ _ _ _ (by omega) (by omega) (by omega)
      have hy1:(rotF m (m-i) (M+m-i-m) (xs)).length=n0:=by rw [hp1.length_eq,hn]
      refine gGw ?_
      refine br (fun hc1=>?_) (fun hc1=>?_)
      ·have hd1:a<i∧i<M:=by simp only [Bool.and_eq_true,decide_eq_true_eq] at hc1;omega
       refine gGw ?_
       refine⟨zaU,zac (m1:=SoM q A c n0 (rotF m (m-i) (M+m-i-m) (xs))) (by repeat constructor) (fun w' hm'=>hy1 ▸ ih _ a i M w' (by omega) (by omega) (by omega) (by omega) (by omega) (hq.perm hp1) (KIn.row (KIn.fr hK hm'.fr)) (hy1 ▸ hm'.part)) ?_⟩
       rintro e m' ⟨rfl,rfl⟩
       have hp2:(symF q.key a i M (rotF m (m-i) (M+m-i-m) (xs))).Perm xs:=(zdZ q.key a i M _ (by omega) (by omega) (by omega)).trans hp1
       have hy2:(symF q.key a i M (rotF m (m-i) (M+m-i-m) (xs))).length=n0:=by rw [hp2.length_eq,hn]
       refine gGw ?_
       refine br (fun hc2=>?_) (fun hc2=>?_)
       ·have hd2:M<M+m-i∧M+m-i<b:=by simp only [Bool.and_eq_true,decide_eq_true_eq] at hc2;omega
        refine gGw ?_
        refine⟨zaU,zac (m1:=SoM q A c n0 (symF q.key a i M (rotF m (m-i) (M+m-i-m) (xs)))) (by repeat constructor) (fun w' hm'=>hy2 ▸ ih _ M (M+m-i) b w' (by omega) (by omega) (by omega) (by omega) (by omega) (hq.perm hp2) (KIn.row (KIn.fr hK hm'.fr)) (hy2 ▸ hm'.part)) ?_⟩
        rintro e m' ⟨rfl,rfl⟩
        refine gGw ?_
        refine fin0 rfl (fun w' hm=>⟨_,⟨rfl,?_⟩,hm⟩) (by first|exact .inl rfl|exact .inr rfl)
        rw [eY]
        unfold symT
        rw [if_pos hd0,if_pos hd1,if_pos hd2]
        all_goals rfl
       ·have hd2:¬ (M<M+m-i∧M+m-i<b):=by simp only [Bool.and_eq_false_iff,decide_eq_false_iff_not] at hc2;omega
        refine gGw ?_
        refine fin0 rfl (fun w' hm=>⟨_,⟨rfl,?_⟩,hm⟩) (by first|exact .inl rfl|exact .inr rfl)
        rw [eY]
        unfold symT
        rw [if_pos hd0,if_pos hd1,if_neg hd2]
        all_goals rfl
      ·have hd1:¬ (a<i∧i<M):=by simp only [Bool.and_eq_false_iff,decide_eq_false_iff_not] at hc1;omega
       have hp2:(rotF m (m-i) (M+m-i-m) (xs)).Perm xs:=zeP _ _ _ _ (by omega) (by omega) (by omega)
       have hy2:(rotF m (m-i) (M+m-i-m) (xs)).length=n0:=by rw [hp2.length_eq,hn]
       refine gGw ?_
       refine br (fun hc2=>?_) (fun hc2=>?_)
       ·have hd2:M<M+m-i∧M+m-i<b:=by simp only [Bool.and_eq_true,decide_eq_true_eq] at hc2;omega
        refine gGw ?_
        refine⟨zaU,zac (m1:=SoM q A c n0 (rotF m (m-i) (M+m-i-m) (xs))) (by repeat constructor) (fun w' hm'=>hy2 ▸ ih _ M (M+m-i) b w' (by omega) (by omega) (by omega) (by omega) (by omega) (hq.perm hp2) (KIn.row (KIn.fr hK hm'.fr)) (hy2 ▸ hm'.part)) ?_⟩
        rintro e m' ⟨rfl,rfl⟩
        refine gGw ?_
        refine fin0 rfl (fun w' hm=>⟨_,⟨rfl,?_⟩,hm⟩) (by first|exact .inl rfl|exact .inr rfl)
        rw [eY]
        unfold symT
        rw [if_pos hd0,if_neg hd1,if_pos hd2]
        all_goals rfl
       ·have hd2:¬ (M<M+m-i∧M+m-i<b):=by simp only [Bool.and_eq_false_iff,decide_eq_false_iff_not] at hc2;omega
        refine gGw ?_
        refine fin0 rfl (fun w' hm=>⟨_,⟨rfl,?_⟩,hm⟩) (by first|exact .inl rfl|exact .inr rfl)
        rw [eY]
        unfold symT
        rw [if_pos hd0,if_neg hd1,if_neg hd2]
        all_goals rfl
     ·have hd0:¬ (i<m∧m<M+m-i):=by simp only [Bool.and_eq_false_iff,decide_eq_false_iff_not] at hc0;omega
      have hp1:(xs).Perm xs:=List.Perm.refl _
      have hy1:(xs).length=n0:=by rw [hp1.length_eq,hn]
      refine gGw ?_
      refine br (fun hc1=>?_) (fun hc1=>?_)
      ·have hd1:a<i∧i<M:=by simp only [Bool.and_eq_true,decide_eq_true_eq] at hc1;omega
       refine gGw ?_
       refine⟨zaU,zac (m1:=SoM q A c n0 (xs)) (by repeat constructor) (fun w' hm'=>hy1 ▸ ih _ a i M w' (by omega) (by omega) (by omega) (by omega) (by omega) (hq.perm hp1) (KIn.row (KIn.fr hK hm'.fr)) (hy1 ▸ hm'.part)) ?_⟩
       rintro e m' ⟨rfl,rfl⟩
       have hp2:(symF q.key a i M (xs)).Perm xs:=(zdZ q.key a i M _ (by omega) (by omega) (by omega)).trans hp1
       have hy2:(symF q.key a i M (xs)).length=n0:=by rw [hp2.length_eq,hn]
       refine gGw ?_
       refine br (fun hc2=>?_) (fun hc2=>?_)
       ·have hd2:M<M+m-i∧M+m-i<b:=by simp only [Bool.and_eq_true,decide_eq_true_eq] at hc2;omega
        refine gGw ?_
        refine⟨zaU,zac (m1:=SoM q A c n0 (symF q.key a i M (xs))) (by repeat constructor) (fun w' hm'=>hy2 ▸ ih _ M (M+m-i) b w' (by omega) (by omega) (by omega) (by omega) (by omega) (hq.perm hp2) (KIn.row (KIn.fr hK hm'.fr)) (hy2 ▸ hm'.part)) ?_⟩
        rintro e m' ⟨rfl,rfl⟩
        refine gGw ?_
        refine fin0 rfl (fun w' hm=>⟨_,⟨rfl,?_⟩,hm⟩) (by first|exact .inl rfl|exact .inr rfl)
        rw [eY]
        unfold symT
        rw [if_neg hd0,if_pos hd1,if_pos hd2]
        all_goals rfl
       ·have hd2:¬ (M<M+m-i∧M+m-i<b):=by simp only [Bool.and_eq_false_iff,decide_eq_false_iff_not] at hc2;omega
        refine gGw ?_
        refine fin0 rfl (fun w' hm=>⟨_,⟨rfl,?_⟩,hm⟩) (by first|exact .inl rfl|exact .inr rfl)
        rw [eY]
        unfold symT
        rw [if_neg hd0,if_pos hd1,if_neg hd2]
        all_goals rfl
      ·have hd1:¬ (a<i∧i<M):=by simp only [Bool.and_eq_false_iff,decide_eq_false_iff_not] at hc1;omega
       have hp2:(xs).Perm xs:=List.Perm.refl _
       have hy2:(xs).length=n0:=by rw [hp2.length_eq,hn]
       refine gGw ?_
       refine br (fun hc2=>?_) (fun hc2=>?_)
       ·have hd2:M<M+m-i∧M+m-i<b:=by simp only [Bool.and_eq_true,decide_eq_true_eq] at hc2;omega
        refine gGw ?_
        refine⟨zaU,zac (m1:=SoM q A c n0 (xs)) (by repeat constructor) (fun w' hm'=>hy2 ▸ ih _ M (M+m-i) b w' (by omega) (by omega) (by omega) (by omega) (by omega) (hq.perm hp2) (KIn.row (KIn.fr hK hm'.fr)) (hy2 ▸ hm'.part)) ?_⟩
        rintro e m' ⟨rfl,rfl⟩
        refine gGw ?_
        refine fin0 rfl (fun w' hm=>⟨_,⟨rfl,?_⟩,hm⟩) (by first|exact .inl rfl|exact .inr rfl)
        rw [eY]
        unfold symT
        rw [if_neg hd0,if_neg hd1,if_pos hd2]
        all_goals rfl
       ·have hd2:¬ (M<M+m-i∧M+m-i<b):=by simp only [Bool.and_eq_false_iff,decide_eq_false_iff_not] at hc2;omega
        refine gGw ?_
        refine fin0 rfl (fun w' hm=>⟨_,⟨rfl,?_⟩,hm⟩) (by first|exact .inl rfl|exact .inr rfl)
        rw [eY]
        unfold symT
        rw [if_neg hd0,if_neg hd1,if_neg hd2]
        all_goals rfl
end Go.Proofs.YtlmgelmloddfgaaGreat
namespace Go.Proofs.YtlmgelmloddfgaaGreat
open Go Go.RowKit Eng
theorem zn1 (q:Ks) (A:Option Addr) (c:Nat):∀ N,SymC q A c N
 | 0=>fun xs a m b w hN h1 h2=>by omega
 | N+1=>zqZ q A c N (zn1 q A c N)
attribute [local irreducible] Br Rn RnU Cl RdG CpG Ld Rd Lp Dr Oth Cut fin Fits Eng.Enters Md NA
set_option maxHeartbeats 2000000 in
theorem zpk (q:Ks) (A:Option Addr) (c:Nat) (xs:List Int) (w:World) (hl:xs.length≤1048576) (hq:KsOk q xs) (hK:KIn q A c xs.length xs w) (hm:MemOk w (Foot (SoM q A c xs.length xs)) (SoM q A c xs.length xs) w) :
  Ctr Tryz.prog 238 [.slice A xs.length c,.int .i64 (xs.length:Int),q.fv] (SoM q A c xs.length xs) (fun e m'=>e=.returned (.tuple #[])∧m'=SoM q A c xs.length (zgG q.key xs)) w:=by
 unfold zgG
 obtain ⟨n0,hn⟩:∃ n,n=xs.length:=⟨_,rfl⟩
 rw [← hn] at hl hm hK ⊢
 refine enter (cx:=CXS 63 [] w (Foot (SoM q A c n0 xs))) [(0,.slice A n0 c),(1,.int .i64 (n0:Int)),(2,q.fv)] zaa Tryz.func238 rfl rfl rfl rfl hm ?_
 have hins:∀ (ys:List Int),ys.Perm xs→∀ (a b:Nat),b≤n0→a≤1048576→∀ w',MemOk w (Foot (SoM q A c n0 xs)) (SoM q A c n0 ys) w'→Ctr Tryz.prog 255 [.slice A n0 c,.int .i64 (a:Int),.int .i64 (b:Int),q.fv] (SoM q A c n0 ys) (fun e m'=>e=.returned (.tuple #[])∧m'=SoM q A c n0 (insF q.key ys a b)) w':=by
  intro ys hp a b hb ha w' hm'
  have hyl:ys.length=n0:=by rw [hp.length_eq,hn]
  exact hyl ▸ znl q A c ys a b w' (hq.perm hp) (KIn.row (KIn.fr hK hm'.fr)) (by omega) (by omega) ha (hyl ▸ hm'.part)
 have hsym:∀ (ys:List Int),ys.Perm xs→∀ (a m b:Nat),a<m→m<b→b≤n0→∀ w',MemOk w (Foot (SoM q A c n0 xs)) (SoM q A c n0 ys) w'→Ctr Tryz.prog 256 [.slice A n0 c,.int .i64 (a:Int),.int .i64 (m:Int),.int .i64 (b:Int),q.fv] (SoM q A c n0 ys) (fun e m'=>e=.returned (.tuple #[])∧m'=SoM q A c n0 (symF q.key a m b ys)) w':=by
  intro ys hp a m b h1 h2 h3 w' hm'
  have hyl:ys.length=n0:=by rw [hp.length_eq,hn]
  exact hyl ▸ zn1 q A c (b-a) ys a m b w' (Nat.le_refl _) h1 h2 (by omega) (by omega) (hq.perm hp) (KIn.row (KIn.fr hK hm'.fr)) (hyl ▸ hm'.part)
 refine gGw ?_
 refine lp zaa (γ:=Nat) (fun t=>20*t≤n0) (fun t=>[(8,.int .i64 ((20*t+20:Nat):Int)),(7,.int .i64 ((20*t:Nat):Int)),(6,.int .i64 20),(0,.slice A n0 c),(1,.int .i64 (n0:Int)),(2,q.fv)]) (fun t=>SoM q A c n0 (zdq q.key n0 t xs)) (fun t=>n0-20*t) 0 (by omega) ⟨rfl,rfl,rfl,rfl,rfl,rfl,trivial⟩ (SubM.refl _ _) ?_
 rintro t ht
 dsimp only
 have hp:=ze8 q.key n0 t xs (by omega)
 refine gGw ?_
 refine br_d (fun hle=>?_) (fun hgt=>?_)
 ·have eB:zdq q.key n0 (t+1) xs=insF q.key (zdq q.key n0 t xs) (20*t) (20*t+20):=rfl
  refine gGw ?_
  refine⟨zfC,zac (m1:=SoM q A c n0 (zdq q.key n0 t xs)) (by repeat constructor) (fun w' hm'=>hins _ hp (20*t) (20*t+20) (by omega) (by omega) w' hm') ?_⟩
  rintro e m' ⟨rfl,rfl⟩
  refine gGw ?_
  refine⟨t+1,by omega,by omega,⟨?_,rfl,rfl,rfl,rfl,rfl,trivial⟩,?_⟩
  ·refine congrArg (fun x:Int=>some (Value.int .i64 x)) ?_
   push_cast;omega
  ·rw [eB];exact SubM.refl _ _
 ·have ht2:t=n0/20:=by omega
  subst ht2
  refine gGw ?_
  refine⟨zfC,zac (m1:=SoM q A c n0 (zdq q.key n0 (n0/20) xs)) (by repeat constructor) (fun w' hm'=>hins _ hp (20*(n0/20)) n0 (by omega) (by omega) w' hm') ?_⟩
  rintro e m' ⟨rfl,rfl⟩
  have hp2:=(ziw q.key (zdq q.key n0 (n0/20) xs) (20*(n0/20)) n0 (by rw [hp.length_eq];omega)).trans hp
  generalize insF q.key (zdq q.key n0 (n0/20) xs) (20*(n0/20)) n0=y0 at hp2 ⊢
  clear hp
  refine gGw ?_
  refine lp zaa (γ:=Nat × List Int) (fun g=>20≤g.1∧g.1≤2*n0+20∧g.2.Perm xs∧zdg q.key n0 20 y0=zdg q.key n0 g.1 g.2) (fun g=>[(6,.int .i64 (g.1:Int)),(0,.slice A n0 c),(1,.int .i64 (n0:Int)),(2,q.fv)]) (fun g=>SoM q A c n0 g.2) (fun g=>n0-g.1) (20,y0) ⟨Nat.le_refl _,by simp only;omega,hp2,rfl⟩ ⟨rfl,rfl,rfl,rfl,trivial⟩ (SubM.refl _ _) ?_
  rintro ⟨s,ys⟩ ⟨hs,hs2,hp,he⟩
  simp only at hs hs2 hp he
  dsimp only
  have hyl:ys.length=n0:=by rw [hp.length_eq,hn]
  refine gGw ?_
  refine br_d (fun hlt=>?_) (fun hge=>?_)
  ·have eP:zdg q.key n0 s ys=zdg q.key n0 (s*2) (zkx q.key n0 s ys):=by rw [zdg,if_pos (by omega)]
   refine gGw ?_
   refine lp zaa (γ:=Nat) (fun t=>2*s*t≤n0) (fun t=>[(8,.int .i64 ((2*s*t+2*s:Nat):Int)),(7,.int .i64 ((2*s*t:Nat):Int)),(6,.int .i64 (s:Int)),(0,.slice A n0 c),(1,.int .i64 (n0:Int)),(2,q.fv)]) (fun t=>SoM q A c n0 (zeT q.key s t ys)) (fun t=>n0-2*s*t) 0 (by simp) ⟨?_,rfl,rfl,rfl,rfl,rfl,trivial⟩ (SubM.refl _ _) ?_
   ·refine congrArg (fun x:Int=>some (Value.int .i64 x)) ?_
    rw [Nat.mul_zero];push_cast;omega
   rintro t ht
   dsimp only
   have hpp:=(zfU q.key s (by omega) t ys (by rw [hyl];exact ht)).trans hp
   have hsucc:2*s*(t+1)=2*s*t+2*s:=Nat.mul_succ _ _
   refine gGw ?_
   refine br_d (fun hle=>?_) (fun hgt2=>?_)
   ·have eB:zeT q.key s (t+1) ys=symF q.key (2*s*t) (2*s*t+s) (2*s*t+2*s) (zeT q.key s t ys):=rfl
    obtain ⟨u,hu⟩:∃ u,u=2*s*t:=⟨_,rfl⟩
    rw [← hu] at ht hsucc eB hle ⊢
    have eu:((u:Nat):Int)+(s:Int)=((u+s:Nat):Int):=by push_cast;rfl
    refine gGw ?_
    rw [eu]
    refine⟨zaU,zac (m1:=SoM q A c n0 (zeT q.key s t ys)) (by repeat constructor) (fun w' hm'=>hsym _ hpp u (u+s) (u+2*s) (by omega) (by omega) (by omega) w' hm') ?_⟩
    rintro e m' ⟨rfl,rfl⟩
    refine gGw ?_
    refine⟨t+1,by omega,by omega,⟨?_,?_,rfl,rfl,rfl,rfl,trivial⟩,?_⟩
    ·refine congrArg (fun x:Int=>some (Value.int .i64 x)) ?_
     rw [hsucc];push_cast;omega
    ·rw [hsucc];rfl
    ·rw [eB];exact SubM.refl _ _
   ·have ht2:t=n0/(2*s):=by
     have h1:2*s*t≤n0:=ht
     have h2:n0<2*s*(t+1):=by rw [hsucc];omega
     exact (Nat.div_eq_of_lt_le (by rw [Nat.mul_comm];exact h1) (by rw [Nat.mul_comm];exact h2)).symm
    have eF:zkx q.key n0 s ys=if 2*s*t+s<n0 then symF q.key (2*s*t) (2*s*t+s) n0 (zeT q.key s t ys) else zeT q.key s t ys:=by
     unfold zkx;rw [ht2]
    have hpF:(zkx q.key n0 s ys).Perm xs:=by
     have:=zjx q.key s (by omega) ys
     rw [hyl] at this
     exact this.trans hp
    clear ht2
    obtain ⟨u,hu⟩:∃ u,u=2*s*t:=⟨_,rfl⟩
    rw [← hu] at ht eF hgt2 ⊢
    have eu:((u:Nat):Int)+(s:Int)=((u+s:Nat):Int):=by push_cast;rfl
    refine gGw ?_
    refine br_d (fun hm2=>?_) (fun hm2=>?_)
    ·rw [if_pos (by omega)] at eF
     refine gGw ?_
     rw [eu]
     refine⟨zaU,zac (m1:=SoM q A c n0 (zeT q.key s t ys)) (by repeat constructor) (fun w' hm'=>hsym _ hpp u (u+s) n0 (by omega) (by omega) (by omega) w' hm') ?_⟩
     rintro e m' ⟨rfl,rfl⟩
     rw [← eF]
     refine gGw ?_
     refine⟨(s*2,zkx q.key n0 s ys),⟨by simp only;omega,by simp only;omega,hpF,by rw [he,eP]⟩,by simp only;omega,⟨?_,rfl,rfl,rfl,trivial⟩,SubM.refl _ _⟩
     refine congrArg (fun x:Int=>some (Value.int .i64 x)) ?_
     push_cast;rfl
    ·rw [if_neg (by omega)] at eF
     rw [← eF]
     refine gGw ?_
     refine⟨(s*2,zkx q.key n0 s ys),⟨by simp only;omega,by simp only;omega,hpF,by rw [he,eP]⟩,by simp only;omega,⟨?_,rfl,rfl,rfl,trivial⟩,SubM.refl _ _⟩
     refine congrArg (fun x:Int=>some (Value.int .i64 x)) ?_
     push_cast;rfl
  ·have eP:zdg q.key n0 s ys=ys:=by rw [zdg,if_neg (by omega)]
   refine gGw ?_
   rw [he,eP]
   exact fin0 rfl (fun w' hm=>⟨_,⟨rfl,rfl⟩,hm⟩) (by first|exact .inl rfl|exact .inr rfl)
theorem zpl (q:Ks) (A:Option Addr) (c:Nat) (xs:List Int) (w:World) (hl:xs.length≤1048576) (hq:KsOk q xs) (hK:KIn q A c xs.length xs w) (hm:MemOk w (Foot (SoM q A c xs.length xs)) (SoM q A c xs.length xs) w) :
  Ctr Tryz.prog 220 [.slice A xs.length c,q.fv] (SoM q A c xs.length xs) (fun e m'=>e=.returned (.tuple #[])∧m'=SoM q A c xs.length (zgG q.key xs)) w:=by
 refine enter (cx:=CXS 9 [] w (Foot (SoM q A c xs.length xs))) [(0,.slice A xs.length c),(1,q.fv)] zaa Tryz.func220 rfl rfl rfl rfl hm ?_
 refine gGw ?_
 refine⟨zj7,zac (m1:=SoM q A c xs.length xs) (by repeat constructor) (fun w' hm'=>zpk q A c xs w' hl hq (KIn.fr hK hm'.fr) hm'.part) ?_⟩
 rintro e m' ⟨rfl,rfl⟩
 refine gGw ?_
 exact fin0 rfl (fun w' hm=>⟨_,⟨rfl,rfl⟩,hm⟩) (by first|exact .inl rfl|exact .inr rfl)
end Go.Proofs.YtlmgelmloddfgaaGreat
namespace Go.Proofs.YtlmgelmloddfgaaGreat
open Go Go.RowKit Eng
def zcE (L:List Int):Nat→List Int
 | 0=>List.replicate 16 0
 | i+1=>if 0<L.getD i 0 then (zcE L i).set (L.getD i 0).toNat ((zcE L i).getD (L.getD i 0).toNat 0+1) else zcE L i
def sym0 (L:List Int):Nat→List Int
 | 0=>[]
 | i+1=>if 0<L.getD i 0 then sym0 L i++[(i:Int)] else sym0 L i
def keyL (L:List Int) (x:Int):Int:=L.getD x.toNat 0
def zdk (L:List Int):List Int:=zcE L L.length
def zcw (L:List Int):List Int:=zgG (keyL L) (sym0 L L.length)
theorem zd6 (L:List Int):∀ i,(zcE L i).length=16
 | 0=>by simp [zcE]
 | i+1=>by
  rw [zcE]
  split
  ·rw [List.length_set,zd6 L i]
  ·exact zd6 L i
theorem zhx (L:List Int):∀ i k,0≤(zcE L i).getD k 0∧(zcE L i).getD k 0≤i
 | 0,k=>by
  have:(zcE L 0).getD k 0=0:=by
   rw [zcE,List.getD_eq_getElem?_getD,List.getElem?_replicate]
   split<;>rfl
  rw [this];omega
 | i+1,k=>by
  have h:=zhx L i k
  have h2:=zhx L i (L.getD i 0).toNat
  rw [zcE]
  split
  ·rw [List.getD_eq_getElem?_getD,List.getElem?_set]
   split
   ·split
    ·simp only [Option.getD_some];omega
    ·simp only [Option.getD_none];omega
   ·rw [← List.getD_eq_getElem?_getD];omega
  ·omega
theorem zhs (L:List Int):∀ i,(sym0 L i).length≤i
 | 0=>by simp [sym0]
 | i+1=>by
  have:=zhs L i
  rw [sym0]
  split
  ·simp;omega
  ·omega
theorem zhr (L:List Int):∀ i x,x∈sym0 L i→0≤x∧x<i
 | 0,x,h=>by cases h
 | i+1,x,h=>by
  rw [sym0] at h
  split at h
  ·rcases List.mem_append.1 h with h|h
   ·have:=zhr L i x h;omega
   ·rw [List.mem_singleton] at h;omega
  ·have:=zhr L i x h;omega
abbrev cdC (lA:Option Addr) (n lc:Nat) (many:List Int) (sA:Option Addr) (sn sc:Nat):List Value:=.slice lA n lc::(many.map (.int .i64)++[.slice sA sn sc])
structure Cd where
 B:Nat
 lA:Option Addr
 lc:Nat
 sA:Option Addr
 sc:Nat
 L:List Int
abbrev CdM (d:Cd):Mem:=[.blk d.B (.cells (cdC d.lA d.L.length d.lc (zdk d.L) d.sA (zcw d.L).length d.sc).toArray 328),IR d.lA d.lc d.L.length d.L,IR d.sA d.sc (zcw d.L).length (zcw d.L)]
theorem ziR (lA:Option Addr) (n lc:Nat) (ms:List Int) (sA:Option Addr) (sn sc k:Nat) (hk:k<ms.length):nth (cdC lA n lc ms sA sn sc) (0+1+k)=some (.int .i64 (ms.getD k 0)):=by
 rw [zcr,show 0+1+k=k+1 by omega,List.getElem?_cons_succ,List.getElem?_append_left (by simpa using hk),List.getElem?_map,List.getD_eq_getElem?_getD,List.getElem?_eq_getElem hk]
 rfl
theorem zyf (lA:Option Addr) (n lc:Nat) (ms:List Int) (sA:Option Addr) (sn sc k:Nat) (x:Int) (hk:k<ms.length):zbu (0+1+k) [.int .i64 x] (cdC lA n lc ms sA sn sc)=cdC lA n lc (ms.set k x) sA sn sc:=by
 rw [zaS _ _ _ (by simp;omega),show 0+1+k=k+1 by omega]
 simp only [cdC,List.take_succ_cons,List.map_set,List.length_singleton]
 rw [List.take_append_of_le_length (by simp;omega),show k+1+1=(k+1)+1 from rfl,List.drop_succ_cons,List.drop_append_of_le_length (by simp;omega),List.set_eq_take_append_cons_drop,if_pos (by simpa using hk)]
 simp
theorem zk7 (lA:Option Addr) (n lc:Nat) (ms:List Int) (sA:Option Addr) (sn sc:Nat) (hk:ms.length=16):nth (cdC lA n lc ms sA sn sc) (0+17)=some (.slice sA sn sc):=by
 rw [zcr,show 0+17=16+1 by omega,List.getElem?_cons_succ,List.getElem?_append_right (by simp;omega),List.length_map,hk]
 rfl
theorem zvc (lA:Option Addr) (n lc:Nat) (ms:List Int) (sA:Option Addr) (sn sc:Nat) (sA':Option Addr) (sn' sc':Nat) (hk:ms.length=16):zbu (0+17) [.slice sA' sn' sc'] (cdC lA n lc ms sA sn sc)=cdC lA n lc ms sA' sn' sc':=by
 rw [zaS _ _ _ (by simp;omega),show 0+17=16+1 by omega]
 simp only [cdC,List.take_succ_cons,List.length_singleton]
 rw [List.take_append_of_le_length (by simp;omega),List.take_of_length_le (by simp;omega),show 16+1+1=(16+1)+1 from rfl,List.drop_succ_cons,List.drop_of_length_le (by simp;omega)]
 simp
attribute [local irreducible] Br Rn RnU Cl RdG CpG Ld Rd Lp Dr Oth Cut fin Fits Eng.Enters Md NA
theorem zeq:Eng.Enters Tryz.prog 200:=zab fun _ _=>by kernel_rfl
set_option maxHeartbeats 1000000 in
theorem zoE (L:List Int) (A:Option Addr) (c:Nat) (w:World) (hb:IntsIn .i64 w A L) (hc:zbM L=0) (hw:zbf L≤32768) :
  Ctr Tryz.prog 200 [.slice A L.length c] [] (fun e m'=>∃ d:Cd,d.L=L∧e=.returned (.tuple #[.pointer (some ⟨d.B,0,none⟩),.int .i64 0])∧m'=CdM d) w:=by
 have hF:∀ w',Fr (Foot []) w w'→IntsIn .i64 w' A L:=fun w' hf=>Ints.in_ (IntsIn.ints (cx:=CX 0 [] w) (m:=[]) hb (fun _ h=>h)) ((MemOk.nil w _).same (hf.mono (fun k _ ⟨r,hr,_⟩=>by cases hr)))
 obtain ⟨hLv,hLl⟩:=zfl hc
 have eW:zeh L=(zbf L,0):=if_pos hc
 refine enter (cx:=CXS 62 [] w (Foot [])) [(0,.slice A L.length c)] zaa Tryz.func200 rfl rfl rfl rfl (MemOk.nil w _) ?_
 conv=>whnf
 intro lB
 refine gGw ?_
 refine⟨zeg,zae _ (fun w' hm'=>zgy L A c w' (hF w' hm'.fr) (by omega)) ?_⟩
 rw [eW]
 refine gGw ?_
 refine br_n (br_t rfl ?_)
 refine gGw ?_
 refine br_f (decide_eq_false (by omega)) ?_
 refine gGw ?_
 refine⟨zgs,zac (m1:=[]) .nil (fun w' hm'=>zjK A c L w' (hF w' hm'.fr) (by omega)) ?_⟩
 rintro e m' ⟨lA,lc,rfl,rfl⟩
 refine gGw ?_;(repeat ((first|refine .mk fun Ap capp=>?_|intro _);(conv=>whnf);refine gG0 ?_))
 rename_i cB
 have h1:=fun m=>IntsIn.ints (cx:=CXS 62 [] w (Foot [])) (m:=m) hb (fun b h=>zao b h)
 refine lp zaa (γ:=Nat × Option Addr × Nat) (fun g=>g.1≤L.length) (fun g=>[(27,.int .i64 (g.1:Int)),(26,.int .i64 (L.length:Int)),(25,.slice A L.length c),(6,.pointer (some ⟨cB,0,none⟩)),(1,.pointer (some ⟨lB,0,none⟩))]) (fun g=>[.blk lB (.cells #[.slice A L.length c] 23),.blk cB (.cells (cdC lA L.length lc (zcE L g.1) g.2.1 (sym0 L g.1).length g.2.2).toArray 328),IR lA lc L.length L,IR g.2.1 g.2.2 (sym0 L g.1).length (sym0 L g.1)]) (fun g=>L.length-g.1) (0,none,0) (by simp) ⟨rfl,rfl,rfl,rfl,rfl,trivial⟩ ?_ ?_
 ·refine fun w9 hm9=>((SubM.row0 (SubM.refl _ _) 3 1) w9 hm9).perm ?_
  exact (List.perm_append_comm (l₁:=[_,_,_]) (l₂:=[_])).trans ((List.perm_append_comm (l₁:=[_]) (l₂:=[_,_])).cons _)
 rintro ⟨i,sA,sc⟩ hi
 simp only at hi
 dsimp only
 refine gGw ?_
 refine br_d (fun hlt=>?_) (fun hge=>?_)
 ·have hlt':i<L.length:=by omega
  have hpl:Pl A:=(h1 []).plain (by omega)
  have hv:=hLv _ (zbF hlt')
  have hml:=zd6 L i
  have hmb:=zhx L i (L.getD i 0).toNat
  have hsl:=zhs L i
  have eM:zcE L (i+1)=if 0<L.getD i 0 then (zcE L i).set (L.getD i 0).toNat ((zcE L i).getD (L.getD i 0).toNat 0+1) else zcE L i:=rfl
  have eS:sym0 L (i+1)=if 0<L.getD i 0 then sym0 L i++[(i:Int)] else sym0 L i:=rfl
  refine gGw ?_
  refine And.intro ⟨by omega,by omega,hpl⟩ ?_
  conv=>whnf
  refine zaj ((h1 _).ld zaa rfl rfl (j:=i) (by omega)) ?_
  refine gGw ?_
  generalize L.getD i 0=v at hv hmb eM eS ⊢
  refine br_d (fun hpos=>?_) (fun hz=>?_)
  ·rw [if_pos hpos] at eM eS
   generalize zcE L i=ms at hml hmb eM ⊢
   generalize sym0 L i=ss at hsl eS ⊢
   conv=>whnf
   refine zcH 9 zaa mixed (by kernel_rfl) rfl rfl ?_
   refine gGw ?_
   refine And.intro ⟨by omega,by omega,by simp [Pl,pl]⟩ ?_
   conv=>whnf
   have hn1:=ziR lA L.length lc ms sA ss.length sc v.toNat (by omega)
   refine⟨.int .i64 (ms.getD v.toNat 0),(ld1 (off:=0+1+v.toNat) zaa (by repeat constructor) rfl rfl hn1).g,?_⟩
   refine gGw ?_
   refine And.intro ⟨by omega,by omega,by simp [Pl,pl]⟩ ?_
   conv=>whnf
   have hs1:=zyf lA L.length lc ms sA ss.length sc v.toNat (ms.getD v.toNat 0+1) (by omega)
   refine zaT (b:=cB) (off:=0+1+v.toNat) zaa rfl (by repeat constructor) rfl rfl (Nat.ble_eq_true_of_le (show 0+1+v.toNat+1≤_ by simp;omega)) hs1 ?_
   have hml2:(ms.set v.toNat (ms.getD v.toNat 0+1)).length=16:=by rw [List.length_set,hml]
   clear hs1 hn1
   generalize ms.set v.toNat (ms.getD v.toNat 0+1)=ms2 at hml2 eM ⊢
   refine gGw ?_
   refine zaj (ld1 (off:=0+17) zaa (by repeat constructor) rfl rfl (zk7 lA L.length lc ms2 sA ss.length sc hml2)) ?_
   refine gGw ?_;(repeat ((first|refine .mk fun Ap capp=>?_|intro _);(conv=>whnf);refine gG0 ?_))
   refine zaT (b:=cB) (off:=0+17) zaa rfl (by repeat constructor) rfl rfl (Nat.ble_eq_true_of_le (show 0+17+1≤_ by simp;omega)) (zvc lA L.length lc ms2 sA ss.length sc Ap (ss.length+1) capp hml2) ?_
   refine gGw ?_
   refine⟨(i+1,Ap,capp),by simp only;omega,by simp only;omega,⟨rfl,rfl,rfl,rfl,rfl,trivial⟩,?_⟩
   show SubM _ _ [.blk lB (.cells #[.slice A L.length c] 23),.blk cB (.cells (cdC lA L.length lc (zcE L (i+1)) Ap (sym0 L (i+1)).length capp).toArray 328),IR lA lc L.length L,IR Ap capp (sym0 L (i+1)).length (sym0 L (i+1))]
   rw [eM,eS,show (ss++[(i:Int)]).length=ss.length+1 by simp]
   refine fun w9 hm9=>((SubM.row (by simp;rfl) rfl (List.sublist_cons_self _ _)) w9 hm9).perm (List.perm_append_comm (l₁:=[_]) (l₂:=[_,_,_]))
  ·rw [if_neg hz] at eM eS
   refine gGw ?_
   refine⟨(i+1,sA,sc),by simp only;omega,by simp only;omega,⟨rfl,rfl,rfl,rfl,rfl,trivial⟩,?_⟩
   show SubM _ _ [.blk lB (.cells #[.slice A L.length c] 23),.blk cB (.cells (cdC lA L.length lc (zcE L (i+1)) sA (sym0 L (i+1)).length sc).toArray 328),IR lA lc L.length L,IR sA sc (sym0 L (i+1)).length (sym0 L (i+1))]
   rw [eM,eS]
   exact SubM.refl _ _
 ·obtain rfl:i=L.length:=by omega
  have hsl:=zhs L L.length
  have hsm:=zhr L L.length
  have hml:=zd6 L L.length
  have hq:KsOk ⟨lB,A,c,L⟩ (sym0 L L.length):=⟨by simp only;omega,fun x hx=>by have:=hLv x hx;omega,hsm⟩
  refine gGw ?_
  refine zaj (ld1 (off:=0+17) zaa (by repeat constructor) rfl rfl (zk7 lA L.length lc (zcE L L.length) sA (sym0 L L.length).length sc hml)) ?_
  refine gGw ?_
  refine⟨zj9,zac (m1:=SoM ⟨lB,A,c,L⟩ sA sc (sym0 L L.length).length (sym0 L L.length)) (by repeat constructor) (fun w' hm'=>zpl ⟨lB,A,c,L⟩ sA sc (sym0 L L.length) w' (by omega) hq (stb (cx:=CXS 62 [] w (Foot [])) hm' (fun w2 hm2=>Ints.in_ (h1 _) hm2)) hm'.part) ?_⟩
  rintro e m' ⟨rfl,rfl⟩
  refine gGw ?_
  have e1:(zcw L).length=(sym0 L L.length).length:=(zeF _ _).length_eq
  refine fin2 rfl rfl rfl (fun w' hm=>⟨_,⟨⟨cB,lA,lc,sA,sc,L⟩,rfl,rfl,rfl⟩,?_⟩)
  show MemOk _ _ [.blk cB (.cells (cdC lA L.length lc (zcE L L.length) sA (zcw L).length sc).toArray 328),IR lA lc L.length L,IR sA sc (zcw L).length (zcw L)] w'
  rw [e1]
  exact hm.tail.perm (List.perm_append_comm (l₁:=[_]) (l₂:=[_,_]))
end Go.Proofs.YtlmgelmloddfgaaGreat
namespace Go.Proofs.YtlmgelmloddfgaaGreat
open Go Go.RowKit Eng
def newE (L:List Int):Int:=if zbM L=0 then (if 32768<zbf L then 130 else 0) else zbM L
attribute [local irreducible] Br Rn RnU Cl RdG CpG Ld Rd Lp Dr Oth Cut fin Fits Eng.Enters Md NA
theorem zwU (L:List Int) (A:Option Addr) (c:Nat) (w:World) (hb:IntsIn .i64 w A L) (hl:L.length≤140737488355328) (hne:newE L≠0) :
  Ctr Tryz.prog 200 [.slice A L.length c] [] (fun e m'=>e=.returned (.tuple #[.pointer none,.int .i64 (newE L)])∧m'=[]) w:=by
 have hF:∀ w',Fr (Foot []) w w'→IntsIn .i64 w' A L:=fun w' hf=>Ints.in_ (IntsIn.ints (cx:=CX 0 [] w) (m:=[]) hb (fun _ h=>h)) ((MemOk.nil w _).same (hf.mono (fun k _ ⟨r,hr,_⟩=>by cases hr)))
 refine enter (cx:=CXS 62 [] w (Foot [])) [(0,.slice A L.length c)] zaa Tryz.func200 rfl rfl rfl rfl (MemOk.nil w _) ?_
 conv=>whnf
 intro lB
 refine gGw ?_
 refine⟨zeg,zae _ (fun w' hm'=>zgy L A c w' (hF w' hm'.fr) (by omega)) ?_⟩
 by_cases hc:zbM L=0
 ·have eW:zeh L=(zbf L,0):=if_pos hc
  have eN:newE L=if 32768<zbf L then 130 else 0:=if_pos hc
  have hgt:32768<zbf L:=by
   by_cases h:32768<zbf L
   ·exact h
   ·rw [if_neg h] at eN;exact absurd eN hne
  rw [if_pos hgt] at eN
  rw [eW,eN]
  refine gGw ?_
  refine br_n (br_t rfl ?_)
  refine gGw ?_
  refine br_t (decide_eq_true (by omega)) ?_
  refine gGw ?_
  exact fin2 rfl rfl rfl (fun w' hm=>⟨_,⟨rfl,rfl⟩,hm.sublist (List.nil_sublist _)⟩)
 ·have eW:zeh L=(0,zbM L):=if_neg hc
  have eN:newE L=zbM L:=if_neg hc
  rw [eW,eN]
  generalize zbM L=x at hc
  refine gGw ?_
  refine br_n (br_f (decide_eq_false hc) ?_)
  refine gGw ?_
  exact fin2 rfl rfl rfl (fun w' hm=>⟨_,⟨rfl,rfl⟩,hm.sublist (List.nil_sublist _)⟩)
end Go.Proofs.YtlmgelmloddfgaaGreat
namespace Go.Proofs.YtlmgelmloddfgaaGreat
open Go Go.RowKit Eng
def tk1 (ms:List Int) (have_:Int):Nat→Nat→Int→Int→Int→Nat→Option (Nat × Int) × Int × Int
 | 0,_,code,first,_,_=>(none,code,first)
 | f+1,n,code,first,index,v =>
  if have_<n then (none,code,first)
  else if code+(v%2:Nat)-first<ms.getD n 0 then (some (n,index+(code+(v%2:Nat))-first),0,0)
  else tk1 ms have_ f (n+1) (2*(code+(v%2:Nat))) (2*(first+ms.getD n 0)) (index+ms.getD n 0) (v/2)
def tk2 (ms:List Int):Nat→Nat→Int→Int→Int
 | 0,_,_,_=>131
 | f+1,n,code,first=>if code<first+ms.getD n 0∧0<ms.getD n 0 then 120 else tk2 ms f (n+1) (2*code) (2*(first+ms.getD n 0))
def hvqF (q:Rdr) (at_:Nat):Int:=if 8*(q.bs.length:Int)-at_<15 then 8*(q.bs.length:Int)-at_ else 15
def tkF (L:List Int) (q:Rdr) (at_:Nat):Int × Int × Nat :=
 match tk1 (zdk L) (hvqF q at_) 15 1 0 0 0 (zbU q.bs at_ 15) with
 | (some (n,i),_,_)=>((zcw L).getD i.toNat 0,0,at_+n)
 | (none,code,first)=>(0,tk2 (zdk L) (15-(hvqF q at_).toNat) ((hvqF q at_).toNat+1) code first,at_)
theorem zgS {L:List Int} (h:newE L=0):zbM L=0∧zbf L≤32768:=by
 unfold newE at h
 split at h
 ·rename_i h1
  split at h
  ·omega
  ·exact⟨h1,by omega⟩
 ·rename_i h1;exact absurd h h1
theorem zwu (l:List Int):∀ k,k<l.length→(l.set k (l.getD k 0+1)).sum=l.sum+1:=by
 induction l with
 | nil=>intro k h;simp at h
 | cons a t ih =>
  intro k h
  cases k with
  | zero=>simp;omega
  | succ k =>
   have:=ih k (by simpa using h)
   simp only [List.set_cons_succ,List.sum_cons,List.getD_cons_succ]
   omega
theorem sumS (L:List Int) (hb:∀ x∈L,0≤x∧x≤15):∀ i,i≤L.length→(zcE L i).sum=(sym0 L i).length
 | 0,_=>by rw [zcE,sym0];decide
 | i+1,h=>by
  have ih:=sumS L hb i (by omega)
  have hv:=hb _ (zbF (xs:=L) (i:=i) (by omega))
  have hl:=zd6 L i
  rw [zcE,sym0]
  split
  ·rw [zwu _ _ (by omega),ih];simp
  ·exact ih
theorem ztZ (L:List Int) (hc:zbM L=0):(zdk L).sum=(sym0 L L.length).length:=sumS L (zfl hc).1 _ (Nat.le_refl _)
theorem znf (L:List Int):∀ i,(zcE L i).getD 0 0=0
 | 0=>rfl
 | i+1=>by
  rw [zcE]
  split
  ·rw [List.getD_eq_getElem?_getD,List.getElem?_set_ne (by omega),← List.getD_eq_getElem?_getD,znf L i]
  ·exact znf L i
theorem take1:∀ ms:List Int,(ms.take 1).sum=ms.getD 0 0
 | []=>rfl
 | a::t=>by simp
theorem zq2 (ms:List Int) (k:Nat) (h:k<ms.length):(ms.take (k+1)).sum=(ms.take k).sum+ms.getD k 0:=by
 rw [List.take_succ_eq_append_getElem h,List.sum_append,List.getD_eq_getElem?_getD,List.getElem?_eq_getElem h]
 simp
theorem zq3:∀ ms:List Int,(∀ k,0≤ms.getD k 0)→0≤ms.sum
 | [],_=>by simp
 | a::t,h=>by
  have h0:=h 0
  have h1:=zq3 t (fun k=>by simpa using h (k+1))
  rw [List.getD_cons_zero] at h0
  rw [List.sum_cons];omega
theorem zxB (ms:List Int) (k:Nat) (h:∀ k,0≤ms.getD k 0):(ms.take k).sum≤ms.sum:=by
 have h1:ms.sum=(ms.take k).sum+(ms.drop k).sum:=by rw [← List.sum_append,List.take_append_drop]
 have h2:=zq3 (ms.drop k) (fun j=>by
  have:=h (k+j)
  rwa [List.getD_eq_getElem?_getD,List.getElem?_drop,← List.getD_eq_getElem?_getD])
 omega
abbrev CdX (d:Cd) (ms:List Int):Mem:=[.blk d.B (.cells (cdC d.lA d.L.length d.lc ms d.sA (zcw d.L).length d.sc).toArray 328),IR d.lA d.lc d.L.length d.L,IR d.sA d.sc (zcw d.L).length (zcw d.L)]
theorem mask1 (v:Nat) (hv:v<32768):Go.bits .and .u64 (v:Int) 1=((v%2:Nat):Int):=by
 have h:=bits_mask .u64 64 (by decide) wraps_u64 1 (by omega) (v:Int) (by omega) (by omega)
 rw [show (2:Int) ^ 1-1=1 by decide] at h
 rw [h];omega
theorem or1 (c:Int) (b:Nat) (h0:0≤c) (h1:c%2=0) (h2:c≤65536) (hb:b<2):Go.bits .or .i64 c (b:Int)=c+(b:Int) :=
 bits_join .i64 63 (by decide) (fun n h0 h1=>IntWalk.i64_in n (by omega)) 1 c b h0 (by omega) (by omega) (by omega) (by omega) (by omega)
theorem zwD {cx:Cx} {g:Prop} {m:Mem} {s:Sem Value} {v:Value} (h:∀ w,s.run cx.P w=.ok v w):RdG cx g m s v:=fun _=>zco h
attribute [local irreducible] Br Rn RnU Cl RdG CpG Ld Rd Lp Dr Oth Cut fin Fits Eng.Enters Md NA
theorem zeZ:Eng.Enters Tryz.prog 216:=zab fun _ _=>by kernel_rfl
theorem zmc:Eng.Enters Tryz.prog 204:=zab fun _ _=>by kernel_rfl
theorem zma:Eng.Enters Tryz.prog 234:=zab fun _ _=>by kernel_rfl
theorem eqCd (t:Nat) (a:Addr) (w:World):(zdS .eql 298 (.tmp t) (.const (.pointer none)) (.pointer (some a)) (.pointer none)).run Tryz.prog w=.ok (.bool false) w:=by kernel_rfl
set_option maxHeartbeats 1000000 in
theorem ziy (d:Cd) (q:Rdr) (at_:Nat) (w:World) (hl:q.bs.length≤20000000) (ha:at_≤8*q.bs.length) (hc:newE d.L=0) (hm:MemOk w (Foot (CdM d++RM q at_)) (CdM d++RM q at_) w) :
  Ctr Tryz.prog 216 [.pointer (some ⟨d.B,0,none⟩),.pointer (some ⟨q.B,0,none⟩)] (CdM d++RM q at_) (fun e m'=>e=.returned (.tuple #[.int .i64 (tkF d.L q at_).1,.int .i64 (tkF d.L q at_).2.1])∧m'=CdM d++RM q (tkF d.L q at_).2.2) w:=by
 refine enter (cx:=CXS 121 [] w (Foot (CdM d++RM q at_))) [(0,.pointer (some ⟨d.B,0,none⟩)),(1,.pointer (some ⟨q.B,0,none⟩))] zaa Tryz.func216 rfl rfl rfl rfl hm ?_
 refine gGw ?_
 refine zdh zaa ?_
 refine gGw ?_
 refine Rd.n (zco fun w=>eqCd _ _ w) ?_
 refine gGw ?_
 refine⟨.bool false,zwD fun w=>eqRd _ _ w,?_⟩
 conv=>whnf
 refine br_f rfl ?_
 refine gGw ?_
 refine⟨zmc,zac (m1:=RM q at_) (by repeat constructor) (fun w' hm'=>zok q at_ 15 w' hl ha (by omega) hm'.part) ?_⟩
 rintro e m' ⟨rfl,rfl⟩
 have hv0:=zhw q.bs at_ 15
 have eH:hvqF q at_=if 8*(q.bs.length:Int)-at_<((15:Nat):Int) then 8*(q.bs.length:Int)-at_ else ((15:Nat):Int):=rfl
 rw [← eH]
 have hh:0≤hvqF q at_∧hvqF q at_≤15∧hvqF q at_≤8*(q.bs.length:Int)-at_:=by unfold hvqF;split<;>omega
 have eT:tkF d.L q at_=match tk1 (zdk d.L) (hvqF q at_) 15 1 0 0 0 (zbU q.bs at_ 15) with
  | (some (n,i),_,_)=>((zcw d.L).getD i.toNat 0,0,at_+n)
  | (none,code,first)=>(0,tk2 (zdk d.L) (15-(hvqF q at_).toNat) ((hvqF q at_).toNat+1) code first,at_):=rfl
 have hml:(zdk d.L).length=16:=zd6 _ _
 have hmb:=fun k=>zhx d.L d.L.length k
 change ∀ k,0≤(zdk d.L).getD k 0∧(zdk d.L).getD k 0≤_ at hmb
 obtain ⟨hLv,hLl⟩:=zfl (zgS hc).1
 have hsum:=ztZ d.L (zgS hc).1
 have hsl:(zcw d.L).length=(sym0 d.L d.L.length).length:=(zeF _ _).length_eq
 generalize hvqF q at_=hv at hh eT ⊢
 generalize zbU q.bs at_ 15=v0 at hv0 eT ⊢
 have hs1:((zdk d.L).take 1).sum=0:=by rw [take1];exact znf _ _
 generalize hms:zdk d.L=ms at hml hmb hsum hs1 eT ⊢
 refine gGw ?_
 refine lp zaa (γ:=Nat × Int × Int × Int × Nat) (fun g=>1≤g.1∧g.1≤16∧g.2.1%2=0∧0≤g.2.2.1∧g.2.2.1≤g.2.1∧g.2.1<2 ^ g.1∧g.2.2.2.1=(ms.take g.1).sum∧g.2.2.2.2<32768∧tk1 ms hv 15 1 0 0 0 v0=tk1 ms hv (16-g.1) g.1 g.2.1 g.2.2.1 g.2.2.2.1 g.2.2.2.2)
  (fun g=>[(12,.int .i64 (g.1:Int)),(9,.int .i64 g.2.1),(10,.int .i64 g.2.2.1),(11,.int .i64 g.2.2.2.1),(6,.int .u64 (g.2.2.2.2:Nat)),(7,.int .i64 hv),(0,.pointer (some ⟨d.B,0,none⟩)),(1,.pointer (some ⟨q.B,0,none⟩))]) (fun _=>CdX d ms++RM q at_) (fun g=>16-g.1) (1,0,0,0,v0) ⟨by simp,by simp,rfl,by simp,by simp,by simp,hs1.symm,hv0,rfl⟩
  ⟨rfl,rfl,rfl,rfl,rfl,rfl,rfl,rfl,trivial⟩ (SubM.perm (List.perm_append_comm (l₁:=RM q at_) (l₂:=CdX d ms))) ?_
 rintro ⟨n,code,first,index,v⟩ ⟨hn1,hn2,hev,hf0,hfc,hcb,hix,hvb,hT⟩
 simp only at hn1 hn2 hev hf0 hfc hcb hix hvb hT
 dsimp only
 conv=>whnf
 by_cases hgo:n≤15∧(n:Int)≤hv
 ·obtain ⟨hgo1,hgo2⟩:=hgo
  refine br_t (decide_eq_true (by omega)) ?_
  conv=>whnf
  refine br_f (decide_eq_false (by omega)) ?_
  refine gGw ?_
  have hp2:2 ^ n≤2 ^ 15:=Nat.pow_le_pow_right (by omega) (by omega)
  have hp3:((2 ^ n:Nat):Int)=(2:Int) ^ n:=by push_cast;rfl
  have hcb2:code<32768:=by omega
  have hv2:v%2<2:=by omega
  rw [mask1 v hvb]
  refine And.intro (zaf (by omega)) ?_
  refine gGw ?_
  rw [or1 code (v%2) (by omega) hev (by omega) hv2]
  have hT2:tk1 ms hv (16-n) n code first index v=if hv<n then (none,code,first) else if code+(v%2:Nat)-first<ms.getD n 0 then (some (n,index+(code+(v%2:Nat))-first),0,0)
    else tk1 ms hv (15-n) (n+1) (2*(code+(v%2:Nat))) (2*(first+ms.getD n 0)) (index+ms.getD n 0) (v/2):=by
   rw [show 16-n=(15-n)+1 by omega];rfl
  rw [if_neg (by omega)] at hT2
  have hmn:=hmb n
  have hi0:0≤(ms.take n).sum∧(ms.take (n+1)).sum=(ms.take n).sum+ms.getD n 0∧(ms.take (n+1)).sum≤ms.sum :=
   ⟨zq3 _ (fun k=>by
    rw [List.getD_eq_getElem?_getD,List.getElem?_take]
    split
    ·rw [← List.getD_eq_getElem?_getD];exact (hmb k).1
    ·simp),zq2 _ _ (by omega),zxB _ _ (fun k=>(hmb k).1)⟩
  have hsy:=zhs d.L d.L.length
  have hv22:((v:Int)/2 ^ Int.toNat 1)=((v/2:Nat):Int):=by rw [show (2:Int) ^ Int.toNat 1=2 by decide];omega
  rw [hv22]
  generalize hgb:v%2=b at hv2 hT2 ⊢
  generalize hgh:v/2=h at hT2 ⊢
  refine And.intro (zaf (by omega)) ?_
  refine gGw ?_
  refine And.intro ⟨by omega,by omega,by simp [Pl,pl]⟩ ?_
  conv=>whnf
  refine zaj (ld1 (off:=0+1+n) zaa (by repeat constructor) rfl rfl (ziR d.lA d.L.length d.lc ms d.sA (zcw d.L).length d.sc n (by omega))) ?_
  refine gGw ?_
  refine br_d (fun hfo=>?_) (fun hnf=>?_)
  ·rw [if_pos hfo] at hT2
   rw [hT,hT2] at eT
   simp only at eT
   refine gGw ?_
   refine⟨zma,zac (m1:=RM q at_) (by repeat constructor) (fun w' hm'=>zt4 q at_ n w' hl (by omega) hm'.part) ?_⟩
   rintro e m' ⟨rfl,rfl⟩
   refine gGw ?_
   refine zaj (ld1 (off:=0+17) zaa (by repeat constructor) rfl rfl (zk7 d.lA d.L.length d.lc ms d.sA (zcw d.L).length d.sc hml)) ?_
   refine gGw ?_
   have hpl:Pl d.sA:=zc0 (hm.ok _ (List.mem_cons_of_mem _ (List.mem_cons_of_mem _ (List.mem_cons_self ..)))) (by omega)
   refine And.intro ⟨by omega,by omega,hpl⟩ ?_
   conv=>whnf
   have hjs:((zcw d.L).map (Value.int .i64))[(index+(code+b)-first).toNat]?=some (.int .i64 ((zcw d.L).getD (index+(code+b)-first).toNat 0)):=by
    have hlt:(index+(code+b)-first).toNat<(zcw d.L).length:=by omega
    rw [List.getElem?_map,List.getD_eq_getElem?_getD,List.getElem?_eq_getElem hlt];rfl
   refine zaj (ldR zaa (by repeat constructor) rfl rfl hjs) ?_
   refine gGw ?_
   rw [eT]
   exact fin2 rfl rfl rfl (fun w' hm=>⟨_,⟨rfl,rfl⟩,by subst hms;exact hm.perm (List.perm_append_comm (l₁:=RM q (at_+n)) (l₂:=CdX d (zdk d.L)))⟩)
  ·rw [if_neg hnf] at hT2
   refine gGw ?_
   refine And.intro ⟨by omega,by omega,by simp [Pl,pl]⟩ ?_
   conv=>whnf
   refine zaj (ld1 (off:=0+1+n) zaa (by repeat constructor) rfl rfl (ziR d.lA d.L.length d.lc ms d.sA (zcw d.L).length d.sc n (by omega))) ?_
   refine gGw ?_
   refine And.intro ⟨by omega,by omega,by simp [Pl,pl]⟩ ?_
   conv=>whnf
   refine zaj (ld1 (off:=0+1+n) zaa (by repeat constructor) rfl rfl (ziR d.lA d.L.length d.lc ms d.sA (zcw d.L).length d.sc n (by omega))) ?_
   refine gGw ?_
   have ew:∀ x:Int,0≤x∧x≤1000000→IntKind.i64.wrap (x*2 ^ Int.toNat 1)=2*x:=fun x hx=>by
    rw [show (2:Int) ^ Int.toNat 1=2 by decide]
    exact (IntWalk.i64_in _ (by omega)).trans (by omega)
   rw [ew _ (by omega),ew _ (by omega)]
   have hpe:(2:Int) ^ (n+1)=2*2 ^ n∧(2:Int) ^ n%2=0:=⟨by rw [Int.pow_succ,Int.mul_comm],by
    rw [show n=(n-1)+1 by omega,Int.pow_succ];omega⟩
   refine⟨(n+1,2*(code+b),2*(first+ms.getD n 0),index+ms.getD n 0,h),⟨by simp only;omega,by simp only;omega,by simp only;omega,by simp only;omega,by simp only;omega,by simp only;omega,by simp only;omega,by simp only;omega,?_⟩,by simp only;omega,⟨rfl,rfl,rfl,rfl,rfl,rfl,rfl,rfl,trivial⟩,SubM.refl _ _⟩
   simp only
   rw [show 16-(n+1)=15-n by omega];exact hT.trans hT2
 ·have hx:tk1 ms hv 15 1 0 0 0 v0=(none,code,first):=by
   rw [hT]
   by_cases h16:n=16
   ·subst h16;rfl
   ·rw [show 16-n=(15-n)+1 by omega,tk1,if_pos (by omega)]
  rw [hx] at eT
  simp only at eT
  refine br_d (fun h15=>?_) (fun h15=>?_)
  rotate_left
  rotate_left
  case' refine_1 =>
   conv=>whnf
   refine br_t (decide_eq_true (by omega)) ?_
  all_goals
   refine gGw ?_
   have hpc:(2:Int) ^ n≤65536:=by
    have h1:2 ^ n≤65536:=Nat.le_trans (Nat.pow_le_pow_right (by omega) hn2) (by decide)
    have h2:((2 ^ n:Nat):Int)=(2:Int) ^ n:=Int.natCast_pow 2 n
    omega
   have hph:((2 ^ (hv.toNat+1+16):Nat):Int)≥((2 ^ 17:Nat):Int):=Int.ofNat_le.2 (Nat.pow_le_pow_right (by omega) (by omega))
   refine lp zaa (γ:=Nat × Int × Int × Int) (fun g=>1≤g.1∧g.1≤16∧g.2.1=(g.1:Int)∧0≤g.2.2.1∧g.2.2.1≤((2 ^ (g.1+16):Nat):Int)∧0≤g.2.2.2∧g.2.2.2+640≤((2 ^ (g.1+16):Nat):Int)∧tk2 ms (15-hv.toNat) (hv.toNat+1) code first=tk2 ms (16-g.1) g.1 g.2.2.1 g.2.2.2)
    (fun g=>[(13,.int .i64 g.2.1),(9,.int .i64 g.2.2.1),(10,.int .i64 g.2.2.2),(0,.pointer (some ⟨d.B,0,none⟩))]) (fun _=>CdX d ms++RM q at_) (fun g=>16-g.1) (hv.toNat+1,hv+1,code,first) ⟨by simp only;omega,by simp only;omega,by simp only;omega,by simp only;omega,by simp only;omega,by simp only;omega,by simp only;omega,by simp only;rw [show 16-(hv.toNat+1)=15-hv.toNat by omega]⟩
    ⟨rfl,rfl,rfl,rfl,trivial⟩ (SubM.refl _ _) ?_
   rintro ⟨m,x,c2,f2⟩ ⟨hm1,hm2,hxm,hc0,hcl,hf0',hfl,hT3⟩
   simp only at hm1 hm2 hxm hc0 hcl hf0' hfl hT3
   subst hxm
   dsimp only
   have hpm:((2 ^ (m+16):Nat):Int)≤((2 ^ 32:Nat):Int):=Int.ofNat_le.2 (Nat.pow_le_pow_right (by omega) (by omega))
   have hmm:=hmb m
   have hpe:((2 ^ (m+1+16):Nat):Int)=2*((2 ^ (m+16):Nat):Int):=by rw [show m+1+16=(m+16)+1 by omega,Nat.pow_succ];push_cast;omega
   generalize ((2 ^ (m+16):Nat):Int)=p2 at hcl hfl hpm hpe
   conv=>whnf
   refine br_d (fun hlt=>?_) (fun hge=>?_)
   ·refine gGw ?_
    refine And.intro ⟨by omega,by omega,by simp [Pl,pl]⟩ ?_
    conv=>whnf
    refine zaj (ld1 (off:=0+1+m) zaa (by repeat constructor) rfl rfl (ziR d.lA d.L.length d.lc ms d.sA (zcw d.L).length d.sc m (by omega))) ?_
    refine gGw ?_
    refine And.intro (fun _=>⟨by omega,by omega,by simp [Pl,pl]⟩) ?_
    conv=>whnf
    refine⟨.int .i64 (ms.getD m 0),ldg (fun _=>ld1 (off:=0+1+m) zaa (by repeat constructor) rfl rfl (ziR d.lA d.L.length d.lc ms d.sA (zcw d.L).length d.sc m (by omega))),?_⟩
    refine gGw ?_
    have hT4:tk2 ms (16-m) m c2 f2=if c2<f2+ms.getD m 0∧0<ms.getD m 0 then 120 else tk2 ms (15-m) (m+1) (2*c2) (2*(f2+ms.getD m 0)):=by
     rw [show 16-m=(15-m)+1 by omega];rfl
    by_cases hboth:c2<f2+ms.getD m 0∧0<ms.getD m 0
    ·rw [if_pos hboth] at hT4
     rw [hT3,hT4] at eT
     refine br_t (by rw [decide_eq_true hboth.1,decide_eq_true hboth.2];rfl) ?_
     refine gGw ?_
     rw [eT]
     exact fin2 rfl rfl rfl (fun w' hm=>⟨_,⟨rfl,rfl⟩,by subst hms;exact hm⟩)
    ·rw [if_neg hboth] at hT4
     refine br_f (by rw [← Bool.decide_and];exact decide_eq_false hboth) ?_
     refine gGw ?_
     refine And.intro ⟨by omega,by omega,by simp [Pl,pl]⟩ ?_
     conv=>whnf
     refine zaj (ld1 (off:=0+1+m) zaa (by repeat constructor) rfl rfl (ziR d.lA d.L.length d.lc ms d.sA (zcw d.L).length d.sc m (by omega))) ?_
     refine gGw ?_
     have ew:∀ x:Int,0≤x∧x≤10000000000→IntKind.i64.wrap (x*2 ^ Int.toNat 1)=2*x:=fun x hx=>by
      rw [show (2:Int) ^ Int.toNat 1=2 by decide]
      exact (IntWalk.i64_in _ (by omega)).trans (by omega)
     rw [ew _ (by omega),ew _ (by omega)]
     refine⟨(m+1,(m:Int)+1,2*c2,2*(f2+ms.getD m 0)),⟨by simp only;omega,by simp only;omega,by simp only;omega,by simp only;omega,by simp only;omega,by simp only;omega,by simp only;omega,?_⟩,by simp only;omega,⟨rfl,rfl,rfl,rfl,trivial⟩,SubM.refl _ _⟩
     simp only
     rw [show 16-(m+1)=15-m by omega];exact hT3.trans hT4
   ·have hT4:tk2 ms (16-m) m c2 f2=131:=by rw [show 16-m=0 by omega];rfl
    rw [hT3,hT4] at eT
    refine gGw ?_
    rw [eT]
    exact fin2 rfl rfl rfl (fun w' hm=>⟨_,⟨rfl,rfl⟩,by subst hms;exact hm⟩)
end Go.Proofs.YtlmgelmloddfgaaGreat
namespace Go.Proofs.YtlmgelmloddfgaaGreat
open Go Go.RowKit Eng
abbrev upP (n:Int):List PanicEntry:=[{ v:=.iface 28 (.int .i64 n),recovered:=false }]
attribute [local irreducible] Br Rn RnU Cl RdG CpG Ld Rd Lp Dr Oth Cut fin Fits Eng.Enters Md NA
theorem zas:Eng.Enters Tryz.prog 172:=zab fun _ _=>by kernel_rfl
theorem zaE (x:Value) (n:Int) (w:World) :
  Ctr Tryz.prog 172 [x,.int .i64 n] [] (fun e m'=>e=(if n=0 then .returned x else .panicked (upP n))∧m'=[]) w:=by
 refine enter (cx:=CXS 10 [] w (Foot [])) [(0,x),(1,.int .i64 n)] zaa Tryz.func172 rfl rfl rfl rfl (MemOk.nil w _) ?_
 refine gGw ?_
 by_cases h:n=0
 ·refine br_n (br_t (decide_eq_true h) ?_)
  refine gGw ?_
  exact fin1 rfl rfl (fun w' hm=>⟨_,⟨(if_pos h).symm,rfl⟩,hm⟩)
 ·refine br_n (br_f (decide_eq_false h) ?_)
  refine gGw ?_
  exact zaq (fun w' hm=>⟨_,⟨(if_neg h).symm,rfl⟩,hm⟩)
theorem zhd:Eng.Enters Tryz.prog 195:=zab fun _ _=>by kernel_rfl
theorem zl2 (x:Value) (n:Int) (w:World) :
  Ctr Tryz.prog 195 [x,.int .i64 n] [] (fun e m'=>e=(if n=0 then .returned x else .panicked (upP n))∧m'=[]) w:=by
 refine enter (cx:=CXS 10 [] w (Foot [])) [(0,x),(1,.int .i64 n)] zaa Tryz.func195 rfl rfl rfl rfl (MemOk.nil w _) ?_
 refine gGw ?_
 by_cases h:n=0
 ·refine br_n (br_t (decide_eq_true h) ?_)
  refine gGw ?_
  exact fin1 rfl rfl (fun w' hm=>⟨_,⟨(if_pos h).symm,rfl⟩,hm⟩)
 ·refine br_n (br_f (decide_eq_false h) ?_)
  refine gGw ?_
  exact zaq (fun w' hm=>⟨_,⟨(if_neg h).symm,rfl⟩,hm⟩)
theorem zdE:Eng.Enters Tryz.prog 199:=zab fun _ _=>by kernel_rfl
theorem zgl (x:Value) (n:Int) (w:World) :
  Ctr Tryz.prog 199 [x,.int .i64 n] [] (fun e m'=>e=(if n=0 then .returned x else .panicked (upP n))∧m'=[]) w:=by
 refine enter (cx:=CXS 10 [] w (Foot [])) [(0,x),(1,.int .i64 n)] zaa Tryz.func199 rfl rfl rfl rfl (MemOk.nil w _) ?_
 refine gGw ?_
 by_cases h:n=0
 ·refine br_n (br_t (decide_eq_true h) ?_)
  refine gGw ?_
  exact fin1 rfl rfl (fun w' hm=>⟨_,⟨(if_pos h).symm,rfl⟩,hm⟩)
 ·refine br_n (br_f (decide_eq_false h) ?_)
  refine gGw ?_
  exact zaq (fun w' hm=>⟨_,⟨(if_neg h).symm,rfl⟩,hm⟩)
theorem zck:Eng.Enters Tryz.prog 215:=zab fun _ _=>by kernel_rfl
theorem zd5 (x:Value) (n:Int) (w:World) :
  Ctr Tryz.prog 215 [x,.int .i64 n] [] (fun e m'=>e=(if n=0 then .returned x else .panicked (upP n))∧m'=[]) w:=by
 refine enter (cx:=CXS 10 [] w (Foot [])) [(0,x),(1,.int .i64 n)] zaa Tryz.func215 rfl rfl rfl rfl (MemOk.nil w _) ?_
 refine gGw ?_
 by_cases h:n=0
 ·refine br_n (br_t (decide_eq_true h) ?_)
  refine gGw ?_
  exact fin1 rfl rfl (fun w' hm=>⟨_,⟨(if_pos h).symm,rfl⟩,hm⟩)
 ·refine br_n (br_f (decide_eq_false h) ?_)
  refine gGw ?_
  exact zaq (fun w' hm=>⟨_,⟨(if_neg h).symm,rfl⟩,hm⟩)
theorem ze5:Eng.Enters Tryz.prog 203:=zab fun _ _=>by kernel_rfl
theorem zkW:Eng.Enters Tryz.prog 171:=zab fun _ _=>by kernel_rfl
def zey (L:List Int) (none_:Bool):Int:=if mayL L none_=false then 151 else newE L
theorem zsv (L:List Int) (none_:Bool) (A:Option Addr) (c:Nat) (w:World) (hb:IntsIn .i64 w A L) (hl:L.length≤100000) :
  Ctr Tryz.prog 203 [.slice A L.length c,.bool none_] [] (fun e m'=>(zey L none_=0∧∃ d:Cd,d.L=L∧e=.returned (.pointer (some ⟨d.B,0,none⟩))∧m'=CdM d)∨(zey L none_≠0∧e=.panicked (upP (zey L none_))∧m'=[])) w:=by
 have hF:∀ w',Fr (Foot []) w w'→IntsIn .i64 w' A L:=fun w' hf=>Ints.in_ (IntsIn.ints (cx:=CX 0 [] w) (m:=[]) hb (fun _ h=>h)) ((MemOk.nil w _).same (hf.mono (fun k _ ⟨r,hr,_⟩=>by cases hr)))
 refine enter (cx:=CXS 15 [] w (Foot [])) [(0,.slice A L.length c),(1,.bool none_)] zaa Tryz.func203 rfl rfl rfl rfl (MemOk.nil w _) ?_
 refine gGw ?_
 refine⟨znu,zac (m1:=[]) .nil (fun w' hm'=>zu4 L none_ A c w' (hF w' hm'.fr) (by omega)) ?_⟩
 rintro e m' ⟨rfl,rfl⟩
 cases hmay:mayL L none_ with
 | false =>
  have eC:zey L none_=151:=by unfold zey;rw [if_pos hmay]
  refine gGw ?_
  refine br_n (br_f rfl ?_)
  refine gGw ?_
  exact zaq (fun w' hm=>⟨_,.inr ⟨by rw [eC];decide,by rw [eC],rfl⟩,hm⟩)
 | true =>
  have eC:zey L none_=newE L:=by unfold zey;rw [if_neg (by rw [hmay];decide)]
  refine gGw ?_
  refine br_n (br_t rfl ?_)
  refine gGw ?_
  by_cases hne:newE L=0
  ·refine⟨zeq,zac (m1:=[]) .nil (fun w' hm'=>zoE L A c w' (hF w' hm'.fr) (zgS hne).1 (zgS hne).2) ?_⟩
   rintro e m' ⟨d,hd,rfl,rfl⟩
   refine gGw ?_
   refine⟨zdE,zac (m1:=[]) .nil (fun w' hm'=>zgl _ 0 w') ?_⟩
   rintro e m' ⟨rfl,rfl⟩
   rw [if_pos rfl]
   refine gGw ?_
   exact fin1 rfl rfl (fun w' hm=>⟨_,.inl ⟨eC.trans hne,d,hd,rfl,rfl⟩,hm⟩)
  ·refine⟨zeq,zac (m1:=[]) .nil (fun w' hm'=>zwU L A c w' (hF w' hm'.fr) (by omega) hne) ?_⟩
   rintro e m' ⟨rfl,rfl⟩
   refine gGw ?_
   refine⟨zdE,zac (m1:=[]) .nil (fun w' hm'=>zgl _ (newE L) w') ?_⟩
   rintro e m' ⟨rfl,rfl⟩
   rw [if_neg hne]
   conv=>whnf
   exact zaq (fun w' hm=>⟨_,.inr ⟨fun h=>hne (eC.symm.trans h),by rw [eC],rfl⟩,hm⟩)
end Go.Proofs.YtlmgelmloddfgaaGreat
namespace Go.Proofs.YtlmgelmloddfgaaGreat
open Go Go.RowKit Eng
def fAt (f:Int) (xs:List Int):Nat→Int
 | 0=>f
 | i+1=>fAt f xs i+2 ^ (xs.getD i 0).toNat
def firR (f:Int) (xs:List Int):Nat→List Int
 | 0=>List.replicate xs.length 0
 | i+1=>(firR f xs i).set i (fAt f xs i)
def firF (f:Int) (xs:List Int):List Int:=firR f xs xs.length
theorem zoN (f:Int) (xs:List Int):∀ i,(firR f xs i).length=xs.length
 | 0=>by simp [firR]
 | i+1=>by rw [firR,List.length_set,zoN f xs i]
theorem zsm (f:Int) (xs:List Int) (hf:0≤f∧f≤1000) (hx:∀ x∈xs,0≤x∧x≤13):∀ i,i≤xs.length→0≤fAt f xs i∧fAt f xs i≤1000+8192*i
 | 0,_=>by rw [fAt];omega
 | i+1,h=>by
  have ih:=zsm f xs hf hx i (by omega)
  have hv:=hx _ (zbF (xs:=xs) (i:=i) (by omega))
  have h1:2 ^ (xs.getD i 0).toNat≤2 ^ 13:=Nat.pow_le_pow_right (by omega) (by omega)
  have h2:((2 ^ (xs.getD i 0).toNat:Nat):Int)=(2:Int) ^ (xs.getD i 0).toNat:=Int.natCast_pow 2 _
  have h3:0<2 ^ (xs.getD i 0).toNat:=Nat.two_pow_pos _
  rw [fAt];omega
attribute [local irreducible] Br Rn RnU Cl RdG CpG Ld Rd Lp Dr Oth Cut fin Fits Eng.Enters Md NA
theorem zgp:Eng.Enters Tryz.prog 265:=zab fun _ _=>by kernel_rfl
theorem zjH (f:Int) (xs:List Int) (A:Option Addr) (c:Nat) (w:World) (hb:IntsIn .i64 w A xs) (hl:xs.length≤30) (hf:0≤f∧f≤1000) (hx:∀ x∈xs,0≤x∧x≤13) :
  Ctr Tryz.prog 265 [.int .i64 f,.slice A xs.length c] [] (fun e m'=>∃ rA rc,e=.returned (.slice rA xs.length rc)∧m'=[IR rA rc xs.length (firF f xs)]) w:=by
 refine enter (cx:=CXS 28 [] w (Foot [])) [(0,.int .i64 f),(1,.slice A xs.length c)] zaa Tryz.func265 rfl rfl rfl rfl (MemOk.nil w _) ?_
 have h1:=fun m=>IntsIn.ints (cx:=CXS 28 [] w (Foot [])) (m:=m) hb (fun b h=>zao b h)
 refine gGw ?_
 refine zc6 zaa rfl rfl rfl rfl rfl (by omega) (by rw [Int.toNat_natCast];show 8*_≤_;omega) (by omega) (fun rB=>?_)
 rw [Int.toNat_natCast]
 refine gGw ?_
 refine lp zaa (γ:=Nat) (fun i=>i≤xs.length) (fun i=>[(13,.int .i64 (i:Int)),(12,.int .i64 (xs.length:Int)),(11,.slice A xs.length c),(0,.int .i64 (fAt f xs i)),(5,.slice (some ⟨rB,0,none⟩) xs.length xs.length)]) (fun i=>[IR (some ⟨rB,0,none⟩) xs.length xs.length (firR f xs i)]) (fun i=>xs.length-i) 0 (by omega) ⟨rfl,rfl,rfl,rfl,rfl,trivial⟩ (SubM.row (by simp [firR]) rfl (List.Sublist.refl _)) ?_
 rintro i hi
 dsimp only
 conv=>whnf
 refine br_d (fun hlt=>?_) (fun hge=>?_)
 ·have hlt':i<xs.length:=by omega
  have hpl:Pl A:=(h1 []).plain (by omega)
  have hv:=hx _ (zbF hlt')
  have hb0:=zsm f xs hf hx i (by omega)
  have hb1:=zsm f xs hf hx (i+1) (by omega)
  have hrl:=zoN f xs i
  have eF:fAt f xs (i+1)=fAt f xs i+2 ^ (xs.getD i 0).toNat:=rfl
  have eR:firR f xs (i+1)=(firR f xs i).set i (fAt f xs i):=rfl
  have hpw:IntKind.i64.wrap (1*2 ^ (xs.getD i 0).toNat)=2 ^ (xs.getD i 0).toNat:=by rw [Int.one_mul];exact IntWalk.i64_in _ (by omega)
  refine gGw ?_
  refine And.intro ⟨by omega,by omega,hpl⟩ ?_
  conv=>whnf
  refine zaj ((h1 _).ld zaa rfl rfl (j:=i) (by omega)) ?_
  refine gGw ?_
  refine And.intro ⟨by omega,by omega,Pl.mk _ _⟩ ?_
  conv=>whnf
  refine zaz (off:=i) (xs':=(firR f xs (i+1)).map (.int .i64)) zaa rfl (by repeat constructor) rfl rfl (by show i+1≤xs.length*1;omega) (Nat.one_pos) (by rw [eR,List.map_set];rfl) ?_
  refine gGw ?_
  refine And.intro ⟨by omega,by show _≤(64:Int);omega⟩ ?_
  conv=>whnf
  rw [hpw]
  refine gG0 ?_
  exact⟨i+1,by omega,by omega,⟨rfl,rfl,rfl,rfl,rfl,trivial⟩,SubM.refl _ _⟩
 ·obtain rfl:i=xs.length:=by omega
  refine gGw ?_
  exact fin1 rfl rfl (fun w' hm=>⟨_,⟨_,_,rfl,rfl⟩,hm⟩)
end Go.Proofs.YtlmgelmloddfgaaGreat
namespace Go.Proofs.YtlmgelmloddfgaaGreat
open Go Go.RowKit Eng
def dWid (i:Nat):List Int:=(List.range 30).map fun k=>if 4≤k∧k<i then (k:Int)/2-1 else 0
theorem zx9:∀ i,i<30→4≤i→(dWid i).set i ((i:Int)/2-1)=dWid (i+1):=by decide
theorem zvH (i:Nat):(dWid i).length=30:=by simp [dWid]
theorem dW_bd:∀ x∈dWid 30,0≤x∧x≤13:=by decide
attribute [local irreducible] Br Rn RnU Cl RdG CpG Ld Rd Lp Dr Oth Cut fin Fits Eng.Enters Md NA
theorem zmq:Eng.Enters Tryz.prog 252:=zab fun _ _=>by kernel_rfl
theorem zst (w:World) :
  Ctr Tryz.prog 252 [] [] (fun e m'=>∃ wA wc rA rc,e=.returned (.tuple #[.slice wA 30 wc,.slice rA 30 rc])∧m'=[.row wA wc 30 370 1 ((dWid 30).map (.int .i64)),IR rA rc 30 (firF 1 (dWid 30))]) w:=by
 refine enter (cx:=CXS 16 [] w (Foot [])) [] zaa Tryz.func252 rfl rfl rfl rfl (MemOk.nil w _) ?_
 refine gGw ?_;(repeat ((first|refine .mk fun Ap capp=>?_|intro _);(conv=>whnf);refine gG0 ?_))
 rename_i bB
 refine lp zaa (γ:=Nat) (fun i=>4≤i∧i≤30) (fun i=>[(3,.int .i64 (i:Int)),(2,.pointer (some ⟨bB,0,none⟩))]) (fun i=>[.blk bB (.cells ((dWid i).map (Value.int .i64)).toArray 370)]) (fun i=>30-i) 4 (by omega) ⟨rfl,rfl,trivial⟩ (SubM.refl _ _) ?_
 rintro i hi
 dsimp only
 conv=>whnf
 refine br_d (fun hlt=>?_) (fun hge=>?_)
 ·have eq:IntKind.i64.wrap ((i:Int).tdiv 2)=(i:Int)/2:=by
   rw [Int.tdiv_eq_ediv_of_nonneg (by omega)];exact IntWalk.i64_in _ (by omega)
  have hl:=zvH i
  refine gGw ?_
  rw [eq]
  refine And.intro ⟨by omega,by omega,Pl.mk _ _⟩ ?_
  conv=>whnf
  refine zaT (b:=bB) (off:=0+i) (cs':=(dWid (i+1)).map (Value.int .i64)) zaa rfl (by repeat constructor) rfl rfl (Nat.ble_eq_true_of_le (show 0+i+1≤_ by rw [List.length_map,hl];omega)) (by rw [Nat.zero_add,← zx9 i (by omega) (by omega),List.map_set];rfl) ?_
  refine gGw ?_
  exact⟨i+1,by omega,by omega,⟨rfl,rfl,trivial⟩,SubM.refl _ _⟩
 ·obtain rfl:i=30:=by omega
  refine gGw ?_
  refine zbc (γ:=Option Addr × Nat) (Tr.hs [0,1] (.sq [2] (.hs [3,4] .done))) [] zaa mixed (by kernel_rfl) rfl (fun _=>True)
   (fun g=>[(0,.slice (some ⟨bB,0,none⟩) 30 30),(1,.slice g.1 30 g.2)]) (fun g=>[.row (some ⟨bB,0,none⟩) 30 30 370 1 ((dWid 30).map (.int .i64)),IR g.1 g.2 30 (firF 1 (dWid 30))]) (SubM.sel .nil) ?_ ?_
  ·refine gGw ?_
   refine And.intro ⟨by omega,by omega,by omega,Pl.mk _ _⟩ ?_
   refine gGw ?_
   refine And.intro ⟨by omega,by omega,by omega,Pl.mk _ _⟩ ?_
   refine gGw ?_
   refine⟨zgp,zcm (SubM.torow (n:=30) (by repeat constructor) rfl rfl) (zac (m1:=[]) .nil (fun w' hm'=>zjH 1 (dWid 30) (some ⟨bB,0,none⟩) 30 w' (rowI (hm'.ok _ (List.mem_cons_self ..))) (by decide) (by omega) dW_bd) ?_)⟩
   rintro e m' ⟨rA,rc,rfl,rfl⟩
   refine gGw ?_
   exact⟨(rA,rc),trivial,⟨rfl,rfl,trivial⟩,SubM.sl⟩
  ·rintro ⟨rA,rc⟩ -
   refine gGw ?_
   exact fin2 rfl rfl rfl (fun w' hm=>⟨_,⟨_,_,_,_,rfl,rfl⟩,hm⟩)
end Go.Proofs.YtlmgelmloddfgaaGreat
namespace Go.Proofs.YtlmgelmloddfgaaGreat
open Go Go.RowKit Eng
def lWid (i:Nat):List Int:=(List.range 29).map fun k=>if 8≤k∧k<i then (k:Int)/4-1 else 0
theorem zxQ:∀ i,i<28→8≤i→(lWid i).set i ((i:Int)/4-1)=lWid (i+1):=by decide
theorem zrR (i:Nat):(lWid i).length=29:=by simp [lWid]
theorem lW_bd:∀ x∈lWid 28,0≤x∧x≤13:=by decide
def lFir:List Int:=(firF 3 (lWid 28)).set 28 258
def dFir:List Int:=firF 1 (dWid 30)
theorem zxS:∀ i,i<29→3≤lFir.getD i 0∧lFir.getD i 0≤258:=by decide
theorem zyb:∀ i,i<30→1≤dFir.getD i 0∧dFir.getD i 0≤24577:=by decide
theorem zxR:∀ i,i<29→0≤(lWid 28).getD i 0∧(lWid 28).getD i 0≤5:=by decide
theorem zya:∀ i,i<30→0≤(dWid 30).getD i 0∧(dWid 30).getD i 0≤13:=by decide
attribute [local irreducible] Br Rn RnU Cl RdG CpG Ld Rd Lp Dr Oth Cut fin Fits Eng.Enters Md NA
theorem zni:Eng.Enters Tryz.prog 251:=zab fun _ _=>by kernel_rfl
theorem zlY:Eng.Enters Tryz.prog 235:=zab fun _ _=>by kernel_rfl
theorem zkz:Eng.Enters Tryz.prog 236:=zab fun _ _=>by kernel_rfl
theorem zuJ (w:World) :
  Ctr Tryz.prog 251 [] [] (fun e m'=>∃ wA wc rA rc,e=.returned (.tuple #[.slice wA 29 wc,.slice rA 29 rc])∧m'=[.row wA wc 29 368 1 ((lWid 28).map (.int .i64)),IR rA rc 29 lFir]) w:=by
 refine enter (cx:=CXS 20 [] w (Foot [])) [] zaa Tryz.func251 rfl rfl rfl rfl (MemOk.nil w _) ?_
 refine gGw ?_;(repeat ((first|refine .mk fun Ap capp=>?_|intro _);(conv=>whnf);refine gG0 ?_))
 rename_i bB
 refine lp zaa (γ:=Nat) (fun i=>8≤i∧i≤28) (fun i=>[(3,.int .i64 (i:Int)),(2,.pointer (some ⟨bB,0,none⟩))]) (fun i=>[.blk bB (.cells ((lWid i).map (Value.int .i64)).toArray 368)]) (fun i=>28-i) 8 (by omega) ⟨rfl,rfl,trivial⟩ (SubM.refl _ _) ?_
 rintro i hi
 dsimp only
 conv=>whnf
 refine br_d (fun hlt=>?_) (fun hge=>?_)
 ·have eq:IntKind.i64.wrap ((i:Int).tdiv 4)=(i:Int)/4:=by
   rw [Int.tdiv_eq_ediv_of_nonneg (by omega)];exact IntWalk.i64_in _ (by omega)
  have hl:=zrR i
  refine gGw ?_
  rw [eq]
  refine And.intro ⟨by omega,by omega,Pl.mk _ _⟩ ?_
  conv=>whnf
  refine zaT (b:=bB) (off:=0+i) (cs':=(lWid (i+1)).map (Value.int .i64)) zaa rfl (by repeat constructor) rfl rfl (Nat.ble_eq_true_of_le (show 0+i+1≤_ by rw [List.length_map,hl];omega)) (by rw [Nat.zero_add,← zxQ i (by omega) (by omega),List.map_set];rfl) ?_
  refine gGw ?_
  exact⟨i+1,by omega,by omega,⟨rfl,rfl,trivial⟩,SubM.refl _ _⟩
 ·obtain rfl:i=28:=by omega
  refine gGw ?_
  refine And.intro ⟨by omega,by omega,by omega,Pl.mk _ _⟩ ?_
  refine gGw ?_
  refine⟨zgp,zcm (SubM.torow (n:=29) (by repeat constructor) rfl rfl) (zac (m1:=[]) .nil (fun w' hm'=>(zjH 3 (lWid 28) (some ⟨bB,0,none⟩) 29 w' (rowI (hm'.ok _ (List.mem_cons_self ..))) (by decide) (by omega) lW_bd).ex) ?_)⟩
  rintro e m' ⟨⟨rA,rc,rfl,rfl⟩,w9,hok⟩
  have hpl:Pl rA:=zfw (hok _ (List.mem_cons_self ..)) (by rw [List.length_map];decide)
  have hll:(lWid 28).length=29:=zrR 28
  refine gGw ?_
  refine And.intro ⟨by omega,by rw [hll];omega,hpl⟩ ?_
  conv=>whnf
  refine zaz (off:=28) (xs':=lFir.map (.int .i64)) zaa rfl (by repeat constructor) rfl rfl (by rw [hll];decide) (Nat.one_pos) (by unfold lFir;rw [List.map_set];rfl) ?_
  refine gGw ?_
  refine And.intro ⟨by omega,by omega,by omega,Pl.mk _ _⟩ ?_
  refine gGw ?_
  exact fin2 rfl rfl rfl (fun w' hm=>⟨_,⟨_,_,_,_,rfl,rfl⟩,hm.sl⟩)
theorem zrG (s:Int) (w:World) (hs:257≤s∧s≤285) :
  Ctr Tryz.prog 235 [.int .i64 s] [] (fun e m'=>e=.returned (.tuple #[.int .i64 (lFir.getD (s-257).toNat 0),.int .i64 ((lWid 28).getD (s-257).toNat 0),.int .i64 0])∧m'=[]) w:=by
 refine enter (cx:=CXS 27 [] w (Foot [])) [(0,.int .i64 s)] zaa Tryz.func235 rfl rfl rfl rfl (MemOk.nil w _) ?_
 refine gGw ?_
 refine br_f (by rw [decide_eq_false (by omega),decide_eq_false (by omega)];rfl) ?_
 refine gGw ?_
 refine⟨zni,zac (m1:=[]) .nil (fun w' hm'=>(zuJ w').ex) ?_⟩
 rintro e m' ⟨⟨wA,wc,rA,rc,rfl,rfl⟩,w9,hok⟩
 have hp1:Pl wA:=zfw (hok _ (List.mem_cons_self ..)) (by rw [List.length_map];decide)
 have hp2:Pl rA:=zfw (hok _ (List.mem_cons_of_mem _ (List.mem_cons_self ..))) (by rw [List.length_map];decide)
 have hll:(lWid 28).length=29:=zrR 28
 have hfl:lFir.length=29:=by decide
 refine gGw ?_
 refine zar zaa mixed (by kernel_rfl) rfl ?_
 refine gGw ?_
 refine And.intro ⟨by omega,by omega,hp2⟩ ?_
 conv=>whnf
 refine⟨_,(ldR zaa (by repeat constructor) rfl rfl (zbm (xs:=lFir) (j:=(s-257).toNat) (by omega))).g,?_⟩
 refine gGw ?_
 refine And.intro ⟨by omega,by omega,hp1⟩ ?_
 conv=>whnf
 refine⟨_,(ldR zaa (by repeat constructor) rfl rfl (zbm (xs:=lWid 28) (j:=(s-257).toNat) (by omega))).g,?_⟩
 refine gGw ?_
 exact fin3 rfl rfl rfl rfl (fun w' hm=>⟨_,⟨rfl,rfl⟩,hm.sublist (List.nil_sublist _)⟩)
theorem zpJ (s:Int) (w:World) (hs:0≤s∧s≤29) :
  Ctr Tryz.prog 236 [.int .i64 s] [] (fun e m'=>e=.returned (.tuple #[.int .i64 (dFir.getD s.toNat 0),.int .i64 ((dWid 30).getD s.toNat 0),.int .i64 0])∧m'=[]) w:=by
 refine enter (cx:=CXS 25 [] w (Foot [])) [(0,.int .i64 s)] zaa Tryz.func236 rfl rfl rfl rfl (MemOk.nil w _) ?_
 refine gGw ?_
 refine br_f (by rw [decide_eq_false (by omega),decide_eq_false (by omega)];rfl) ?_
 refine gGw ?_
 refine⟨zmq,zac (m1:=[]) .nil (fun w' hm'=>(zst w').ex) ?_⟩
 rintro e m' ⟨⟨wA,wc,rA,rc,rfl,rfl⟩,w9,hok⟩
 have hp1:Pl wA:=zfw (hok _ (List.mem_cons_self ..)) (by rw [List.length_map];decide)
 have hp2:Pl rA:=zfw (hok _ (List.mem_cons_of_mem _ (List.mem_cons_self ..))) (by rw [List.length_map];decide)
 have hll:(dWid 30).length=30:=zvH 30
 have hfl:(firF 1 (dWid 30)).length=30:=by decide
 have hfe:firF 1 (dWid 30)=dFir:=rfl
 refine gGw ?_
 refine zar zaa mixed (by kernel_rfl) rfl ?_
 refine gGw ?_
 refine And.intro ⟨by omega,by omega,hp2⟩ ?_
 conv=>whnf
 refine⟨_,(ldR zaa (by repeat constructor) rfl rfl (zbm (xs:=firF 1 (dWid 30)) (j:=s.toNat) (by omega))).g,?_⟩
 refine gGw ?_
 refine And.intro ⟨by omega,by omega,hp1⟩ ?_
 conv=>whnf
 refine⟨_,(ldR zaa (by repeat constructor) rfl rfl (zbm (xs:=dWid 30) (j:=s.toNat) (by omega))).g,?_⟩
 refine gGw ?_
 exact fin3 rfl rfl rfl rfl (fun w' hm=>⟨_,⟨rfl,rfl⟩,hm.sublist (List.nil_sublist _)⟩)
end Go.Proofs.YtlmgelmloddfgaaGreat
namespace Go.Proofs.YtlmgelmloddfgaaGreat
open Go Go.RowKit Eng
abbrev DRes:=Except Int (Nat × List Int)
def zfN (bs:List UInt8) (at_ n:Nat):Except Int (Nat × Nat):=if at_+n≤8*bs.length then .ok (zbU bs at_ n,at_+n) else .error 120
def tkB (L:List Int) (bs:List UInt8) (at_:Nat):Int × Int × Nat:=tkF L ⟨0,none,0,bs⟩ at_
def symE (L:List Int) (bs:List UInt8) (at_:Nat):Except Int (Int × Nat):=if (tkB L bs at_).2.1=0 then .ok ((tkB L bs at_).1,(tkB L bs at_).2.2) else .error (tkB L bs at_).2.1
def zj6 (bs:List UInt8) (most:Int) (at_:Nat) (o:List Int):DRes :=
 match zfN bs (zb8 at_) 16 with
 | .error e=>.error e
 | .ok (n,a1)=>match zfN bs a1 16 with
  | .error e=>.error e
  | .ok (m,a2) =>
   if Go.bits .xor .u64 (n:Int) (m:Int)=65535 then
    if most-o.length<n then .error 141
    else if n≤(8*bs.length-a2)/8 then .ok (a2+8*n,o++zah ((bs.drop (a2/8)).take n)) else .error 120
   else .error 150
def cpy (far:Nat) (o:List Int):Nat→List Int
 | 0=>o
 | i+1=>cpy far o i++[(cpy far o i).getD ((cpy far o i).length-far) 0]
def zou (bs:List UInt8) (D:List Int) (most x:Int) (at_:Nat) (o:List Int):DRes :=
 match zfN bs at_ ((lWid 28).getD (x-257).toNat 0).toNat with
 | .error e=>.error e
 | .ok (more,a1) =>
  if x=284∧more=31 then .error 152
  else match symE D bs a1 with
   | .error e=>.error e
   | .ok (y,a2) =>
    if 29<y then .error 152
    else match zfN bs a2 ((dWid 30).getD y.toNat 0).toNat with
     | .error e=>.error e
     | .ok (m2,a3) =>
      if (o.length:Int)<dFir.getD y.toNat 0+m2 then .error 140
      else if most-o.length<lFir.getD (x-257).toNat 0+more then .error 141
      else .ok (a3,cpy (dFir.getD y.toNat 0+m2).toNat o (lFir.getD (x-257).toNat 0+more).toNat)
def zeU (bs:List UInt8) (L D:List Int) (most:Int):Nat→Nat→List Int→DRes
 | 0,_,_=>.error 120
 | f+1,at_,o=>match symE L bs at_ with
  | .error e=>.error e
  | .ok (x,a1) =>
   if x=256 then .ok (a1,o)
   else if 285<x then .error 152
   else if 256<x then match zou bs D most x a1 o with
    | .error e=>.error e
    | .ok (a2,o2)=>zeU bs L D most f a2 o2
   else if most≤o.length then .error 141
   else zeU bs L D most f a1 (o++[x])
def rowF (bs:List UInt8) (C:List Int) (n:Nat):Nat→Nat→List Int→DRes
 | 0,_,_=>.error 120
 | f+1,at_,r =>
  if r.length=n then .ok (at_,r)
  else match symE C bs at_ with
   | .error e=>.error e
   | .ok (x,a1) =>
    if x=16 then match zfN bs a1 2 with
     | .error e=>.error e
     | .ok (m,a2)=>if r.length=0 then .error 151 else if n<3+m+r.length then .error 151 else rowF bs C n f a2 (r++List.replicate (3+m) (r.getD (r.length-1) 0))
    else if x=17 then match zfN bs a1 3 with
     | .error e=>.error e
     | .ok (m,a2)=>if n<3+m+r.length then .error 151 else rowF bs C n f a2 (r++List.replicate (3+m) 0)
    else if x=18 then match zfN bs a1 7 with
     | .error e=>.error e
     | .ok (m,a2)=>if n<11+m+r.length then .error 151 else rowF bs C n f a2 (r++List.replicate (11+m) 0)
    else rowF bs C n f a1 (r++[x])
def ordL:List Int:=[16,17,18,0,8,7,9,6,10,5,11,4,12,3,13,2,14,1,15]
def zrO (bs:List UInt8):Nat→Nat→Nat→List Int→DRes
 | 0,_,at_,l=>.ok (at_,l)
 | r+1,i,at_,l=>match zfN bs at_ 3 with
  | .error e=>.error e
  | .ok (m,a)=>zrO bs r (i+1) a (l.set (ordL.getD i 0).toNat m)
def zfr (bs:List UInt8):Nat:=8*bs.length+1
def fixL:List Int:=(List.range 288).map fun i=>if 280≤i∨i<144 then 8 else if i<256 then 9 else 7
def fixD:List Int:=List.replicate 32 5
def zoM (bs:List UInt8) (most:Int) (at_:Nat) (o:List Int):DRes:=zeU bs fixL fixD most (zfr bs) at_ o
def dynK (bs:List UInt8) (most:Int) (a b:Nat) (o:List Int):DRes→DRes
 | .error e=>.error e
 | .ok (a4,l) =>
  if zey l false=0 then
   match rowF bs l (a+b) (zfr bs) a4 [] with
   | .error e=>.error e
   | .ok (a5,r) =>
    if r.getD 256 0=0 then .error 151
    else if zey (r.take a) false=0 then
     if zey (r.drop a) true=0 then zeU bs (r.take a) (r.drop a) most (zfr bs) a5 o
     else .error (zey (r.drop a) true)
    else .error (zey (r.take a) false)
  else .error (zey l false)
def zhB (bs:List UInt8) (most:Int) (at_:Nat) (o:List Int):DRes :=
 match zfN bs at_ 5 with
 | .error e=>.error e
 | .ok (a,a1)=>match zfN bs a1 5 with
  | .error e=>.error e
  | .ok (b,a2)=>match zfN bs a2 4 with
   | .error e=>.error e
   | .ok (c,a3) =>
    if 286<a+257∨30<b+1 then .error 151
    else dynK bs most (a+257) (b+1) o (zrO bs (c+4) 0 a3 (List.replicate 19 0))
def zuM (bs:List UInt8) (most:Int) (kind at_:Nat) (o:List Int):DRes :=
 if kind=0 then zj6 bs most at_ o else if kind=1 then zoM bs most at_ o else if kind=2 then zhB bs most at_ o else .error 150
def zgu (K:Nat→Nat→DRes) (bs:List UInt8) (at_:Nat):Except Int (Bool × Nat × List Int) :=
 match zfN bs at_ 1 with
 | .error e=>.error e
 | .ok (last,a1)=>match zfN bs a1 2 with
  | .error e=>.error e
  | .ok (kind,a2)=>match K kind a2 with
   | .error e=>.error e
   | .ok (a3,o2)=>.ok (decide (last=1),a3,o2)
def zoV (bs:List UInt8) (most:Int) (at_:Nat) (o:List Int):Except Int (Bool × Nat × List Int):=zgu (fun kd a=>zuM bs most kd a o) bs at_
def zgA (bs:List UInt8) (most:Int):Nat→Nat→List Int→DRes
 | 0,_,_=>.error 120
 | f+1,at_,o=>match zoV bs most at_ o with
  | .error e=>.error e
  | .ok (last,a,o2)=>if last then .ok (a,o2) else zgA bs most f a o2
def zdK (bs:List UInt8) (most:Int):Bool:=match zgA bs most (zfr bs) 0 [] with
 | .error _=>true
 | .ok (_,o)=>!decide ((o.length:Int)=most)
theorem zbv {bs:List UInt8} {a n:Nat} (h:a+n≤8*bs.length):zfN bs a n=.ok (zbU bs a n,a+n):=if_pos h
theorem zbS {bs:List UInt8} {a n:Nat} (h:¬ a+n≤8*bs.length):zfN bs a n=.error 120:=if_neg h
theorem zvq (ms:List Int) (h:Int):∀ (f n:Nat) (code first index:Int) (v k:Nat) (i c d:Int),tk1 ms h f n code first index v=(some (k,i),c,d)→n≤k∧(k:Int)≤h
 | 0,n,code,first,index,v,k,i,c,d,e=>by rw [tk1] at e;cases e
 | f+1,n,code,first,index,v,k,i,c,d,e=>by
  rw [tk1] at e
  split at e
  ·cases e
  ·rename_i hh
   split at e
   ·injection e with e1 e2
    injection e1 with e1
    injection e1 with e1 e3
    subst e1;omega
   ·have:=zvq ms h f (n+1) _ _ _ _ k i c d e
    omega
theorem zvp (ms:List Int):∀ (f n:Nat) (c d:Int),tk2 ms f n c d≠0
 | 0,n,c,d=>by rw [tk2];decide
 | f+1,n,c,d=>by
  rw [tk2]
  split
  ·decide
  ·exact zvp ms f _ _ _
theorem ztS {L:List Int} {bs:List UInt8} {at_:Nat} {c d:Int} (h:tk1 (zdk L) (hvqF ⟨0,none,0,bs⟩ at_) 15 1 0 0 0 (zbU bs at_ 15)=(none,c,d)):(tkB L bs at_).2.1≠0:=by
 unfold tkB tkF
 rw [h]
 exact zvp _ _ _ _ _
theorem ztR {L:List Int} {bs:List UInt8} {at_ k:Nat} {i c d:Int} (h:tk1 (zdk L) (hvqF ⟨0,none,0,bs⟩ at_) 15 1 0 0 0 (zbU bs at_ 15)=(some (k,i),c,d)):tkB L bs at_=((zcw L).getD i.toNat 0,0,at_+k):=by
 unfold tkB tkF
 rw [h]
theorem ztY (L:List Int) (i:Nat):0≤(zcw L).getD i 0∧((zcw L).getD i 0<L.length∨(zcw L).getD i 0=0):=by
 by_cases h:i<(zcw L).length
 ·have hm:=zbF h
  have:=zhr L L.length _ ((zeF (keyL L) (sym0 L L.length)).mem_iff.1 hm)
  omega
 ·rw [List.getD_eq_getElem?_getD,List.getElem?_eq_none (by omega)];simp
theorem zmE {L:List Int} {bs:List UInt8} {at_ a:Nat} {x:Int} (ha:at_≤8*bs.length) (h:symE L bs at_=.ok (x,a)):at_<a∧a≤8*bs.length∧0≤x∧(x<L.length∨x=0):=by
 unfold symE at h
 split at h
 ·rename_i h0
  injection h with h
  injection h with h1 h2
  rcases hk:tk1 (zdk L) (hvqF ⟨0,none,0,bs⟩ at_) 15 1 0 0 0 (zbU bs at_ 15) with ⟨o,c,d⟩
  cases o with
  | none=>exact absurd h0 (ztS hk)
  | some ki =>
   obtain ⟨k,i⟩:=ki
   have hb:=zvq _ _ _ _ _ _ _ _ _ _ _ _ hk
   have e:=ztR hk
   rw [e] at h1 h2
   simp only at h1 h2
   have hs:=ztY L i.toNat
   rw [h1] at hs
   have hh:hvqF ⟨0,none,0,bs⟩ at_≤8*(bs.length:Int)-at_:=by unfold hvqF;split<;>(simp only at *;omega)
   omega
 ·cases h
theorem zmF {L:List Int} {bs:List UInt8} {at_:Nat} {n:Int} (h:symE L bs at_=.error n):n≠0:=by
 unfold symE at h
 split at h
 ·cases h
 ·rename_i h0;injection h with h;subst h;exact h0
theorem zat {q:Rdr} {a n:Nat} (h:a+n≤8*q.bs.length):(zgE q a n).1=zbU q.bs a n∧(zgE q a n).2.1=0∧(zgE q a n).2.2=a+n:=by
 rw [zgE,if_pos h];exact⟨rfl,rfl,rfl⟩
theorem zau {q:Rdr} {a n:Nat} (h:¬ a+n≤8*q.bs.length):(zgE q a n).1=0∧(zgE q a n).2.1=120∧(zgE q a n).2.2=a:=by
 rw [zgE,if_neg h];exact⟨rfl,rfl,rfl⟩
theorem zmG {L:List Int} {bs:List UInt8} {at_:Nat} {n:Int} (h:symE L bs at_=.error n):(tkB L bs at_).2.1=n:=by
 unfold symE at h
 split at h
 ·cases h
 ·injection h
theorem zmH {L:List Int} {bs:List UInt8} {at_ a:Nat} {x:Int} (h:symE L bs at_=.ok (x,a)):(tkB L bs at_).1=x∧(tkB L bs at_).2.1=0∧(tkB L bs at_).2.2=a:=by
 unfold symE at h
 split at h
 ·rename_i h0
  injection h with h
  injection h with h1 h2
  exact⟨h1,h0,h2⟩
 ·cases h
theorem zq0 (L:List Int) (q:Rdr) (at_:Nat):tkF L q at_=tkB L q.bs at_:=rfl
theorem zny (far:Nat) (o:List Int):∀ i,(cpy far o i).length=o.length+i
 | 0=>rfl
 | i+1=>by rw [cpy,List.length_append,zny far o i];simp;omega
theorem zqp {K:Nat→Nat→DRes} {bs:List UInt8} {at_:Nat} (h:¬ at_+1≤8*bs.length):zgu K bs at_=.error 120:=by
 unfold zgu
 rw [zbS h]
theorem zqo {K:Nat→Nat→DRes} {bs:List UInt8} {at_:Nat} (h:at_+1≤8*bs.length) (h2:¬ at_+1+2≤8*bs.length):zgu K bs at_=.error 120:=by
 unfold zgu
 rw [zbv h]
 simp only
 rw [zbS h2]
theorem zsD {K:Nat→Nat→DRes} {bs:List UInt8} {at_:Nat} {n:Int} (h:at_+1≤8*bs.length) (h2:at_+1+2≤8*bs.length) (hk:K (zbU bs (at_+1) 2) (at_+1+2)=.error n):zgu K bs at_=.error n:=by
 unfold zgu
 rw [zbv h]
 simp only
 rw [zbv h2]
 simp only
 rw [hk]
theorem zsC {K:Nat→Nat→DRes} {bs:List UInt8} {at_ a3:Nat} {o2:List Int} (h:at_+1≤8*bs.length) (h2:at_+1+2≤8*bs.length) (hk:K (zbU bs (at_+1) 2) (at_+1+2)=.ok (a3,o2)):zgu K bs at_=.ok (decide (zbU bs at_ 1=1),a3,o2):=by
 unfold zgu
 rw [zbv h]
 simp only
 rw [zbv h2]
 simp only
 rw [hk]
/-! ## A world in which what is known is so -/
theorem dr_w {cx:Cx} {id:Nat} {ops:Array Oper} {k:Exit→Env→Mem→Prop} {e:Env} {m:Mem} (h:(∃ w',MemOk cx.w0 cx.S m w')→Dr cx id ops k e m):Dr cx id ops k e m:=fun a w he hm=>h ⟨w,hm⟩ a w he hm
theorem rn_w {cx:Cx} {m:Mem} {I:Sem Value} {K:Value→Mem→Prop} (h:(∃ w',MemOk cx.w0 cx.S m w')→Rn cx m I K):Rn cx m I K:=fun w hm=>h ⟨w,hm⟩ w hm
theorem zxu {xs:List Int} {j:Nat} (h:j<xs.length):(xs.map (Value.int .u8))[j]?=some (.int .u8 (xs.getD j 0)):=by
 rw [List.getElem?_map,List.getD_eq_getElem?_getD,List.getElem?_eq_getElem h];rfl
/-! ## A stream -/
structure Stm where
 B:Nat
 q:Rdr
 most:Int
abbrev stC (s:Stm) (A:Option Addr) (c:Nat) (o:List Int):List Value:=[.pointer (some ⟨s.q.B,0,none⟩),.slice A o.length c,.int .i64 s.most]
abbrev StM (s:Stm) (at_:Nat) (A:Option Addr) (c:Nat) (o:List Int):Mem:=.blk s.B (.cells (stC s A c o).toArray 231)::.row A c o.length 5 1 (o.map (.int .u8))::RM s.q at_
theorem zmJ (s:Stm) (a:Nat) (A:Option Addr) (c:Nat) (o ys:List Int):StM s a A c (o++ys)=.blk s.B (.cells [.pointer (some ⟨s.q.B,0,none⟩),.slice A (o.length+ys.length) c,.int .i64 s.most].toArray 231)::.row A c (o.length+ys.length) 5 1 (o.map (.int .u8)++ys.map (.int .u8))::RM s.q a:=by
 unfold StM stC
 rw [List.length_append,List.map_append]
def StR (s:Stm) (at_:Nat) (r:DRes) (e:Ending) (m':Mem):Prop :=
 (∃ n,r=.error n∧n≠0∧e=.panicked (upP n)∧m'=[]) ∨
 ∃ a o A c,r=.ok (a,o)∧at_≤a∧a≤8*s.q.bs.length∧(o.length:Int)≤s.most∧e=.returned (.tuple #[])∧m'=StM s a A c o
def StP (pre:Mem) (s:Stm) (at_:Nat) (r:DRes) (e:Ending) (m':Mem):Prop :=
 (∃ n,r=.error n∧n≠0∧e=.panicked (upP n)∧m'=[]) ∨
 ∃ a o A c,r=.ok (a,o)∧at_≤a∧a≤8*s.q.bs.length∧(o.length:Int)≤s.most∧e=.returned (.tuple #[])∧m'=pre++StM s a A c o
structure Stm.Ok (s:Stm) (at_:Nat) (o:List Int):Prop where
 len:s.q.bs.length≤20000000
 at_:at_≤8*s.q.bs.length
 most:0≤s.most∧s.most≤1048576
 out:(o.length:Int)≤s.most
end Go.Proofs.YtlmgelmloddfgaaGreat
