/- Part of a proof: contracts of the functions that the law reaches. No statement of the seat is proved here. -/
import Derived.Test.YtlmgelmloddfgaaGreatCdM10
set_option linter.unusedVariables false
set_option linter.unusedSimpArgs false
set_option linter.unusedSectionVars false
set_option maxRecDepth 100000
namespace Go.Proofs.YtlmgelmloddfgaaGreat
open Go Go.RowKit Eng
def zb6 (s:ByteArray):List UInt8:=UInt8.ofNat (s.size%256)::s.data.toList
attribute [local irreducible] Br Rn RnU Cl RdG CpG Ld Rd Lp Dr Oth Cut fin Fits Eng.Enters Md NA
theorem zh5:Eng.Enters Tryz.prog 190:=zab fun _ _=>by kernel_rfl
theorem zn6 (s:ByteArray) (w:World) (hs:s.size≤255) :
  Ctr Tryz.prog 190 [.string s] [] (fun e m'=>∃ A c,e=.returned (.slice A (1+s.size) c)∧m'=[BR8 A c (1+s.size) (zb6 s)]) w:=by
 refine enter (cx:=CXS 9 [] w (Foot [])) [(0,.string s)] zaa Tryz.func190 rfl rfl rfl rfl (MemOk.nil w _) ?_
 refine gGw ?_;(repeat ((first|refine .mk fun Ap capp=>?_|intro _);(conv=>whnf);refine gG0 ?_))
 rename_i bB
 refine zfS (m1:=[BR8 (some ⟨bB,0,none⟩) 1 1 [UInt8.ofNat (s.size%256)]]) (subq (m1:=[.blk bB (.cells [Value.int .u8 (s.size:Int)].toArray 5)]) (by kernel_rfl) ?_) ?_
 ·have e8:(s.size:Int)=((UInt8.ofNat (s.size%256)).toNat:Int):=by rw [UInt8.toNat_ofNat'];omega
  rw [e8]
  exact SubM.torow (by repeat constructor) rfl rfl
 refine zib rfl (by repeat constructor) (by omega) (fun A1 c1=>?_)
 rw [zek,← zdi]
 refine gGw ?_
 exact fin1 rfl rfl (fun w' hm=>⟨_,⟨A1,c1,rfl,rfl⟩,hm⟩)
theorem zgd:Eng.Enters Tryz.prog 157:=zab fun _ _=>by kernel_rfl
theorem zjp (l c n:Nat) (A:Option Addr) (w:World) (hA:A=none∨Pl A) (hc:l≤c) (hn:n≤l) :
  Calls Tryz.prog 157 #[.slice A l c,.int .i64 (n:Int)] w fun e w'=>e=.returned (.tuple #[.slice A n c,.slice (cutA A c n 1) (l-n) (c-n),.bool true])∧Fr (fun _=>False) w w':=by
 refine enter (cx:=CX 17 [] w) [(0,.slice A l c),(1,.int .i64 (n:Int))] zaa Tryz.func157 rfl rfl rfl rfl (MemOk.nil w _) ?_
 refine gGw ?_
 refine br_f (decide_eq_false (by omega)) ?_
 refine gGw ?_
 refine zar zaa mixed (by kernel_rfl) rfl ?_;conv=>whnf
 refine gG0 ?_
 refine And.intro ⟨by omega,by omega,by omega,hA⟩ ?_
 refine gGw ?_
 refine And.intro ⟨by omega,by omega,by omega,hA⟩ ?_
 refine gGw ?_
 refine fin3 rfl rfl rfl rfl (fun w' hm=>⟨?_,hm.fr⟩)
 have e1:(l:Int).toNat-(n:Int).toNat=l-n:=by omega
 have e2:(n:Int).toNat-(0:Int).toNat=n:=by omega
 show Ending.returned (.tuple #[.slice (cutA A c (0:Int).toNat 1) ((n:Int).toNat-(0:Int).toNat) (c-(0:Int).toNat),.slice (cutA A c (n:Int).toNat 1) ((l:Int).toNat-(n:Int).toNat) (c-(n:Int).toNat),.bool true])=_
 have e3:cutA A c 0 1=A:=by
  unfold cutA
  split
  ·rfl
  ·rcases hA with rfl|⟨b,o,rfl⟩<;>rfl
 rw [e1,e2]
 show Ending.returned (.tuple #[.slice (cutA A c 0 1) n c,.slice (cutA A c n 1) (l-n) (c-n),.bool true])=_
 rw [e3]
theorem zpn (x:Snp):zan x=zb6 x.name++leB x.l1.toNat 8++leB x.l1len.toNat 4++leB x.size.toNat 8:=by
 unfold zan zb6
 rw [Int.toNat_natCast]
 simp [leB]
end Go.Proofs.YtlmgelmloddfgaaGreat
namespace Go.Proofs.YtlmgelmloddfgaaGreat
open Go Go.RowKit Eng
attribute [local irreducible] Br Rn RnU Cl RdG CpG Ld Rd Lp Dr Oth Cut fin Fits Eng.Enters Md NA
theorem zi1:Eng.Enters Tryz.prog 159:=zab fun _ _=>by kernel_rfl
set_option maxHeartbeats 2000000 in
theorem zmW (bits:Int) (L:List Snp) (lA:Option Addr) (lc:Nat) (w:World) (hb:9≤bits∧bits≤16) (hL:L.length≤1000) (hrow:RowIn w lA L Snp.cells 4) (hnm:∀ x∈L,x.name.size≤255) :
  Ctr Tryz.prog 159 [.int .i64 bits,.slice lA L.length lc] [] (zld (zb4 bits L)) w:=by
 refine enter (cx:=CXS 83 [] w (Foot [])) [(0,.int .i64 bits),(1,.slice lA L.length lc)] zaa Tryz.func159 rfl rfl rfl rfl (MemOk.nil w _) ?_
 generalize hR:zb4 bits L=R
 unfold zb4 at hR
 refine gGw ?_
 refine br_f (by rw [decide_eq_false (by omega),decide_eq_false (by omega)];rfl) ?_
 refine gGw ?_
 refine lp zaa (γ:=Nat × Option Addr × Nat) (fun g=>g.1≤L.length∧zbY bits [] L=zbY bits ((L.take g.1).map (·.name)) (L.drop g.1)∧((L.take g.1).flatMap zan).length≤300*g.1)
  (fun g=>[(7,.int .i64 (g.1:Int)),(6,.slice g.2.1 ((L.take g.1).flatMap zan).length g.2.2),(0,.int .i64 bits),(1,.slice lA L.length lc)])
  (fun g=>[BR8 g.2.1 g.2.2 ((L.take g.1).flatMap zan).length ((L.take g.1).flatMap zan)]) (fun g=>L.length-g.1) (0,none,0) ⟨Nat.zero_le _,rfl,Nat.zero_le _⟩ ⟨rfl,rfl,rfl,rfl,trivial⟩ (SubM.row0 SubM.sl _ _) ?_
 rintro ⟨i,A,c⟩ ⟨hi,hG,hlen⟩
 simp only at hi hG hlen
 dsimp only
 conv=>whnf
 refine br_d (fun hlt=>?_) (fun hge=>?_)
 ·have hi':i<L.length:=by omega
  have hpi:=List.getElem?_eq_getElem hi'
  have hdrop:L.drop i=L[i]::L.drop (i+1):=List.drop_eq_getElem_cons hi'
  have htake:L.take (i+1)=L.take i++[L[i]]:=List.take_succ_eq_append_getElem hi'
  have hxn:=hnm _ (List.getElem_mem hi')
  obtain ⟨b,hbA,hcell⟩:=hrow i _ hpi
  generalize L[i]=x at hpi hdrop htake hcell hxn
  rw [hdrop,zbY] at hG
  refine gGw ?_
  subst hbA
  refine And.intro ⟨by omega,by omega,Pl.mk _ _⟩ ?_
  conv=>whnf
  refine zaj (zl6 (k:=4) zaa (zao _) rfl rfl rfl rfl hcell) ?_
  refine gGw ?_
  refine⟨zkh,zae _ (fun w' _=>zpy x bits w' hb (by omega)) ?_⟩
  cases hs:zhU x bits with
  | false =>
   have hno:zbY bits [] L=false:=by rw [hG,hs];rfl
   rw [hno] at hR
   subst hR
   refine gGw ?_
   refine br_n (br_f rfl ?_)
   refine gGw ?_
   exact fin2 rfl rfl rfl (fun w' hm=>⟨_,.inl ⟨2,rfl,by decide,rfl,rfl⟩,hm.sublist (List.nil_sublist _)⟩)
  | true =>
   rw [hs,Bool.true_and] at hG
   refine gGw ?_
   refine br_n (br_t rfl ?_)
   refine gGw ?_
   refine lp zaa (γ:=Nat) (fun k=>k≤i∧∀ j y,j<k→L[j]?=some y→y.name≠x.name) (fun k=>[(8,.int .i64 (k:Int)),(7,.int .i64 (i:Int)),(6,.slice A ((L.take i).flatMap zan).length c),(0,.int .i64 bits),(1,.slice (some ⟨b,0,none⟩) L.length lc)])
    (fun _=>[BR8 A c ((L.take i).flatMap zan).length ((L.take i).flatMap zan)]) (fun k=>i-k) 0 ⟨Nat.zero_le _,fun j y hj=>absurd hj (Nat.not_lt_zero _)⟩ ⟨rfl,rfl,rfl,rfl,rfl,trivial⟩ SubM.sl ?_
   rintro k ⟨hk,hkn⟩
   dsimp only
   refine gGw ?_
   refine br_d (fun hk2=>?_) (fun hk2=>?_)
   ·have hk':k<L.length:=by omega
    have hpk:=List.getElem?_eq_getElem hk'
    obtain ⟨b',hb',hcell'⟩:=hrow k _ hpk
    injection hb' with hb';injection hb' with hb';subst hb'
    generalize L[k]=y at hpk hcell'
    conv=>whnf
    refine zar zaa mixed (by kernel_rfl) rfl ?_;conv=>whnf
    refine gG0 ?_
    refine And.intro ⟨by omega,by omega,Pl.mk _ _⟩ ?_
    refine gGw ?_
    refine⟨.string y.name,Ld.g (ldF (a:=⟨b,0+k*4+0,none⟩) zaa (by rw [Nat.zero_add];exact hcell' 0 _ rfl) (zao _) rfl rfl),?_⟩
    refine gGw ?_
    refine And.intro ⟨by omega,by omega,Pl.mk _ _⟩ ?_
    refine gGw ?_
    refine⟨.string x.name,Ld.g (ldF (a:=⟨b,0+i*4+0,none⟩) zaa (by rw [Nat.zero_add];exact hcell 0 _ rfl) (zao _) rfl rfl),?_⟩
    refine gGw ?_
    refine br_d (fun he=>?_) (fun he=>?_)
    ·have hno:zbY bits [] L=false:=by
      rw [hG]
      have hf:zcx ((L.take i).map (·.name)) x.name=false:=by
       rw [Bool.eq_false_iff]
       intro h
       exact freshB_iff.1 h (List.mem_map.2 ⟨y,List.mem_of_getElem? (i:=k) (by rw [List.getElem?_take,if_pos (by omega)];exact hpk),he⟩)
      rw [hf];rfl
     rw [hno] at hR
     subst hR
     refine gGw ?_
     exact fin2 rfl rfl rfl (fun w' hm=>⟨_,.inl ⟨2,rfl,by decide,rfl,rfl⟩,hm.sublist (List.nil_sublist _)⟩)
    ·refine gGw ?_
     refine⟨k+1,⟨by omega,fun j z hj hz=>?_⟩,by omega,⟨rfl,rfl,rfl,rfl,rfl,trivial⟩,SubM.refl _ _⟩
     rcases Nat.lt_succ_iff_lt_or_eq.1 hj with hj|rfl
     ·exact hkn j z hj hz
     ·rw [hpk] at hz
      injection hz with hz
      subst hz
      exact he
   ·obtain rfl:k=i:=by omega
    have hf:zcx ((L.take k).map (·.name)) x.name=true:=by
     rw [freshB_iff]
     intro h
     obtain ⟨y,hy,he⟩:=List.mem_map.1 h
     obtain ⟨j,hj,hyj⟩:=List.getElem_of_mem hy
     have hj2:j<k:=by rw [List.length_take] at hj;omega
     exact hkn j y hj2 (by rw [← hyj,List.getElem_take,List.getElem?_eq_getElem]) he
    rw [hf,Bool.true_and] at hG
    have hbd:=zcn hs
    refine gGw ?_
    refine And.intro ⟨by omega,by omega,Pl.mk _ _⟩ ?_
    refine gGw ?_
    refine zaj (ldF (a:=⟨b,0+k*4+0,none⟩) zaa (by rw [Nat.zero_add];exact hcell 0 _ rfl) (zao _) rfl rfl) ?_
    refine gGw ?_
    refine⟨zh5,zac (m1:=[]) .nil (fun w' hm'=>zn6 x.name w' hxn) ?_⟩
    rintro e m' ⟨N1,d1,rfl,rfl⟩
    conv=>whnf
    refine zbh (acc:=(L.take k).flatMap zan) (ys:=zb6 x.name) zaa rfl (by repeat constructor) (by repeat constructor) (by show x.name.data.toList.length+1=1+x.name.size;rw [Array.length_toList,Nat.add_comm];rfl) (by omega) (fun A1 c1=>?_)
    refine gGw ?_
    refine And.intro ⟨by omega,by omega,Pl.mk _ _⟩ ?_
    refine gGw ?_
    refine zaj (ldF (a:=⟨b,0+k*4+1,none⟩) zaa (by rw [Nat.zero_add];exact hcell 1 _ rfl) (zao _) rfl rfl) ?_
    refine gGw ?_
    refine⟨zaD,zac (m1:=[]) .nil (fun w' hm'=>zcj x.l1 8 w' (by omega) (by omega)) ?_⟩
    rintro e m' ⟨N2,d2,rfl,rfl⟩
    conv=>whnf
    refine zbh (acc:=(L.take k).flatMap zan++zb6 x.name) (ys:=leB x.l1.toNat 8) zaa rfl (by repeat constructor) (by repeat constructor) (zad _ _) (by omega) (fun A2 c2=>?_)
    refine gGw ?_
    refine And.intro ⟨by omega,by omega,Pl.mk _ _⟩ ?_
    refine gGw ?_
    refine zaj (ldF (a:=⟨b,0+k*4+2,none⟩) zaa (by rw [Nat.zero_add];exact hcell 2 _ rfl) (zao _) rfl rfl) ?_
    refine gGw ?_
    refine⟨zaD,zac (m1:=[]) .nil (fun w' hm'=>zcj x.l1len 4 w' (by omega) (by omega)) ?_⟩
    rintro e m' ⟨N3,d3,rfl,rfl⟩
    conv=>whnf
    refine zbh (acc:=(L.take k).flatMap zan++zb6 x.name++leB x.l1.toNat 8) (ys:=leB x.l1len.toNat 4) zaa rfl (by repeat constructor) (by repeat constructor) (zad _ _) (by omega) (fun A3 c3=>?_)
    refine gGw ?_
    refine And.intro ⟨by omega,by omega,Pl.mk _ _⟩ ?_
    refine gGw ?_
    refine zaj (ldF (a:=⟨b,0+k*4+3,none⟩) zaa (by rw [Nat.zero_add];exact hcell 3 _ rfl) (zao _) rfl rfl) ?_
    refine gGw ?_
    refine⟨zaD,zac (m1:=[]) .nil (fun w' hm'=>zcj x.size 8 w' (by omega) (by omega)) ?_⟩
    rintro e m' ⟨N4,d4,rfl,rfl⟩
    conv=>whnf
    refine zbh (acc:=(L.take k).flatMap zan++zb6 x.name++leB x.l1.toNat 8++leB x.l1len.toNat 4) (ys:=leB x.size.toNat 8) zaa rfl (by repeat constructor) (by repeat constructor) (zad _ _) (by omega) (fun A4 c4=>?_)
    refine gGw ?_
    have ebs:(L.take (k+1)).flatMap zan=(L.take k).flatMap zan++zb6 x.name++leB x.l1.toNat 8++leB x.l1len.toNat 4++leB x.size.toNat 8:=by
     rw [htake,List.flatMap_append,List.flatMap_singleton,zpn]
     simp only [List.append_assoc]
    have enl:(zb6 x.name).length=1+x.name.size:=by
     show x.name.data.toList.length+1=1+x.name.size
     rw [Array.length_toList,Nat.add_comm];rfl
    have elen:((L.take (k+1)).flatMap zan).length=((L.take k).flatMap zan).length+(1+x.name.size)+8+4+8:=by
     rw [ebs]
     simp only [List.length_append,zad,enl]
    refine⟨(k+1,A4,c4),⟨by omega,by rw [hG,htake,List.map_append];rfl,by show ((L.take (k+1)).flatMap zan).length≤300*(k+1);omega⟩,by show L.length-(k+1)<L.length-k;omega,⟨rfl,?_,rfl,rfl,trivial⟩,?_⟩
    ·show some _=some (Value.slice A4 ((L.take (k+1)).flatMap zan).length c4)
     rw [elen]
    ·show SubM _ _ [BR8 A4 c4 ((L.take (k+1)).flatMap zan).length ((L.take (k+1)).flatMap zan)]
     rw [elen,ebs]
     exact SubM.sl
 ·refine gGw ?_
  have ei:i=L.length:=by omega
  have hd:L.drop i=[]:=by rw [ei];exact List.drop_length
  have ht:L.take i=L:=by rw [ei];exact List.take_length
  rw [hd] at hG
  have hG1:zbY bits [] L=true:=by rw [hG];rfl
  rw [if_pos hG1] at hR
  rw [ht]
  rw [ht] at hlen
  refine br_d (fun hlt=>?_) (fun hle=>?_)
  ·rw [if_pos (by omega)] at hR
   subst hR
   exact fin2 rfl rfl rfl (fun w' hm=>⟨_,.inl ⟨3,rfl,by decide,rfl,rfl⟩,hm.sublist (List.nil_sublist _)⟩)
  ·rw [if_neg (by omega)] at hR
   subst hR
   exact fin2 rfl rfl rfl (fun w' hm=>⟨_,.inr ⟨_,A,c,rfl,rfl,rfl⟩,hm⟩)
end Go.Proofs.YtlmgelmloddfgaaGreat
namespace Go.Proofs.YtlmgelmloddfgaaGreat
open Go Go.RowKit Eng
attribute [local irreducible] Br Rn RnU Cl RdG CpG Ld Rd Lp Dr Oth Cut fin Fits Eng.Enters Md NA
theorem zkg:Eng.Enters Tryz.prog 160:=zab fun _ _=>by kernel_rfl
theorem zj4 {cx:Cx} {m m1 m2:Mem} (h:SubM cx m m1) (h':SubM cx m1 m2):SubM cx m m2:=fun w hw=>h' w (h w hw)
theorem zvm {x:Int} (h:0≤x∧x≤255):Value.int .u8 x=.int .u8 ((x.toNat.toUInt8).toNat:Int):=by
 congr 1
 show x=((UInt8.ofNat x.toNat).toNat:Int)
 rw [UInt8.toNat_ofNat']
 omega
theorem zxP {x:Int} (h:0≤x∧x≤255):leB x.toNat 1=[x.toNat.toUInt8]:=by
 show [UInt8.ofNat (x.toNat%256)]=_
 rw [Nat.mod_eq_of_lt (by omega)]
theorem zpt (x:Rwp) (h1:0≤x.gran∧x.gran≤255) (h2:0≤x.flags∧x.flags≤255):zal x=zb6 x.name++[x.gran.toNat.toUInt8,x.flags.toNat.toUInt8]++leB x.at_.toNat 8++leB x.len.toNat 4:=by
 unfold zal zb6
 rw [zxP h1,zxP h2,Int.toNat_natCast]
 simp [leB]
set_option maxHeartbeats 2000000 in
theorem zpx (bits:Int) (L:List Rwp) (lA:Option Addr) (lc:Nat) (w:World) (hb:9≤bits∧bits≤16) (hL:L.length≤1000) (hrow:RowIn w lA L Rwp.cells 5) (hnm:∀ x∈L,x.name.size≤255) :
  Ctr Tryz.prog 160 [.int .i64 bits,.slice lA L.length lc] [] (zle (zb5 bits L)) w:=by
 refine enter (cx:=CXS 89 [] w (Foot [])) [(0,.int .i64 bits),(1,.slice lA L.length lc)] zaa Tryz.func160 rfl rfl rfl rfl (MemOk.nil w _) ?_
 generalize hR:zb5 bits L=R
 unfold zb5 at hR
 refine gGw ?_
 refine br_f (by rw [decide_eq_false (by omega),decide_eq_false (by omega)];rfl) ?_
 refine gGw ?_
 refine lp zaa (γ:=Nat × Option Addr × Nat) (fun g=>g.1≤L.length∧zbZ bits [] L=zbZ bits ((L.take g.1).map (·.name)) (L.drop g.1)∧((L.take g.1).flatMap zal).length≤300*g.1)
  (fun g=>[(7,.int .i64 (g.1:Int)),(6,.slice g.2.1 ((L.take g.1).flatMap zal).length g.2.2),(0,.int .i64 bits),(1,.slice lA L.length lc)])
  (fun g=>[BR8 g.2.1 g.2.2 ((L.take g.1).flatMap zal).length ((L.take g.1).flatMap zal)]) (fun g=>L.length-g.1) (0,none,0) ⟨Nat.zero_le _,rfl,Nat.zero_le _⟩ ⟨rfl,rfl,rfl,rfl,trivial⟩ (SubM.row0 SubM.sl _ _) ?_
 rintro ⟨i,A,c⟩ ⟨hi,hG,hlen⟩
 simp only at hi hG hlen
 dsimp only
 conv=>whnf
 refine br_d (fun hlt=>?_) (fun hge=>?_)
 ·have hi':i<L.length:=by omega
  have hpi:=List.getElem?_eq_getElem hi'
  have hdrop:L.drop i=L[i]::L.drop (i+1):=List.drop_eq_getElem_cons hi'
  have htake:L.take (i+1)=L.take i++[L[i]]:=List.take_succ_eq_append_getElem hi'
  have hxn:=hnm _ (List.getElem_mem hi')
  obtain ⟨b,hbA,hcell⟩:=hrow i _ hpi
  generalize L[i]=x at hpi hdrop htake hcell hxn
  rw [hdrop,zbZ] at hG
  refine gGw ?_
  subst hbA
  refine And.intro ⟨by omega,by omega,Pl.mk _ _⟩ ?_
  conv=>whnf
  refine zaj (zl6 (k:=5) zaa (zao _) rfl rfl rfl rfl hcell) ?_
  refine gGw ?_
  refine⟨zki,zae _ (fun w' _=>zpz x bits w' hb (by omega)) ?_⟩
  cases hs:rowB x bits with
  | false =>
   have hno:zbZ bits [] L=false:=by rw [hG,hs];rfl
   rw [hno] at hR
   subst hR
   refine gGw ?_
   refine br_n (br_f rfl ?_)
   refine gGw ?_
   exact fin2 rfl rfl rfl (fun w' hm=>⟨_,.inl ⟨2,rfl,by decide,rfl,rfl⟩,hm.sublist (List.nil_sublist _)⟩)
  | true =>
   rw [hs,Bool.true_and] at hG
   refine gGw ?_
   refine br_n (br_t rfl ?_)
   refine gGw ?_
   refine lp zaa (γ:=Nat) (fun k=>k≤i∧∀ j y,j<k→L[j]?=some y→y.name≠x.name) (fun k=>[(8,.int .i64 (k:Int)),(7,.int .i64 (i:Int)),(6,.slice A ((L.take i).flatMap zal).length c),(0,.int .i64 bits),(1,.slice (some ⟨b,0,none⟩) L.length lc)])
    (fun _=>[BR8 A c ((L.take i).flatMap zal).length ((L.take i).flatMap zal)]) (fun k=>i-k) 0 ⟨Nat.zero_le _,fun j y hj=>absurd hj (Nat.not_lt_zero _)⟩ ⟨rfl,rfl,rfl,rfl,rfl,trivial⟩ SubM.sl ?_
   rintro k ⟨hk,hkn⟩
   dsimp only
   refine gGw ?_
   refine br_d (fun hk2=>?_) (fun hk2=>?_)
   ·have hk':k<L.length:=by omega
    have hpk:=List.getElem?_eq_getElem hk'
    obtain ⟨b',hb',hcell'⟩:=hrow k _ hpk
    injection hb' with hb';injection hb' with hb';subst hb'
    generalize L[k]=y at hpk hcell'
    conv=>whnf
    refine zar zaa mixed (by kernel_rfl) rfl ?_;conv=>whnf
    refine gG0 ?_
    refine And.intro ⟨by omega,by omega,Pl.mk _ _⟩ ?_
    refine gGw ?_
    refine⟨.string y.name,Ld.g (ldF (a:=⟨b,0+k*5+0,none⟩) zaa (by rw [Nat.zero_add];exact hcell' 0 _ rfl) (zao _) rfl rfl),?_⟩
    refine gGw ?_
    refine And.intro ⟨by omega,by omega,Pl.mk _ _⟩ ?_
    refine gGw ?_
    refine⟨.string x.name,Ld.g (ldF (a:=⟨b,0+i*5+0,none⟩) zaa (by rw [Nat.zero_add];exact hcell 0 _ rfl) (zao _) rfl rfl),?_⟩
    refine gGw ?_
    refine br_d (fun he=>?_) (fun he=>?_)
    ·have hno:zbZ bits [] L=false:=by
      rw [hG]
      have hf:zcx ((L.take i).map (·.name)) x.name=false:=by
       rw [Bool.eq_false_iff]
       intro h
       exact freshB_iff.1 h (List.mem_map.2 ⟨y,List.mem_of_getElem? (i:=k) (by rw [List.getElem?_take,if_pos (by omega)];exact hpk),he⟩)
      rw [hf];rfl
     rw [hno] at hR
     subst hR
     refine gGw ?_
     exact fin2 rfl rfl rfl (fun w' hm=>⟨_,.inl ⟨2,rfl,by decide,rfl,rfl⟩,hm.sublist (List.nil_sublist _)⟩)
    ·refine gGw ?_
     refine⟨k+1,⟨by omega,fun j z hj hz=>?_⟩,by omega,⟨rfl,rfl,rfl,rfl,rfl,trivial⟩,SubM.refl _ _⟩
     rcases Nat.lt_succ_iff_lt_or_eq.1 hj with hj|rfl
     ·exact hkn j z hj hz
     ·rw [hpk] at hz
      injection hz with hz
      subst hz
      exact he
   ·obtain rfl:k=i:=by omega
    have hf:zcx ((L.take k).map (·.name)) x.name=true:=by
     rw [freshB_iff]
     intro h
     obtain ⟨y,hy,he⟩:=List.mem_map.1 h
     obtain ⟨j,hj,hyj⟩:=List.getElem_of_mem hy
     have hj2:j<k:=by rw [List.length_take] at hj;omega
     exact hkn j y hj2 (by rw [← hyj,List.getElem_take,List.getElem?_eq_getElem]) he
    rw [hf,Bool.true_and] at hG
    have hbd:=zc1 hs
    refine gGw ?_
    refine And.intro ⟨by omega,by omega,Pl.mk _ _⟩ ?_
    refine gGw ?_
    refine zaj (ldF (a:=⟨b,0+k*5+0,none⟩) zaa (by rw [Nat.zero_add];exact hcell 0 _ rfl) (zao _) rfl rfl) ?_
    refine gGw ?_
    refine⟨zh5,zac (m1:=[]) .nil (fun w' hm'=>zn6 x.name w' hxn) ?_⟩
    rintro e m' ⟨N1,d1,rfl,rfl⟩
    conv=>whnf
    refine zbh (acc:=(L.take k).flatMap zal) (ys:=zb6 x.name) zaa rfl (by repeat constructor) (by repeat constructor) (by show x.name.data.toList.length+1=1+x.name.size;rw [Array.length_toList,Nat.add_comm];rfl) (by omega) (fun A1 c1=>?_)
    refine gGw ?_
    refine zcd (γ:=Option Addr × Nat) (Tr.hs [0,1,2,3,4,5,6,7,8,9,10,11,12] (.sq [13,14] (.hs [15] .done))) [] zaa mixed (by kernel_rfl) rfl (fun _=>True)
     (fun g=>[(7,.int .i64 (k:Int)),(6,.slice g.1 (((L.take k).flatMap zal).length+(1+x.name.size)+2) g.2),(0,.int .i64 bits),(1,.slice (some ⟨b,0,none⟩) L.length lc)])
     (fun g=>[BR8 g.1 g.2 (((L.take k).flatMap zal).length+(1+x.name.size)+2) ((L.take k).flatMap zal++zb6 x.name++[x.gran.toNat.toUInt8,x.flags.toNat.toUInt8])]) SubM.sl ?_ ?_
    ·refine gGw ?_
     refine And.intro ⟨by omega,by omega,Pl.mk _ _⟩ ?_
     refine gGw ?_
     refine⟨.int .i64 x.gran,Ld.g (ldF (a:=⟨b,0+k*5+1,none⟩) zaa (by rw [Nat.zero_add];exact hcell 1 _ rfl) (zao _) rfl rfl),?_⟩
     refine gGw ?_
     refine And.intro ⟨by omega,by omega,Pl.mk _ _⟩ ?_
     refine gGw ?_
     refine⟨.int .i64 x.flags,Ld.g (ldF (a:=⟨b,0+k*5+2,none⟩) zaa (by rw [Nat.zero_add];exact hcell 2 _ rfl) (zao _) rfl rfl),?_⟩
     refine gGw ?_;(repeat ((first|refine .mk fun Ap capp=>?_|intro _);(conv=>whnf);refine gG0 ?_))
     have en:(zah ((L.take k).flatMap zal++zb6 x.name++[x.gran.toNat.toUInt8,x.flags.toNat.toUInt8])).map (Value.int .u8)=(zah ((L.take k).flatMap zal++zb6 x.name)).map (Value.int .u8)++[.int .u8 x.gran,.int .u8 x.flags]:=by
      rw [zdi,zvm (x:=x.gran) (by omega),zvm (x:=x.flags) (by omega)];rfl
     refine⟨(Ap,capp),trivial,⟨rfl,rfl,rfl,rfl,trivial⟩,?_⟩
     show SubM _ _ [Res.row Ap capp _ _ _ ((zah ((L.take k).flatMap zal++zb6 x.name++[x.gran.toNat.toUInt8,x.flags.toNat.toUInt8])).map (Value.int .u8))]
     rw [en]
     exact SubM.sl
    rintro ⟨A2,c2⟩ _
    simp only
    have eap:((L.take k).flatMap zal++zb6 x.name++[x.gran.toNat.toUInt8,x.flags.toNat.toUInt8]).length=((L.take k).flatMap zal).length+(1+x.name.size)+2:=by
     have enl:(zb6 x.name).length=1+x.name.size:=by
      show x.name.data.toList.length+1=1+x.name.size
      rw [Array.length_toList,Nat.add_comm];rfl
     rw [List.length_append,List.length_append,enl];rfl
    refine gGw ?_
    refine And.intro ⟨by omega,by omega,Pl.mk _ _⟩ ?_
    refine gGw ?_
    refine zaj (ldF (a:=⟨b,0+k*5+3,none⟩) zaa (by rw [Nat.zero_add];exact hcell 3 _ rfl) (zao _) rfl rfl) ?_
    refine gGw ?_
    refine⟨zaD,zac (m1:=[]) .nil (fun w' hm'=>zcj x.at_ 8 w' (by omega) (by omega)) ?_⟩
    rintro e m' ⟨N2,d2,rfl,rfl⟩
    conv=>whnf
    refine zbh (acc:=(L.take k).flatMap zal++zb6 x.name++[x.gran.toNat.toUInt8,x.flags.toNat.toUInt8]) (ys:=leB x.at_.toNat 8) zaa rfl (by repeat constructor) (by repeat constructor) (zad _ _) (by omega) (fun A3 c3=>?_)
    refine gGw ?_
    refine And.intro ⟨by omega,by omega,Pl.mk _ _⟩ ?_
    refine gGw ?_
    refine zaj (ldF (a:=⟨b,0+k*5+4,none⟩) zaa (by rw [Nat.zero_add];exact hcell 4 _ rfl) (zao _) rfl rfl) ?_
    refine gGw ?_
    refine⟨zaD,zac (m1:=[]) .nil (fun w' hm'=>zcj x.len 4 w' (by omega) (by omega)) ?_⟩
    rintro e m' ⟨N3,d3,rfl,rfl⟩
    conv=>whnf
    refine zbh (acc:=(L.take k).flatMap zal++zb6 x.name++[x.gran.toNat.toUInt8,x.flags.toNat.toUInt8]++leB x.at_.toNat 8) (ys:=leB x.len.toNat 4) zaa rfl (by repeat constructor) (by repeat constructor) (zad _ _) (by omega) (fun A4 c4=>?_)
    refine gGw ?_
    have ebs:(L.take (k+1)).flatMap zal=(L.take k).flatMap zal++zb6 x.name++[x.gran.toNat.toUInt8,x.flags.toNat.toUInt8]++leB x.at_.toNat 8++leB x.len.toNat 4:=by
     rw [htake,List.flatMap_append,List.flatMap_singleton,zpt x (by omega) (by omega)]
     simp only [List.append_assoc]
    have elen:((L.take (k+1)).flatMap zal).length=((L.take k).flatMap zal).length+(1+x.name.size)+2+8+4:=by
     rw [ebs,List.length_append,List.length_append,zad,zad,eap]
    refine⟨(k+1,A4,c4),⟨by omega,by rw [hG,htake,List.map_append];rfl,by show ((L.take (k+1)).flatMap zal).length≤300*(k+1);omega⟩,by show L.length-(k+1)<L.length-k;omega,⟨rfl,?_,rfl,rfl,trivial⟩,?_⟩
    ·show some _=some (Value.slice A4 ((L.take (k+1)).flatMap zal).length c4)
     rw [elen]
    ·show SubM _ _ [BR8 A4 c4 ((L.take (k+1)).flatMap zal).length ((L.take (k+1)).flatMap zal)]
     rw [elen,ebs]
     exact SubM.sl
 ·refine gGw ?_
  have ei:i=L.length:=by omega
  have hd:L.drop i=[]:=by rw [ei];exact List.drop_length
  have ht:L.take i=L:=by rw [ei];exact List.take_length
  rw [hd] at hG
  have hG1:zbZ bits [] L=true:=by rw [hG];rfl
  rw [if_pos hG1] at hR
  rw [ht]
  rw [ht] at hlen
  refine br_d (fun hlt=>?_) (fun hle=>?_)
  ·rw [if_pos (by omega)] at hR
   subst hR
   exact fin2 rfl rfl rfl (fun w' hm=>⟨_,.inl ⟨3,rfl,by decide,rfl,rfl⟩,hm.sublist (List.nil_sublist _)⟩)
  ·rw [if_neg (by omega)] at hR
   subst hR
   exact fin2 rfl rfl rfl (fun w' hm=>⟨_,.inr ⟨_,A,c,rfl,rfl,rfl⟩,hm⟩)
end Go.Proofs.YtlmgelmloddfgaaGreat
namespace Go.Proofs.YtlmgelmloddfgaaGreat
open Go Go.RowKit Eng
structure Rr where
 bs:List UInt8
 A:Option Addr
 c:Nat
 B:Nat
def RrM (q:Rr) (a:Nat) (ok:Bool):Mem:=[.blk q.B (.cells [.slice q.A q.bs.length q.c,.int .i64 (a:Int),.bool ok].toArray 270)]
def numV (bs:List UInt8) (a n:Nat):Int:=IntKind.i64.wrap ((getF bs a n).1:Int)
def numK (bs:List UInt8) (a n:Nat) (ok:Bool):Bool:=ok&&(decide ((getF bs a n).2=0)&&decide ((getF bs a n).1<4611686018427387904))
theorem zc3 {bs:List UInt8} {a n:Nat} {ok:Bool} (h:numK bs a n ok=true):ok=true∧(getF bs a n).2=0∧numV bs a n=((getF bs a n).1:Int)∧0≤numV bs a n∧numV bs a n<4611686018427387904:=by
 unfold numK at h
 simp only [Bool.and_eq_true,decide_eq_true_eq] at h
 have:numV bs a n=((getF bs a n).1:Int):=by unfold numV;rw [IntKind.wrap_i64];omega
 refine⟨h.1,h.2.1,this,by omega,by omega⟩
theorem zwL {bs:List UInt8} {a:Nat} {ok:Bool} (h:numK bs a 1 ok=true):a+1≤bs.length∧numV bs a 1<256:=by
 obtain ⟨_,h2,h3,_,_⟩:=zc3 h
 rw [h3]
 unfold getF at h2 ⊢
 rw [if_neg (by omega)] at h2 ⊢
 split at h2
 ·rename_i hl
  rw [if_pos hl]
  have h1:=liesB_iff.1 hl
  refine⟨by omega,?_⟩
  have:=zjz ((bs.drop a).take 1)
  have h4:((bs.drop a).take 1).length=1:=by rw [List.length_take,List.length_drop];omega
  rw [h4] at this
  show ((leV ((bs.drop a).take 1):Nat):Int)<256
  omega
 ·simp at h2
def zbV (bs:List UInt8) (a:Nat) (ok:Bool):ByteArray × Nat × Bool :=
 if numK bs a 1 ok=true∧numV bs a 1≤(bs.length:Int)-((a:Int)+1) then (Str ((bs.drop (a+1)).take (numV bs a 1).toNat),a+1+(numV bs a 1).toNat,true) else (Str [],a+1,false)
attribute [local irreducible] Br Rn RnU Cl RdG CpG Ld Rd Lp Dr Oth Cut fin Fits Eng.Enters Md NA
theorem zbI:Eng.Enters Tryz.prog 176:=zab fun _ _=>by kernel_rfl
theorem zhc:Eng.Enters Tryz.prog 175:=zab fun _ _=>by kernel_rfl
theorem zdz (q:Rr) (a n:Nat) (ok:Bool) (w:World) (hb:Stb (RrM q a ok) w (fun w=>BytsIn w q.A q.bs)) (hl:q.bs.length≤20000000) (ha:a≤40000000) (hn:1≤n∧n≤8) (hm:MemOk w (Foot (RrM q a ok)) (RrM q a ok) w) :
  Ctr Tryz.prog 176 [.pointer (some ⟨q.B,0,none⟩),.int .i64 (n:Int)] (RrM q a ok) (fun e m'=>e=.returned (.int .i64 (numV q.bs a n))∧m'=RrM q (a+n) (numK q.bs a n ok)) w:=by
 refine enter (cx:=CXS 45 [44] w (Foot (RrM q a ok))) [(0,.pointer (some ⟨q.B,0,none⟩)),(1,.int .i64 (n:Int))] zaa Tryz.func176 rfl rfl rfl rfl hm ?_
 refine gGw ?_
 refine zbc (γ:=Unit) (Tr.hs [0,1,2,3,4,5,6,7,8] (.sq [9] (.hs [10,11,12,13,14] .done))) (RrM q a ok) zaa mixed (by kernel_rfl) rfl (fun _=>True)
  (fun _=>[(5,.int .u64 ((getF q.bs a n).1:Int)),(6,.int .i64 (getF q.bs a n).2),(0,.pointer (some ⟨q.B,0,none⟩)),(1,.int .i64 (n:Int))]) (fun _=>RrM q a ok) SubM.sl ?_ ?_
 ·refine gGw ?_
  refine⟨zfm,zae _ (fun w' hm'=>zkQ q.bs q.A q.c a n w' (hb w' hm'.fr) (by omega) (by omega)) ?_⟩
  refine gGt ?_
  exact⟨(),trivial,⟨rfl,rfl,rfl,rfl,trivial⟩,SubM.sl⟩
 ·rintro - -
  refine gGw ?_
  refine fin1 rfl rfl (fun w' hm=>⟨_,⟨rfl,rfl⟩,?_⟩)
  have e:numK q.bs a n ok=(ok&&decide ((getF q.bs a n).2=0)&&decide (((getF q.bs a n).1:Int)<4611686018427387904)):=by
   rw [numK,Bool.and_assoc,decide_eq_decide.2 (show (getF q.bs a n).1<4611686018427387904↔((getF q.bs a n).1:Int)<4611686018427387904 by omega)]
  unfold RrM
  rw [e,show ((a+n:Nat):Int)=(a:Int)+(n:Int) by omega]
  exact hm
theorem zlO (q:Rr) (a:Nat) (ok:Bool) (w:World) (hb:Stb (RrM q a ok) w (fun w=>BytsIn w q.A q.bs)) (hl:q.bs.length≤20000000) (hc:q.bs.length≤q.c) (ha:a≤40000000) (hm:MemOk w (Foot (RrM q a ok)) (RrM q a ok) w) :
  Ctr Tryz.prog 175 [.pointer (some ⟨q.B,0,none⟩)] (RrM q a ok) (fun e m'=>e=.returned (.string (zbV q.bs a ok).1)∧m'=RrM q (zbV q.bs a ok).2.1 (zbV q.bs a ok).2.2) w:=by
 refine enter (cx:=CXS 54 [] w (Foot (RrM q a ok))) [(0,.pointer (some ⟨q.B,0,none⟩))] zaa Tryz.func175 rfl rfl rfl rfl hm ?_
 refine gGw ?_
 refine⟨zbI,zac (m1:=RrM q a ok) (by repeat constructor) (fun w' hm'=>zdz q a 1 ok w' (fun w2 hf=>hb w2 (hm'.fr.trans hf)) hl ha ⟨by omega,by omega⟩ hm'.part) ?_⟩
 rintro e m' ⟨rfl,rfl⟩
 have hkk:=fun h=>zc3 (bs:=q.bs) (a:=a) (n:=1) (ok:=ok) h
 have hin:=fun h=>zwL (bs:=q.bs) (a:=a) (ok:=ok) h
 have hvr:-9223372036854775808≤numV q.bs a 1∧numV q.bs a 1≤9223372036854775807:=by unfold numV;rw [IntKind.wrap_i64];omega
 unfold zbV
 generalize numK q.bs a 1 ok=k at hkk hin ⊢
 generalize numV q.bs a 1=v at hkk hin hvr ⊢
 refine gGw ?_
 refine zar zaa mixed (by kernel_rfl) rfl ?_
 refine gGw ?_
 refine And.intro (fun _=>zaf (by omega)) ?_
 refine gGw ?_
 refine br (fun hbad=>?_) (fun hgood=>?_)
 ·refine gGw ?_
  refine fin1 rfl rfl (fun w' hm=>⟨_,⟨?_,?_⟩,hm⟩)
  ·rw [if_neg ?_]
   rintro ⟨rfl,h2⟩
   rw [Bool.not_true,Bool.false_or,decide_eq_true_eq] at hbad
   omega
  ·rw [if_neg ?_]
   ·rfl
   rintro ⟨rfl,h2⟩
   rw [Bool.not_true,Bool.false_or,decide_eq_true_eq] at hbad
   omega
 ·simp only [Bool.or_eq_false_iff,Bool.not_eq_false',decide_eq_false_iff_not] at hgood
  obtain ⟨rfl,hle⟩:=hgood
  obtain ⟨ha1,hv⟩:=hin rfl
  obtain ⟨rfl,-,-,hv0,-⟩:=hkk rfl
  rw [if_pos ⟨rfl,by omega⟩]
  obtain ⟨n,rfl⟩:∃ n:Nat,v=(n:Int):=⟨v.toNat,by omega⟩
  rw [Int.toNat_natCast]
  refine gGw ?_
  refine zar zaa mixed (by kernel_rfl) rfl ?_
  refine gGw ?_
  have hpl:Pl q.A:=(Stb.byts (cx:=CXS 54 [] w (Foot (RrM q a true))) (m:=[]) hb rfl).plain (by omega)
  refine And.intro ⟨by omega,by omega,by omega,.inr hpl⟩ ?_
  conv=>whnf
  have hvl:((q.bs.drop (a+1)).take n).length=n:=by rw [List.length_take,List.length_drop];omega
  rw [show (((a+1:Nat):Int)+(n:Int)).toNat-((a+1:Nat):Int).toNat=((q.bs.drop (a+1)).take n).length by omega,show ((a+1:Nat):Int).toNat=a+1 by omega]
  refine⟨_,rdg fun _=>zcB (bs:=(q.bs.drop (a+1)).take n) zaa rfl rfl rfl rfl rfl rfl (Stb.byts (cx:=CXS 54 [] w (Foot (RrM q a true))) (m0:=RrM q a true) (fun w' hf=>BytsIn.sub (hb w' hf) q.c (a+1) n (by omega) hc) rfl) _,?_⟩
  refine gGw ?_
  refine fin1 rfl rfl (fun w' hm=>⟨_,⟨rfl,rfl⟩,?_⟩)
  unfold RrM
  rw [show ((a+1+n:Nat):Int)=((a+1:Nat):Int)+(n:Int) by omega]
  exact hm
end Go.Proofs.YtlmgelmloddfgaaGreat
namespace Go.Proofs.YtlmgelmloddfgaaGreat
open Go Go.RowKit Eng
theorem zoq (bs:List UInt8) (a:Nat) (ok:Bool):a+1≤(zbV bs a ok).2.1∧((zbV bs a ok).2.1≤a+1∨(zbV bs a ok).2.1≤bs.length):=by
 unfold zbV
 split
 ·rename_i h
  have:=(zc3 h.1).2.2.2
  exact⟨by show a+1≤a+1+_;omega,.inr (by show a+1+_≤_;omega)⟩
 ·exact⟨Nat.le_refl _,.inl (Nat.le_refl _)⟩
theorem zwZ (q:Rr) (a:Nat) (ok:Bool):Foot (RrM q a ok)=fun b=>b=q.B:=by
 funext b
 unfold Foot RrM
 simp [Res.foot,eq_comm]
theorem znq {q:Rr} {a a':Nat} {ok ok':Bool} {w w':World} (h:Fr (Foot (RrM q a ok)) w w'):Fr (Foot (RrM q a' ok')) w w':=by
 rw [zwZ] at h ⊢;exact h
theorem zfh {bs:List UInt8} {a n:Nat} {ok:Bool} (hn:1≤n∧n≤8) (h:numK bs a n ok=true):a+n≤bs.length:=by
 obtain ⟨_,h2,_,_,_⟩:=zc3 h
 unfold getF at h2
 rw [if_neg (by omega)] at h2
 split at h2
 ·rename_i hl
  have h1:=liesB_iff.1 hl
  omega
 ·simp at h2
def okB:Except Int (List UInt8)→List UInt8→Bool
 | .ok x,bs=>decide (x=bs)
 | .error _,_=>false
attribute [local irreducible] Br Rn RnU Cl RdG CpG Ld Rd Lp Dr Oth Cut fin Fits Eng.Enters Md NA
theorem zig {bits:Int} {L:List Snp} {out:List UInt8} (h:zb4 bits L=.ok out):zbY bits [] L=true∧L.length≤64∧out=L.flatMap zan∧out.length≤6400:=by
 unfold zb4 at h
 split at h
 ·rename_i hg
  split at h
  ·cases h
  ·rename_i h64
   injection h with h
   subst h
   have hlen:=zdo (L:=L) (f:=zan) (k:=100) (fun y hy=>by have hy2:=(zcn (zdl hg y hy)).1;rw [zeG];omega)
   exact⟨hg,by omega,rfl,by omega⟩
 ·cases h
def zdN (bs:List UInt8) (a:Nat) (ok:Bool):Snp × Nat × Bool:=(⟨(zbV bs a ok).1,numV bs ((zbV bs a ok).2.1) 8,numV bs ((zbV bs a ok).2.1+8) 4,numV bs ((zbV bs a ok).2.1+12) 8⟩,(zbV bs a ok).2.1+20,numK bs ((zbV bs a ok).2.1+12) 8 (numK bs ((zbV bs a ok).2.1+8) 4 (numK bs ((zbV bs a ok).2.1) 8 ((zbV bs a ok).2.2))))
theorem zkp:Eng.Enters Tryz.prog 138:=zab fun _ _=>by kernel_rfl
theorem zrw (q:Rr) (a:Nat) (ok:Bool) (w:World) (hb:Stb (RrM q a ok) w (fun w=>BytsIn w q.A q.bs)) (hl:q.bs.length≤20000000) (hc:q.bs.length≤q.c) (ha:a≤30000000) (hm:MemOk w (Foot (RrM q a ok)) (RrM q a ok) w) :
  Ctr Tryz.prog 138 [.pointer (some ⟨q.B,0,none⟩)] (RrM q a ok) (fun e m'=>e=.returned (.agg (zdN q.bs a ok).1.cells.toArray)∧m'=RrM q (zdN q.bs a ok).2.1 (zdN q.bs a ok).2.2) w:=by
 refine enter (cx:=CXS 17 [] w (Foot (RrM q a ok))) [(0,.pointer (some ⟨q.B,0,none⟩))] zaa Tryz.func138 rfl rfl rfl rfl hm ?_
 have ha1:=zoq q.bs a ok
 unfold zdN
 refine gGw ?_;(repeat ((first|refine .mk fun Ap capp=>?_|intro _);(conv=>whnf);refine gG0 ?_))
 refine⟨zhc,zac (m1:=RrM q a ok) (by repeat constructor) (fun w' hm'=>zlO q a ok w' (fun w2 hf=>hb w2 (hm'.fr.trans hf)) hl hc (by omega) hm'.part) ?_⟩
 rintro e m' ⟨rfl,rfl⟩
 generalize zbV q.bs a ok=r at ha1 ⊢
 obtain ⟨nm,a1,k1⟩:=r
 simp only at ha1 ⊢
 refine gGw ?_;(repeat ((first|refine .mk fun Ap capp=>?_|intro _);(conv=>whnf);refine gG0 ?_))
 refine⟨zbI,zac (m1:=RrM q (a1) (k1)) (by repeat constructor) (fun w' hm'=>zdz q (a1) 8 (k1) w' (fun w2 hf=>hb w2 (hm'.fr.trans (znq hf))) hl (by omega) ⟨by omega,by omega⟩ hm'.part) ?_⟩
 rintro e m' ⟨rfl,rfl⟩
 refine gGw ?_
 refine⟨zbI,zac (m1:=RrM q (a1+8) (numK q.bs (a1) 8 (k1))) (by repeat constructor) (fun w' hm'=>zdz q (a1+8) 4 (numK q.bs (a1) 8 (k1)) w' (fun w2 hf=>hb w2 (hm'.fr.trans (znq hf))) hl (by omega) ⟨by omega,by omega⟩ hm'.part) ?_⟩
 rintro e m' ⟨rfl,rfl⟩
 refine gGw ?_
 refine⟨zbI,zac (m1:=RrM q (a1+12) (numK q.bs (a1+8) 4 (numK q.bs (a1) 8 (k1)))) (by repeat constructor) (fun w' hm'=>zdz q (a1+12) 8 (numK q.bs (a1+8) 4 (numK q.bs (a1) 8 (k1))) w' (fun w2 hf=>hb w2 (hm'.fr.trans (znq hf))) hl (by omega) ⟨by omega,by omega⟩ hm'.part) ?_⟩
 rintro e m' ⟨rfl,rfl⟩
 refine gGw ?_
 exact zw1 rfl rfl (ldN zaa (by repeat constructor) rfl rfl rfl rfl) (fun w' hm=>⟨_,⟨rfl,rfl⟩,hm.sl⟩)
theorem zup {bs:List UInt8} {a:Nat} {ok:Bool} (h:(zdN bs a ok).2.2=true):(zdN bs a ok).2.1≤bs.length:=by
 unfold zdN at h ⊢
 have:=zfh (by omega) h
 exact this
def zcp (bs:List UInt8):Nat→Nat→Bool→List Snp→List Snp × Bool
 | 0,_,ok,acc=>(acc,ok)
 | n+1,a,ok,acc=>if (zdN bs a ok).2.2=true then zcp bs n (zdN bs a ok).2.1 true (acc++[(zdN bs a ok).1]) else (acc++[(zdN bs a ok).1],false)
theorem zjv (bs:List UInt8):∀ (n a:Nat) (ok:Bool) (acc:List Snp),(zcp bs n a ok acc).1.length≤acc.length+n
 | 0,_,_,_=>Nat.le_refl _
 | n+1,a,ok,acc=>by
  rw [zcp]
  split
  ·have:=zjv bs n (zdN bs a ok).2.1 true (acc++[(zdN bs a ok).1])
   rw [List.length_append,List.length_singleton] at this
   omega
  ·simp
def zaQ (bits:Int) (bs:List UInt8) (n:Int):Option (List Snp) :=
 if (zcp bs n.toNat 0 true []).2=true∧okB (zb4 bits (zcp bs n.toNat 0 true []).1) bs=true then some (zcp bs n.toNat 0 true []).1 else none
theorem zkq:Eng.Enters Tryz.prog 137:=zab fun _ _=>by kernel_rfl
def zvS (R:Option (List Snp)) (e:Ending) (m':Mem):Prop:=(R=none∧(∃ no,no≠0∧e=.returned (.tuple #[.slice none 0 0,.int .i64 no]))∧m'=[]) ∨
  ∃ l lA lc,R=some l∧e=.returned (.tuple #[.slice lA l.length lc,.int .i64 0])∧m'=[.row lA lc l.length 175 4 (l.flatMap Snp.cells)]
theorem zpD (A:Option Addr) (c:Nat) (bs:List UInt8) (bits n:Int) (bB:Nat) (w:World) (hb:BytsIn w A bs) (hl:bs.length≤20000000) (hc:bs.length≤c) (hbits:9≤bits∧bits≤16) (hn:0≤n∧n≤64) (hcell:w.cell? ⟨bB,0,none⟩=some (.int .i64 bits)) :
  Ctr Tryz.prog 137 [.int .i64 bits,.int .i64 n,.slice A bs.length c,.func (.func 138) #[] #[],.func (.func 139) #[] #[.pointer (some ⟨bB,0,none⟩)]] [] (zvS (zaQ bits bs n)) w:=by
 refine enter (cx:=CXS 66 [] w (Foot [])) [(0,.int .i64 bits),(1,.int .i64 n),(2,.slice A bs.length c),(3,.func (.func 138) #[] #[]),(4,.func (.func 139) #[] #[.pointer (some ⟨bB,0,none⟩)])] zaa Tryz.func137 rfl rfl rfl rfl (MemOk.nil w _) ?_
 have hlenT:=zjv bs n.toNat 0 true []
 unfold zaQ
 generalize hT:zcp bs n.toNat 0 true []=T at hlenT
 refine gGw ?_
 refine zdh zaa ?_
 refine gGw ?_
 refine br_f (by rw [decide_eq_false (by omega),decide_eq_false (by omega),decide_eq_false (by omega)];rfl) ?_
 refine gGw ?_;(repeat ((first|refine .mk fun Ap capp=>?_|intro _);(conv=>whnf);refine gG0 ?_))
 rename_i rB
 refine lp zaa (γ:=Nat × Nat × List Snp × Option Addr × Nat) (fun g=>g.1≤n.toNat∧g.2.1≤bs.length∧g.2.2.1.length=g.1∧zcp bs (n.toNat-g.1) g.2.1 true g.2.2.1=T)
  (fun g=>[(30,.int .i64 (g.1:Int)),(29,.int .i64 n),(13,.slice g.2.2.2.1 g.2.2.1.length g.2.2.2.2),(12,.pointer (some ⟨rB,0,none⟩)),(0,.int .i64 bits),(2,.slice A bs.length c),(3,.func (.func 138) #[] #[]),(4,.func (.func 139) #[] #[.pointer (some ⟨bB,0,none⟩)])])
  (fun g=>.row g.2.2.2.1 g.2.2.2.2 g.2.2.1.length 175 4 (g.2.2.1.flatMap Snp.cells)::RrM ⟨bs,A,c,rB⟩ g.2.1 true) (fun g=>n.toNat-g.1) (0,0,[],none,0) ⟨Nat.zero_le _,Nat.zero_le _,rfl,hT⟩ ⟨rfl,rfl,rfl,rfl,rfl,rfl,rfl,rfl,trivial⟩ (SubM.row0 SubM.sl _ _) ?_
 clear hT
 rintro ⟨i,a,l,lA,lc⟩ ⟨hi,ha,hli,hT⟩
 simp only at hi ha hli hT
 dsimp only
 conv=>whnf
 refine br_d (fun hlt=>?_) (fun hge=>?_)
 ·obtain ⟨f,hf⟩:∃ f,n.toNat-i=f+1:=⟨n.toNat-i-1,by omega⟩
  rw [hf,zcp] at hT
  refine gGw ?_
  refine⟨zkp,zac (m1:=RrM ⟨bs,A,c,rB⟩ a true) (by repeat constructor) (fun w' hm'=>zrw ⟨bs,A,c,rB⟩ a true w' (stb hm' (fun w3 h3=>(BytsIn.byts (cx:=CXS 66 [] w (Foot [])) hb zao).in_ h3)) hl hc (by omega) hm'.part) ?_⟩
  rintro e m' ⟨rfl,rfl⟩
  have hrok:=zup (bs:=bs) (a:=a) (ok:=true)
  dsimp only
  generalize zdN bs a true=r at hT hrok ⊢
  obtain ⟨x,a1,k1⟩:=r
  simp only at hT hrok ⊢
  have el:(l++[x]).flatMap Snp.cells=l.flatMap Snp.cells++x.cells:=by rw [List.flatMap_append];simp
  have ll:(l++[x]).length=l.length+1:=by simp
  refine gGw ?_;(repeat ((first|refine .mk fun Ap capp=>?_|intro _);(conv=>whnf);refine gG0 ?_))
  refine br_n (br (fun hk=>?_) (fun hk=>?_))
  ·subst hk
   rw [if_pos rfl] at hT
   refine gGw ?_
   refine⟨(i+1,a1,l++[x],Ap,capp),⟨by show i+1≤n.toNat;omega,hrok rfl,by show (l++[x]).length=i+1;omega,by show zcp bs (n.toNat-(i+1)) a1 true (l++[x])=T;rw [show n.toNat-(i+1)=f by omega];exact hT⟩,by show n.toNat-(i+1)<n.toNat-i;omega,⟨rfl,rfl,?_,rfl,rfl,rfl,rfl,rfl,trivial⟩,?_⟩
   ·show some _=some _
    simp only [ll]
   ·show SubM _ _ (.row Ap capp (l++[x]).length 175 4 ((l++[x]).flatMap Snp.cells)::RrM ⟨bs,A,c,rB⟩ a1 true)
    rw [el,ll]
    exact SubM.sl
  ·subst hk
   rw [if_neg (by decide)] at hT
   subst hT
   simp only at hlenT ⊢
   rw [← ll]
   refine gGw ?_
   have hrow:=fun (w':World) (hm':MemOk w (Foot []) (.row Ap capp (l++[x]).length 175 4 (l.flatMap Snp.cells++x.cells)::RrM ⟨bs,A,c,rB⟩ a1 false) w')=>RowIn.of_row (L:=(l++[x])) (f:=Snp.cells) (k:=4) (fun _=>rfl) (by omega) (by rw [el];exact hm'.ok _ (List.mem_cons_self ..))
   refine⟨zf2,zcm (m1:=.row Ap capp (l++[x]).length 175 4 (l.flatMap Snp.cells++x.cells)::RrM ⟨bs,A,c,rB⟩ a1 false) SubM.sl (zac (m1:=[]) .nil (fun w' hm'=>zji bits (l++[x]) Ap capp bB w' hbits (by omega) (hrow w' (hm'.sel (by repeat constructor))) (hm'.far hcell (zao _))) ?_)⟩
   rintro e m' (⟨no,hno,hno0,rfl,rfl⟩|⟨out,oA,oc,hno,rfl,rfl⟩)
   ·have hz:okB (zb4 bits (l++[x])) bs=false:=by rw [hno];rfl
    refine gGw ?_
    refine br_t (by rw [decide_eq_false hno0];simp) ?_
    refine gGw ?_
    refine br_t rfl ?_
    refine gGw ?_
    exact fin2 rfl rfl rfl (fun w' hm=>⟨_,.inl ⟨if_neg (by rw [hz];simp),⟨210,by decide,rfl⟩,rfl⟩,hm.sublist (List.nil_sublist _)⟩)
   ·have hz:okB (zb4 bits (l++[x])) bs=decide (out=bs):=by rw [hno];rfl
    refine gGw ?_
    refine br_t rfl ?_
    refine gGw ?_
    refine br_t rfl ?_
    refine gGw ?_
    exact fin2 rfl rfl rfl (fun w' hm=>⟨_,.inl ⟨if_neg (by simp),⟨210,by decide,rfl⟩,rfl⟩,hm.sublist (List.nil_sublist _)⟩)
 ·obtain rfl:i=n.toNat:=by omega
  rw [Nat.sub_self,zcp] at hT
  subst hT
  simp only at hlenT ⊢
  refine gGw ?_
  have hrow:=fun (w':World) (hm':MemOk w (Foot []) (.row lA lc l.length 175 4 (l.flatMap Snp.cells)::RrM ⟨bs,A,c,rB⟩ a true) w')=>RowIn.of_row (L:=l) (f:=Snp.cells) (k:=4) (fun _=>rfl) (by omega) (hm'.ok _ (List.mem_cons_self ..))
  refine⟨zf2,zcm (m1:=.row lA lc l.length 175 4 (l.flatMap Snp.cells)::RrM ⟨bs,A,c,rB⟩ a true) SubM.sl (zac (m1:=[]) .nil (fun w' hm'=>zji bits l lA lc bB w' hbits (by omega) (hrow w' (hm'.sel (by repeat constructor))) (hm'.far hcell (zao _))) ?_)⟩
  rintro e m' (⟨no,hno,hno0,rfl,rfl⟩|⟨out,oA,oc,hno,rfl,rfl⟩)
  ·have hz:okB (zb4 bits l) bs=false:=by rw [hno];rfl
   refine gGw ?_
   refine br_t (by rw [decide_eq_false hno0];simp) ?_
   refine gGw ?_
   refine br_t rfl ?_
   refine gGw ?_
   exact fin2 rfl rfl rfl (fun w' hm=>⟨_,.inl ⟨if_neg (by rw [hz];simp),⟨210,by decide,rfl⟩,rfl⟩,hm.sublist (List.nil_sublist _)⟩)
  ·have hz:okB (zb4 bits l) bs=decide (out=bs):=by rw [hno];rfl
   refine gGw ?_
   refine br_f rfl ?_
   refine gGw ?_
   have hout:=(zig hno).2.2.2
   refine⟨zhV,zae _ (fun w' hm'=>zn3 out bs oA A oc c w' (rowI (hm'.ok (BR8 oA oc out.length out) (by simp))) ((BytsIn.byts (cx:=CXS 66 [] w (Foot [])) hb zao).in_ hm') (by omega)) ?_⟩
   refine gGw ?_
   refine br_n (br (fun he=>?_) (fun he=>?_))
   ·refine gGw ?_
    refine fin2 rfl rfl rfl (fun w' hm=>⟨_,.inr ⟨l,lA,lc,if_pos ⟨trivial,by rw [hz];exact he⟩,rfl,rfl⟩,hm.sl⟩)
   ·refine gGw ?_
    exact fin2 rfl rfl rfl (fun w' hm=>⟨_,.inl ⟨if_neg (by rw [hz,he];simp),⟨210,by decide,rfl⟩,rfl⟩,hm.sublist (List.nil_sublist _)⟩)
theorem zpE (A:Option Addr) (c:Nat) (bs:List UInt8) (bits n:Int) (w:World) (hb:BytsIn w A bs) (hl:bs.length≤20000000) (hc:bs.length≤c) (hbits:9≤bits∧bits≤16) (hn:0≤n∧n≤64) :
  Ctr Tryz.prog 97 [.int .i64 bits,.slice A bs.length c,.int .i64 n] [] (zvS (zaQ bits bs n)) w:=by
 refine enter (cx:=CXS 15 [] w (Foot [])) [(0,.int .i64 bits),(1,.slice A bs.length c),(2,.int .i64 n)] zaa Tryz.func97 rfl rfl rfl rfl (MemOk.nil w _) ?_
 refine gGw ?_;(repeat ((first|refine .mk fun Ap capp=>?_|intro _);(conv=>whnf);refine gG0 ?_))
 rename_i bB
 refine⟨zkq,zac (m1:=[]) .nil (fun w' hm'=>zpD A c bs bits n bB w' ((BytsIn.byts (cx:=CXS 15 [] w (Foot [])) hb zao).in_ hm') hl hc hbits hn (by rw [zaM (hm'.ok (.blk bB (.cells [Value.int .i64 bits].toArray 3)) (List.mem_singleton.2 rfl))];rfl)) ?_⟩
 rintro e m' (⟨hno,⟨no,hno0,rfl⟩,rfl⟩|⟨l,lA,lc,hno,rfl,rfl⟩)
 ·refine gGw ?_
  exact fin2 rfl rfl rfl (fun w' hm=>⟨_,.inl ⟨hno,⟨no,hno0,rfl⟩,rfl⟩,hm.sublist (List.nil_sublist _)⟩)
 ·refine gGw ?_
  exact fin2 rfl rfl rfl (fun w' hm=>⟨_,.inr ⟨l,lA,lc,hno,rfl,rfl⟩,hm.sl⟩)
theorem zjt {bits n:Int} {bs:List UInt8} {l:List Snp} (h:zaQ bits bs n=some l):zbY bits [] l=true∧l.length≤64∧bs=l.flatMap zan∧l=(zcp bs n.toNat 0 true []).1:=by
 unfold zaQ at h
 split at h
 ·rename_i hk
  injection h with h
  subst h
  rcases hp:zb4 bits (zcp bs n.toNat 0 true []).1 with no|out
  ·rw [hp] at hk;exact absurd hk.2 (by simp [okB])
  ·rw [hp] at hk
   have h1:=zig hp
   have h2:out=bs:=of_decide_eq_true hk.2
   exact⟨h1.1,h1.2.1,h2 ▸ h1.2.2.1,rfl⟩
 ·cases h
theorem zq7:zvP zaQ:=by
 intro A c bs bits n w hb hl hc hbits hn
 refine⟨fun l h=>?_,zpE A c bs bits n w hb hl hc hbits hn⟩
 obtain ⟨h1,h2,_,_⟩:=zjt h
 refine⟨fun x hx=>?_,h2⟩
 have hy:=zdl h1 x hx
 have hl1:=(zcn hy).2.1
 have hl2:=(zcn hy).2.2.1
 exact⟨by omega,by omega⟩
theorem zih {bits:Int} {L:List Rwp} {out:List UInt8} (h:zb5 bits L=.ok out):zbZ bits [] L=true∧L.length≤64∧out=L.flatMap zal∧out.length≤6400:=by
 unfold zb5 at h
 split at h
 ·rename_i hg
  split at h
  ·cases h
  ·rename_i h64
   injection h with h
   subst h
   have hlen:=zdo (L:=L) (f:=zal) (k:=100) (fun y hy=>by have hy2:=(zc1 (zdm hg y hy)).1;rw [zeI];omega)
   exact⟨hg,by omega,rfl,by omega⟩
 ·cases h
def zdO (bs:List UInt8) (a:Nat) (ok:Bool):Rwp × Nat × Bool:=(⟨(zbV bs a ok).1,numV bs ((zbV bs a ok).2.1) 1,numV bs ((zbV bs a ok).2.1+1) 1,numV bs ((zbV bs a ok).2.1+2) 8,numV bs ((zbV bs a ok).2.1+10) 4⟩,(zbV bs a ok).2.1+14,numK bs ((zbV bs a ok).2.1+10) 4 (numK bs ((zbV bs a ok).2.1+2) 8 (numK bs ((zbV bs a ok).2.1+1) 1 (numK bs ((zbV bs a ok).2.1) 1 ((zbV bs a ok).2.2)))))
theorem zkr:Eng.Enters Tryz.prog 142:=zab fun _ _=>by kernel_rfl
theorem zrx (q:Rr) (a:Nat) (ok:Bool) (w:World) (hb:Stb (RrM q a ok) w (fun w=>BytsIn w q.A q.bs)) (hl:q.bs.length≤20000000) (hc:q.bs.length≤q.c) (ha:a≤30000000) (hm:MemOk w (Foot (RrM q a ok)) (RrM q a ok) w) :
  Ctr Tryz.prog 142 [.pointer (some ⟨q.B,0,none⟩)] (RrM q a ok) (fun e m'=>e=.returned (.agg (zdO q.bs a ok).1.cells.toArray)∧m'=RrM q (zdO q.bs a ok).2.1 (zdO q.bs a ok).2.2) w:=by
 refine enter (cx:=CXS 20 [] w (Foot (RrM q a ok))) [(0,.pointer (some ⟨q.B,0,none⟩))] zaa Tryz.func142 rfl rfl rfl rfl hm ?_
 have ha1:=zoq q.bs a ok
 unfold zdO
 refine gGw ?_;(repeat ((first|refine .mk fun Ap capp=>?_|intro _);(conv=>whnf);refine gG0 ?_))
 refine⟨zhc,zac (m1:=RrM q a ok) (by repeat constructor) (fun w' hm'=>zlO q a ok w' (fun w2 hf=>hb w2 (hm'.fr.trans hf)) hl hc (by omega) hm'.part) ?_⟩
 rintro e m' ⟨rfl,rfl⟩
 generalize zbV q.bs a ok=r at ha1 ⊢
 obtain ⟨nm,a1,k1⟩:=r
 simp only at ha1 ⊢
 refine gGw ?_;(repeat ((first|refine .mk fun Ap capp=>?_|intro _);(conv=>whnf);refine gG0 ?_))
 refine⟨zbI,zac (m1:=RrM q (a1) (k1)) (by repeat constructor) (fun w' hm'=>zdz q (a1) 1 (k1) w' (fun w2 hf=>hb w2 (hm'.fr.trans (znq hf))) hl (by omega) ⟨by omega,by omega⟩ hm'.part) ?_⟩
 rintro e m' ⟨rfl,rfl⟩
 refine gGw ?_
 refine⟨zbI,zac (m1:=RrM q (a1+1) (numK q.bs (a1) 1 (k1))) (by repeat constructor) (fun w' hm'=>zdz q (a1+1) 1 (numK q.bs (a1) 1 (k1)) w' (fun w2 hf=>hb w2 (hm'.fr.trans (znq hf))) hl (by omega) ⟨by omega,by omega⟩ hm'.part) ?_⟩
 rintro e m' ⟨rfl,rfl⟩
 refine gGw ?_
 refine⟨zbI,zac (m1:=RrM q (a1+2) (numK q.bs (a1+1) 1 (numK q.bs (a1) 1 (k1)))) (by repeat constructor) (fun w' hm'=>zdz q (a1+2) 8 (numK q.bs (a1+1) 1 (numK q.bs (a1) 1 (k1))) w' (fun w2 hf=>hb w2 (hm'.fr.trans (znq hf))) hl (by omega) ⟨by omega,by omega⟩ hm'.part) ?_⟩
 rintro e m' ⟨rfl,rfl⟩
 refine gGw ?_
 refine⟨zbI,zac (m1:=RrM q (a1+10) (numK q.bs (a1+2) 8 (numK q.bs (a1+1) 1 (numK q.bs (a1) 1 (k1))))) (by repeat constructor) (fun w' hm'=>zdz q (a1+10) 4 (numK q.bs (a1+2) 8 (numK q.bs (a1+1) 1 (numK q.bs (a1) 1 (k1)))) w' (fun w2 hf=>hb w2 (hm'.fr.trans (znq hf))) hl (by omega) ⟨by omega,by omega⟩ hm'.part) ?_⟩
 rintro e m' ⟨rfl,rfl⟩
 refine gGw ?_
 exact zw1 rfl rfl (ldN zaa (by repeat constructor) rfl rfl rfl rfl) (fun w' hm=>⟨_,⟨rfl,rfl⟩,hm.sl⟩)
theorem zuq {bs:List UInt8} {a:Nat} {ok:Bool} (h:(zdO bs a ok).2.2=true):(zdO bs a ok).2.1≤bs.length:=by
 unfold zdO at h ⊢
 have:=zfh (by omega) h
 exact this
def zcq (bs:List UInt8):Nat→Nat→Bool→List Rwp→List Rwp × Bool
 | 0,_,ok,acc=>(acc,ok)
 | n+1,a,ok,acc=>if (zdO bs a ok).2.2=true then zcq bs n (zdO bs a ok).2.1 true (acc++[(zdO bs a ok).1]) else (acc++[(zdO bs a ok).1],false)
theorem zjw (bs:List UInt8):∀ (n a:Nat) (ok:Bool) (acc:List Rwp),(zcq bs n a ok acc).1.length≤acc.length+n
 | 0,_,_,_=>Nat.le_refl _
 | n+1,a,ok,acc=>by
  rw [zcq]
  split
  ·have:=zjw bs n (zdO bs a ok).2.1 true (acc++[(zdO bs a ok).1])
   rw [List.length_append,List.length_singleton] at this
   omega
  ·simp
def za3 (bits:Int) (bs:List UInt8) (n:Int):Option (List Rwp) :=
 if (zcq bs n.toNat 0 true []).2=true∧okB (zb5 bits (zcq bs n.toNat 0 true []).1) bs=true then some (zcq bs n.toNat 0 true []).1 else none
theorem zks:Eng.Enters Tryz.prog 141:=zab fun _ _=>by kernel_rfl
def zvT (R:Option (List Rwp)) (e:Ending) (m':Mem):Prop:=(R=none∧(∃ no,no≠0∧e=.returned (.tuple #[.slice none 0 0,.int .i64 no]))∧m'=[]) ∨
  ∃ l lA lc,R=some l∧e=.returned (.tuple #[.slice lA l.length lc,.int .i64 0])∧m'=[.row lA lc l.length 180 5 (l.flatMap Rwp.cells)]
theorem zpF (A:Option Addr) (c:Nat) (bs:List UInt8) (bits n:Int) (bB:Nat) (w:World) (hb:BytsIn w A bs) (hl:bs.length≤20000000) (hc:bs.length≤c) (hbits:9≤bits∧bits≤16) (hn:0≤n∧n≤64) (hcell:w.cell? ⟨bB,0,none⟩=some (.int .i64 bits)) :
  Ctr Tryz.prog 141 [.int .i64 bits,.int .i64 n,.slice A bs.length c,.func (.func 142) #[] #[],.func (.func 143) #[] #[.pointer (some ⟨bB,0,none⟩)]] [] (zvT (za3 bits bs n)) w:=by
 refine enter (cx:=CXS 66 [] w (Foot [])) [(0,.int .i64 bits),(1,.int .i64 n),(2,.slice A bs.length c),(3,.func (.func 142) #[] #[]),(4,.func (.func 143) #[] #[.pointer (some ⟨bB,0,none⟩)])] zaa Tryz.func141 rfl rfl rfl rfl (MemOk.nil w _) ?_
 have hlenT:=zjw bs n.toNat 0 true []
 unfold za3
 generalize hT:zcq bs n.toNat 0 true []=T at hlenT
 refine gGw ?_
 refine zdh zaa ?_
 refine gGw ?_
 refine br_f (by rw [decide_eq_false (by omega),decide_eq_false (by omega),decide_eq_false (by omega)];rfl) ?_
 refine gGw ?_;(repeat ((first|refine .mk fun Ap capp=>?_|intro _);(conv=>whnf);refine gG0 ?_))
 rename_i rB
 refine lp zaa (γ:=Nat × Nat × List Rwp × Option Addr × Nat) (fun g=>g.1≤n.toNat∧g.2.1≤bs.length∧g.2.2.1.length=g.1∧zcq bs (n.toNat-g.1) g.2.1 true g.2.2.1=T)
  (fun g=>[(30,.int .i64 (g.1:Int)),(29,.int .i64 n),(13,.slice g.2.2.2.1 g.2.2.1.length g.2.2.2.2),(12,.pointer (some ⟨rB,0,none⟩)),(0,.int .i64 bits),(2,.slice A bs.length c),(3,.func (.func 142) #[] #[]),(4,.func (.func 143) #[] #[.pointer (some ⟨bB,0,none⟩)])])
  (fun g=>.row g.2.2.2.1 g.2.2.2.2 g.2.2.1.length 180 5 (g.2.2.1.flatMap Rwp.cells)::RrM ⟨bs,A,c,rB⟩ g.2.1 true) (fun g=>n.toNat-g.1) (0,0,[],none,0) ⟨Nat.zero_le _,Nat.zero_le _,rfl,hT⟩ ⟨rfl,rfl,rfl,rfl,rfl,rfl,rfl,rfl,trivial⟩ (SubM.row0 SubM.sl _ _) ?_
 clear hT
 rintro ⟨i,a,l,lA,lc⟩ ⟨hi,ha,hli,hT⟩
 simp only at hi ha hli hT
 dsimp only
 conv=>whnf
 refine br_d (fun hlt=>?_) (fun hge=>?_)
 ·obtain ⟨f,hf⟩:∃ f,n.toNat-i=f+1:=⟨n.toNat-i-1,by omega⟩
  rw [hf,zcq] at hT
  refine gGw ?_
  refine⟨zkr,zac (m1:=RrM ⟨bs,A,c,rB⟩ a true) (by repeat constructor) (fun w' hm'=>zrx ⟨bs,A,c,rB⟩ a true w' (stb hm' (fun w3 h3=>(BytsIn.byts (cx:=CXS 66 [] w (Foot [])) hb zao).in_ h3)) hl hc (by omega) hm'.part) ?_⟩
  rintro e m' ⟨rfl,rfl⟩
  have hrok:=zuq (bs:=bs) (a:=a) (ok:=true)
  dsimp only
  generalize zdO bs a true=r at hT hrok ⊢
  obtain ⟨x,a1,k1⟩:=r
  simp only at hT hrok ⊢
  have el:(l++[x]).flatMap Rwp.cells=l.flatMap Rwp.cells++x.cells:=by rw [List.flatMap_append];simp
  have ll:(l++[x]).length=l.length+1:=by simp
  refine gGw ?_;(repeat ((first|refine .mk fun Ap capp=>?_|intro _);(conv=>whnf);refine gG0 ?_))
  refine br_n (br (fun hk=>?_) (fun hk=>?_))
  ·subst hk
   rw [if_pos rfl] at hT
   refine gGw ?_
   refine⟨(i+1,a1,l++[x],Ap,capp),⟨by show i+1≤n.toNat;omega,hrok rfl,by show (l++[x]).length=i+1;omega,by show zcq bs (n.toNat-(i+1)) a1 true (l++[x])=T;rw [show n.toNat-(i+1)=f by omega];exact hT⟩,by show n.toNat-(i+1)<n.toNat-i;omega,⟨rfl,rfl,?_,rfl,rfl,rfl,rfl,rfl,trivial⟩,?_⟩
   ·show some _=some _
    simp only [ll]
   ·show SubM _ _ (.row Ap capp (l++[x]).length 180 5 ((l++[x]).flatMap Rwp.cells)::RrM ⟨bs,A,c,rB⟩ a1 true)
    rw [el,ll]
    exact SubM.sl
  ·subst hk
   rw [if_neg (by decide)] at hT
   subst hT
   simp only at hlenT ⊢
   rw [← ll]
   refine gGw ?_
   have hrow:=fun (w':World) (hm':MemOk w (Foot []) (.row Ap capp (l++[x]).length 180 5 (l.flatMap Rwp.cells++x.cells)::RrM ⟨bs,A,c,rB⟩ a1 false) w')=>RowIn.of_row (L:=(l++[x])) (f:=Rwp.cells) (k:=5) (fun _=>rfl) (by omega) (by rw [el];exact hm'.ok _ (List.mem_cons_self ..))
   refine⟨zg9,zcm (m1:=.row Ap capp (l++[x]).length 180 5 (l.flatMap Rwp.cells++x.cells)::RrM ⟨bs,A,c,rB⟩ a1 false) SubM.sl (zac (m1:=[]) .nil (fun w' hm'=>zln bits (l++[x]) Ap capp bB w' hbits (by omega) (hrow w' (hm'.sel (by repeat constructor))) (hm'.far hcell (zao _))) ?_)⟩
   rintro e m' (⟨no,hno,hno0,rfl,rfl⟩|⟨out,oA,oc,hno,rfl,rfl⟩)
   ·have hz:okB (zb5 bits (l++[x])) bs=false:=by rw [hno];rfl
    refine gGw ?_
    refine br_t (by rw [decide_eq_false hno0];simp) ?_
    refine gGw ?_
    refine br_t rfl ?_
    refine gGw ?_
    exact fin2 rfl rfl rfl (fun w' hm=>⟨_,.inl ⟨if_neg (by rw [hz];simp),⟨210,by decide,rfl⟩,rfl⟩,hm.sublist (List.nil_sublist _)⟩)
   ·have hz:okB (zb5 bits (l++[x])) bs=decide (out=bs):=by rw [hno];rfl
    refine gGw ?_
    refine br_t rfl ?_
    refine gGw ?_
    refine br_t rfl ?_
    refine gGw ?_
    exact fin2 rfl rfl rfl (fun w' hm=>⟨_,.inl ⟨if_neg (by simp),⟨210,by decide,rfl⟩,rfl⟩,hm.sublist (List.nil_sublist _)⟩)
 ·obtain rfl:i=n.toNat:=by omega
  rw [Nat.sub_self,zcq] at hT
  subst hT
  simp only at hlenT ⊢
  refine gGw ?_
  have hrow:=fun (w':World) (hm':MemOk w (Foot []) (.row lA lc l.length 180 5 (l.flatMap Rwp.cells)::RrM ⟨bs,A,c,rB⟩ a true) w')=>RowIn.of_row (L:=l) (f:=Rwp.cells) (k:=5) (fun _=>rfl) (by omega) (hm'.ok _ (List.mem_cons_self ..))
  refine⟨zg9,zcm (m1:=.row lA lc l.length 180 5 (l.flatMap Rwp.cells)::RrM ⟨bs,A,c,rB⟩ a true) SubM.sl (zac (m1:=[]) .nil (fun w' hm'=>zln bits l lA lc bB w' hbits (by omega) (hrow w' (hm'.sel (by repeat constructor))) (hm'.far hcell (zao _))) ?_)⟩
  rintro e m' (⟨no,hno,hno0,rfl,rfl⟩|⟨out,oA,oc,hno,rfl,rfl⟩)
  ·have hz:okB (zb5 bits l) bs=false:=by rw [hno];rfl
   refine gGw ?_
   refine br_t (by rw [decide_eq_false hno0];simp) ?_
   refine gGw ?_
   refine br_t rfl ?_
   refine gGw ?_
   exact fin2 rfl rfl rfl (fun w' hm=>⟨_,.inl ⟨if_neg (by rw [hz];simp),⟨210,by decide,rfl⟩,rfl⟩,hm.sublist (List.nil_sublist _)⟩)
  ·have hz:okB (zb5 bits l) bs=decide (out=bs):=by rw [hno];rfl
   refine gGw ?_
   refine br_f rfl ?_
   refine gGw ?_
   have hout:=(zih hno).2.2.2
   refine⟨zhV,zae _ (fun w' hm'=>zn3 out bs oA A oc c w' (rowI (hm'.ok (BR8 oA oc out.length out) (by simp))) ((BytsIn.byts (cx:=CXS 66 [] w (Foot [])) hb zao).in_ hm') (by omega)) ?_⟩
   refine gGw ?_
   refine br_n (br (fun he=>?_) (fun he=>?_))
   ·refine gGw ?_
    refine fin2 rfl rfl rfl (fun w' hm=>⟨_,.inr ⟨l,lA,lc,if_pos ⟨trivial,by rw [hz];exact he⟩,rfl,rfl⟩,hm.sl⟩)
   ·refine gGw ?_
    exact fin2 rfl rfl rfl (fun w' hm=>⟨_,.inl ⟨if_neg (by rw [hz,he];simp),⟨210,by decide,rfl⟩,rfl⟩,hm.sublist (List.nil_sublist _)⟩)
theorem zpG (A:Option Addr) (c:Nat) (bs:List UInt8) (bits n:Int) (w:World) (hb:BytsIn w A bs) (hl:bs.length≤20000000) (hc:bs.length≤c) (hbits:9≤bits∧bits≤16) (hn:0≤n∧n≤64) :
  Ctr Tryz.prog 98 [.int .i64 bits,.slice A bs.length c,.int .i64 n] [] (zvT (za3 bits bs n)) w:=by
 refine enter (cx:=CXS 15 [] w (Foot [])) [(0,.int .i64 bits),(1,.slice A bs.length c),(2,.int .i64 n)] zaa Tryz.func98 rfl rfl rfl rfl (MemOk.nil w _) ?_
 refine gGw ?_;(repeat ((first|refine .mk fun Ap capp=>?_|intro _);(conv=>whnf);refine gG0 ?_))
 rename_i bB
 refine⟨zks,zac (m1:=[]) .nil (fun w' hm'=>zpF A c bs bits n bB w' ((BytsIn.byts (cx:=CXS 15 [] w (Foot [])) hb zao).in_ hm') hl hc hbits hn (by rw [zaM (hm'.ok (.blk bB (.cells [Value.int .i64 bits].toArray 3)) (List.mem_singleton.2 rfl))];rfl)) ?_⟩
 rintro e m' (⟨hno,⟨no,hno0,rfl⟩,rfl⟩|⟨l,lA,lc,hno,rfl,rfl⟩)
 ·refine gGw ?_
  exact fin2 rfl rfl rfl (fun w' hm=>⟨_,.inl ⟨hno,⟨no,hno0,rfl⟩,rfl⟩,hm.sublist (List.nil_sublist _)⟩)
 ·refine gGw ?_
  exact fin2 rfl rfl rfl (fun w' hm=>⟨_,.inr ⟨l,lA,lc,hno,rfl,rfl⟩,hm.sl⟩)
theorem zju {bits n:Int} {bs:List UInt8} {l:List Rwp} (h:za3 bits bs n=some l):zbZ bits [] l=true∧l.length≤64∧bs=l.flatMap zal∧l=(zcq bs n.toNat 0 true []).1:=by
 unfold za3 at h
 split at h
 ·rename_i hk
  injection h with h
  subst h
  rcases hp:zb5 bits (zcq bs n.toNat 0 true []).1 with no|out
  ·rw [hp] at hk;exact absurd hk.2 (by simp [okB])
  ·rw [hp] at hk
   have h1:=zih hp
   have h2:out=bs:=of_decide_eq_true hk.2
   exact⟨h1.1,h1.2.1,h2 ▸ h1.2.2.1,rfl⟩
 ·cases h
theorem zvu:zyq za3:=by
 intro A c bs bits n w hb hl hc hbits hn
 refine⟨fun l h=>?_,zpG A c bs bits n w hb hl hc hbits hn⟩
 obtain ⟨h1,h2,_,_⟩:=zju h
 refine⟨fun x hx=>?_,h2⟩
 have hy:=zdm h1 x hx
 have hl1:=(zc1 hy).2.2.2.1
 have hl2:=(zc1 hy).2.2.2.2
 exact⟨by omega,by omega⟩
end Go.Proofs.YtlmgelmloddfgaaGreat
namespace Go.Proofs.YtlmgelmloddfgaaGreat
open Go Go.RowKit Eng
def zi3:List UInt8→Option (Snp × List UInt8)
 | []=>none
 | k::r=>if r.length<k.toNat+20 then none else some (⟨Str (r.take k.toNat),numT (leV ((r.drop k.toNat).take 8)),numT (leV (((r.drop k.toNat).drop 8).take 4)),numT (leV (((r.drop k.toNat).drop 12).take 8))⟩,(r.drop k.toNat).drop 20)
def zgO:Nat→List UInt8→List Snp→Option (List Snp)
 | 0,_,acc=>some acc
 | n+1,rest,acc=>match zi3 rest with
  | none=>none
  | some (x,r)=>zgO n r (acc++[x])
def zkt (bits:Int) (bs:List UInt8) (n:Int):Option (List Snp):=match zgO n.toNat bs [] with
 | none=>none
 | some l=>if okB (zb4 bits l) bs=true then some l else none
theorem znp {bs:List UInt8} {a n:Nat} (hn:1≤n∧n≤8) (h:a+n≤bs.length):getF bs a n=(getV bs a n,0):=by
 rw [getF,if_neg (by omega),liesB_iff.2 ⟨by omega,by omega,by omega⟩,if_pos rfl,Int.toNat_natCast,Int.toNat_natCast]
theorem zfg {bs:List UInt8} {a n:Nat} {ok:Bool} (hn:1≤n∧n≤8) (h:numK bs a n ok=true):numV bs a n=numT (getV bs a n):=by
 have h1:=zfh hn h
 have h2:=zc3 h
 have h3:=znp hn h1
 rw [h2.2.2.1,h3]
 have h4:=h2.2.2.2.2
 rw [h2.2.2.1,h3] at h4
 simp only at h4 ⊢
 rw [numT,if_neg (by omega)]
theorem zna {bs:List UInt8} {a n:Nat} (hn:1≤n∧n≤8) (hl:a+n≤bs.length) (h:numK bs a n true=false):numT (getV bs a n)=-1:=by
 unfold numK at h
 rw [znp hn hl] at h
 simp only [decide_true,Bool.true_and,decide_eq_false_iff_not] at h
 rw [numT,if_pos (by omega)]
theorem zwN {bs:List UInt8} (n a:Nat):getV bs a n<256 ^ n:=by
 unfold getV
 refine Nat.lt_of_lt_of_le (zjz _) (Nat.pow_le_pow_right (by omega) ?_)
 rw [List.length_take];omega
theorem zfi {bs:List UInt8} {a n:Nat} (hn:1≤n∧n≤7) (hl:a+n≤bs.length):numK bs a n true=true:=by
 unfold numK
 rw [znp (by omega) hl]
 have h1:getV bs a n<256 ^ n:=zwN n a
 have h2:(256:Nat) ^ n≤256 ^ 7:=Nat.pow_le_pow_right (by omega) hn.2
 simp only [decide_true,Bool.true_and,decide_eq_true_eq]
 have:(256:Nat) ^ 7=72057594037927936:=by decide
 omega
theorem ze3 {bs:List UInt8} {a:Nat} (h:a<bs.length):bs.drop a=bs.getD a 0::bs.drop (a+1):=by
 rw [List.drop_eq_getElem_cons h,List.getD_eq_getElem?_getD,List.getElem?_eq_getElem h];rfl
theorem zuD {bs:List UInt8} {a:Nat} (h:a<bs.length):numV bs a 1=((bs.getD a 0).toNat:Int):=by
 rw [zfg (ok:=true) (by omega) (zfi (by omega) (by omega))]
 have e:getV bs a 1=(bs.getD a 0).toNat:=by
  unfold getV
  rw [ze3 h,List.take_succ_cons,List.take_zero]
  show (bs.getD a 0).toNat+256*0=_
  omega
 rw [e,numT,if_neg]
 have:=(bs.getD a 0).toNat_lt
 omega
theorem zgk {bs:List UInt8} {a:Nat} (h:a<bs.length) (hk:a+1+(bs.getD a 0).toNat≤bs.length):zbV bs a true=(Str ((bs.drop (a+1)).take (bs.getD a 0).toNat),a+1+(bs.getD a 0).toNat,true):=by
 unfold zbV
 rw [zuD h,if_pos ⟨zfi (by omega) (by omega),by omega⟩,Int.toNat_natCast]
theorem zop {bs:List UInt8} {a:Nat} (h:¬ (a<bs.length∧a+1+(bs.getD a 0).toNat≤bs.length)):(zbV bs a true).2.2=false:=by
 unfold zbV
 rw [if_neg]
 rintro ⟨h1,h2⟩
 have h3:=zfh (by omega) h1
 rw [zuD (by omega)] at h2
 exact h ⟨by omega,by omega⟩
theorem zdc {bs:List UInt8} (a k n i:Nat):leV ((((bs.drop (a+1)).drop k).drop i).take n)=getV bs (a+1+k+i) n:=by
 unfold getV
 rw [List.drop_drop,List.drop_drop,Nat.add_assoc (a+1)]
theorem zjD {bs:List UInt8} (a k n:Nat):leV (((bs.drop (a+1)).drop k).take n)=getV bs (a+1+k) n:=by
 unfold getV
 rw [List.drop_drop]
theorem zrz {bs:List UInt8} {a:Nat} (h:(zdN bs a true).2.2=true):zi3 (bs.drop a)=some ((zdN bs a true).1,bs.drop (zdN bs a true).2.1):=by
 unfold zdN at h ⊢
 simp only at h ⊢
 have h3:=zc3 h
 have h4:=zfh (by omega) h
 have h5:=zc3 h3.1
 have h6:=zc3 h5.1
 by_cases hc:a<bs.length∧a+1+(bs.getD a 0).toNat≤bs.length
 ·rw [zgk hc.1 hc.2] at h h4 h3 h5 ⊢
  simp only at h h4 h3 h5 ⊢
  rw [ze3 hc.1]
  unfold zi3
  simp only
  rw [if_neg (by rw [List.length_drop];omega),zjD,zdc,zdc,zfg (by omega) h,zfg (by omega) h3.1,zfg (by omega) h5.1,List.drop_drop,List.drop_drop,Nat.add_assoc (a+1) _ 20]
 ·have:=zop hc
  rw [this] at h6
  exact absurd h6.1 (by decide)
theorem zut {bs:List UInt8} {a:Nat} (h:(zdN bs a true).2.2=false):zi3 (bs.drop a)=none∨∃ x r,zi3 (bs.drop a)=some (x,r)∧(x.l1=-1∨x.size=-1):=by
 by_cases ha:a<bs.length
 ·rw [ze3 ha]
  unfold zi3
  simp only
  split
  ·exact .inl rfl
  ·rename_i hlen
   rw [List.length_drop] at hlen
   refine .inr ⟨_,_,rfl,?_⟩
   simp only
   rw [zjD,zdc]
   unfold zdN at h
   simp only at h
   rw [zgk ha (by omega)] at h
   simp only at h
   by_cases h1:numK bs (a+1+(bs.getD a 0).toNat) 8 true=true
   ·rw [h1,zfi (by omega) (by omega)] at h
    exact .inr (zna (by omega) (by omega) h)
   ·rw [Bool.not_eq_true] at h1
    exact .inl (zna (by omega) (by omega) h1)
 ·rw [List.drop_eq_nil_of_le (by omega)]
  exact .inl rfl
def badS (x:Snp):Prop:=x.l1=-1∨x.size=-1
theorem zsH {x:Snp} {bits:Int} (h:badS x):zhU x bits=false:=by
 rw [Bool.eq_false_iff]
 intro hs
 have:=zcn hs
 rcases h with h|h<;>omega
theorem zlQ:∀ (n:Nat) (r:List UInt8) (acc l:List Snp),zgO n r acc=some l→∀ x∈acc,x∈l
 | 0,_,acc,l,h,x,hx=>by injection h with h;exact h ▸ hx
 | n+1,r,acc,l,h,x,hx=>by
  rw [zgO] at h
  split at h
  ·cases h
  ·exact zlQ n _ _ _ h x (List.mem_append_left _ hx)
theorem zod (bs:List UInt8):∀ (n a:Nat) (acc:List Snp),
  ((zcp bs n a true acc).2=true→zgO n (bs.drop a) acc=some (zcp bs n a true acc).1) ∧
  ((zcp bs n a true acc).2=false→∀ l,zgO n (bs.drop a) acc=some l→∃ x∈l,badS x)
 | 0,a,acc=>⟨fun _=>rfl,fun h=>by rw [zcp] at h;cases h⟩
 | n+1,a,acc=>by
  rw [zcp]
  by_cases h:(zdN bs a true).2.2=true
  ·rw [if_pos h,zgO,zrz h]
   exact zod bs n _ _
  ·rw [if_neg h]
   rw [Bool.not_eq_true] at h
   refine⟨fun h'=>absurd h' (by simp),fun _ l hl=>?_⟩
   rw [zgO] at hl
   rcases zut h with hn|⟨x,r,hn,hx⟩
   ·rw [hn] at hl;cases hl
   ·rw [hn] at hl
    exact⟨x,zlQ _ _ _ _ hl x (by simp),hx⟩
theorem zwK {bits:Int} {l:List Snp} {bs:List UInt8} (h:∃ x∈l,badS x):okB (zb4 bits l) bs=false:=by
 obtain ⟨x,hx,hb⟩:=h
 cases hp:zb4 bits l with
 | error n=>rfl
 | ok out =>
  have:=zdl (zig hp).1 x hx
  rw [zsH hb] at this
  cases this
theorem zm4 (bits:Int) (bs:List UInt8) (n:Int):zkt bits bs n=zaQ bits bs n:=by
 have h:=zod bs n.toNat 0 []
 rw [List.drop_zero] at h
 unfold zkt zaQ
 by_cases hk:(zcp bs n.toNat 0 true []).2=true
 ·rw [h.1 hk]
  simp only [hk,true_and]
 ·rw [Bool.not_eq_true] at hk
  rw [hk]
  simp only [Bool.false_eq_true,false_and,if_false]
  split
  ·rfl
  ·rename_i l hl
   rw [zwK (h.2 hk l hl)];rfl
end Go.Proofs.YtlmgelmloddfgaaGreat
namespace Go.Proofs.YtlmgelmloddfgaaGreat
open Go Go.RowKit Eng
theorem zvw {cx:Cx} {g:Prop} {m:Mem} {s:Sem Value} {v:Value} (h:¬ g):RdG cx g m s v:=fun hg=>absurd hg h
theorem zoh {D:Option Addr} {c k:Nat} (h:Pl D):Pl (cutA D c k 1):=by
 obtain ⟨b,o,rfl⟩:=h
 unfold cutA
 split
 ·exact⟨_,_,rfl⟩
 ·exact⟨_,_,rfl⟩
theorem zjM (w:World) (D:Option Addr):BytsIn w D []:=fun h=>absurd h (by simp [zah])
theorem zcI {w:World} {D:Option Addr} {r:List UInt8} (h:BytsIn w D r) {dc:Nat} (hc:r.length≤dc) (k:Nat) (hk:k≤r.length):BytsIn w (cutA D dc k 1) (r.drop k):=by
 have:=BytsIn.sub h dc k (r.length-k) (by omega) hc
 rwa [List.take_of_length_le (by rw [List.length_drop];omega)] at this
theorem zuu {r:List UInt8} (h:¬ r.length<1+(r.getD 0 0).toNat+20):zi3 r=some (⟨Str ((r.drop 1).take (r.getD 0 0).toNat),numT (leV (((r.drop 1).drop (r.getD 0 0).toNat).take 8)),numT (leV ((((r.drop 1).drop (r.getD 0 0).toNat).drop 8).take 4)),numT (leV ((((r.drop 1).drop (r.getD 0 0).toNat).drop 12).take 8))⟩,((r.drop 1).drop (r.getD 0 0).toNat).drop 20):=by
 rcases r with _|⟨k0,r'⟩
 ·exact absurd (by simp) h
 ·simp only [List.length_cons,List.getD_cons_zero] at h
  unfold zi3
  simp only
  rw [if_neg (by omega)];rfl
def zvQ (R:Option (List Snp)) (e:Ending) (m':Mem):Prop:=(R=none∧e=.returned (.tuple #[.slice none 0 0,.bool false])∧m'=[]) ∨
  ∃ l lA lc,R=some l∧e=.returned (.tuple #[.slice lA l.length lc,.bool true])∧m'=[.row lA lc l.length 175 4 (l.flatMap Snp.cells)]
attribute [local irreducible] Br Rn RnU Cl RdG CpG Ld Rd Lp Dr Oth Cut fin Fits Eng.Enters Md NA
theorem zlK:Eng.Enters Tryz.prog 116:=zab fun _ _=>by kernel_rfl
theorem zh4 (bs:List UInt8) (A:Option Addr) (c n:Nat) (w:World) (hb:BytsIn w A bs) (hn:bs.length=n) (hl:n≤8) :
  Calls Tryz.prog 158 #[.slice A n c] w fun e w'=>e=.returned (.int .i64 (numT (leV bs)))∧Fr (fun _=>False) w w':=by
 subst hn
 exact zrl bs A c w hb hl
set_option maxHeartbeats 2000000 in
theorem zrj (A:Option Addr) (c:Nat) (bs:List UInt8) (bits n:Int) (w:World) (hb:BytsIn w A bs) (hl:bs.length≤20000000) (hc:bs.length≤c) (hbits:9≤bits∧bits≤16) (hn:0≤n∧n≤64) :
  Ctr Tryz.prog 116 [.int .i64 bits,.slice A bs.length c,.int .i64 n] [] (zvQ (zaQ bits bs n)) w:=by
 refine enter (cx:=CXS 82 [] w (Foot [])) [(0,.int .i64 bits),(1,.slice A bs.length c),(2,.int .i64 n)] zaa Tryz.func116 rfl rfl rfl rfl (MemOk.nil w _) ?_
 rw [← zm4]
 unfold zkt
 generalize hT:zgO n.toNat bs []=T
 refine gGw ?_
 refine lp zaa (γ:=Nat × List UInt8 × Option Addr × Nat × List Snp × Option Addr × Nat) (fun g=>g.1≤n.toNat∧BytsIn w g.2.2.1 g.2.1∧g.2.1.length≤g.2.2.2.1∧g.2.1.length≤20000000∧g.2.2.2.2.1.length=g.1∧zgO (n.toNat-g.1) g.2.1 g.2.2.2.2.1=T∧∀ x∈g.2.2.2.2.1,x.name.size≤255)
  (fun g=>[(10,.int .i64 (g.1:Int)),(9,.slice g.2.2.1 g.2.1.length g.2.2.2.1),(8,.slice g.2.2.2.2.2.1 g.2.2.2.2.1.length g.2.2.2.2.2.2),(0,.int .i64 bits),(1,.slice A bs.length c),(2,.int .i64 n)])
  (fun g=>[.row g.2.2.2.2.2.1 g.2.2.2.2.2.2 g.2.2.2.2.1.length 175 4 (g.2.2.2.2.1.flatMap Snp.cells)]) (fun g=>n.toNat-g.1) (0,bs,A,c,[],none,0) ⟨Nat.zero_le _,hb,hc,hl,rfl,hT,fun x hx=>by cases hx⟩ ⟨rfl,rfl,rfl,rfl,rfl,rfl,trivial⟩ (SubM.row0 SubM.sl _ _) ?_
 clear hT
 rintro ⟨i,r,D,dc,l,lA,lc⟩ ⟨hi,hD,hdc,hr,hli,hT,hnm⟩
 simp only at hi hD hdc hr hli hT hnm
 dsimp only
 conv=>whnf
 refine br_d (fun hlt=>?_) (fun hge=>?_)
 ·obtain ⟨f,hf⟩:∃ f,n.toNat-i=f+1:=⟨n.toNat-i-1,by omega⟩
  rw [hf,zgO] at hT
  have hk0:=(r.getD 0 0).toNat_lt
  have hDb:=fun m=>BytsIn.byts (cx:=CXS 82 [] w (Foot [])) (m:=m) hD zao
  refine gGw ?_
  refine And.intro (fun hg=>⟨by omega,by rw [decide_eq_false_iff_not] at hg;omega,(hDb []).plain (by rw [decide_eq_false_iff_not] at hg;omega)⟩) ?_
  refine gGw ?_
  refine⟨_,ldg (fun hg=>(hDb _).ld zaa rfl rfl (j:=0) (by simp only [decide_eq_false_iff_not] at hg;omega)),?_⟩
  refine gGw ?_
  refine And.intro (fun _=>zaf (by omega)) ?_
  refine gGw ?_
  refine And.intro (fun _=>zaf (by omega)) ?_
  refine gGw ?_
  refine And.intro (fun _=>zaf (by omega)) ?_
  refine gGw ?_
  by_cases hlong:r.length<1+(r.getD 0 0).toNat+20
  ·have hno:zi3 r=none:=by
    rcases r with _|⟨k0,r'⟩
    ·rfl
    ·unfold zi3
     simp only [List.length_cons,List.getD_cons_zero] at hlong
     simp only
     rw [if_pos (by omega)]
   rw [hno] at hT
   subst hT
   refine br_t (by simp only [Bool.or_eq_true,decide_eq_true_eq];omega) ?_
   refine gGw ?_
   exact fin2 rfl rfl rfl (fun w' hm=>⟨_,.inl ⟨rfl,rfl,rfl⟩,hm.sublist (List.nil_sublist _)⟩)
  refine br_f (by simp only [Bool.or_eq_false_iff,decide_eq_false_iff_not];omega) ?_
  have hPl:Pl D:=(hDb []).plain (by omega)
  refine gGw ?_
  refine And.intro ⟨by omega,by omega,hPl⟩ ?_
  conv=>whnf
  refine zaj ((hDb _).ld zaa rfl rfl (j:=0) (by omega)) ?_
  refine gGw ?_
  refine And.intro ⟨by omega,by omega,by omega,.inr hPl⟩ ?_
  refine gGw ?_
  have hs1:=zuu hlong
  rw [hs1] at hT
  simp only at hT
  have hD1:BytsIn w (cutA D dc 1 1) (r.drop 1):=zcI hD hdc 1 (by omega)
  have hPl1:Pl (cutA D dc 1 1):=zoh hPl
  have hl1:(r.drop 1).length=r.length-1:=List.length_drop
  generalize (r.getD 0 0).toNat=kk at hT hlong hk0 ⊢
  refine⟨zgd,zae _ (fun w' _=>zjp (r.length-1) (dc-1) kk (cutA D dc 1 1) w' (.inr hPl1) (by omega) (by omega)) ?_⟩
  generalize hr1:r.drop 1=r1 at hT hD1 hl1
  generalize cutA D dc 1 1=D1 at hD1 hPl1 ⊢
  have hDn:BytsIn w D1 (r1.take kk):=by
   have:=BytsIn.sub hD1 (dc-1) 0 kk (by omega) (by omega)
   rw [List.drop_zero] at this
   rcases Nat.eq_zero_or_pos kk with h0|h0
   ·subst h0;rw [List.take_zero];exact zjM _ _
   ·have e:cutA D1 (dc-1) 0 1=D1:=by
     unfold cutA
     rw [if_neg (by omega)]
     obtain ⟨b,o,rfl⟩:=hPl1;rfl
    rwa [e] at this
  have hD2:BytsIn w (cutA D1 (dc-1) kk 1) (r1.drop kk):=zcI hD1 (by omega) kk (by omega)
  have hPl2:Pl (cutA D1 (dc-1) kk 1):=zoh hPl1
  generalize hr2:r1.drop kk=r2 at hT hD2
  have hl2:r2.length=r.length-1-kk:=by rw [← hr2,List.length_drop];omega
  have hc2:r.length-1-kk≤dc-1-kk:=by omega
  rw [← hl2] at hc2 ⊢
  generalize dc-1-kk=dc2 at hc2 ⊢
  generalize cutA D1 (dc-1) kk 1=D2 at hD2 hPl2 ⊢
  have hs8:=fun lo n h=>BytsIn.sub hD2 dc2 lo n h hc2
  have hl20:20≤r2.length:=by omega
  have hln:(r1.take kk).length=kk:=by rw [List.length_take];omega
  refine gGw ?_
  refine zcd (γ:=Option Addr × Nat) (Tr.hs [0,1,2,3,4,6,7,9,10] (.sq [5,8,11] (.hs [12] (.sq [13,14] (.hs [15] .done))))) [] zaa mixed (by kernel_rfl) rfl (fun _=>True)
   (fun g=>[(10,.int .i64 (i:Int)),(13,.slice D2 r2.length dc2),(8,.slice g.1 (l.length+1) g.2),(0,.int .i64 bits),(1,.slice A bs.length c),(2,.int .i64 n)])
   (fun g=>[.row g.1 g.2 (l.length+1) 175 4 (l.flatMap Snp.cells++Snp.cells ⟨Str (r1.take kk),numT (leV (r2.take 8)),numT (leV ((r2.drop 8).take 4)),numT (leV ((r2.drop 12).take 8))⟩)]) SubM.sl ?_ ?_
  ·refine gGw ?_
   refine⟨.string (Str (r1.take kk)),?_,?_⟩
   ·have h9:=zcB (cx:=CXS 82 [] w (Foot [])) (m:=[]) (s:=22) (d:=9) (bs:=r1.take kk) zaa rfl rfl rfl rfl rfl rfl (BytsIn.byts hDn zao) (dc-1)
    rw [hln] at h9
    exact Rd.g h9
   refine gGw ?_
   refine And.intro ⟨by omega,by omega,by omega,.inr hPl2⟩ ?_
   refine gGw ?_
   refine And.intro ⟨by omega,by omega,by omega,.inr hPl2⟩ ?_
   refine gGw ?_
   refine And.intro ⟨by omega,by omega,by omega,.inr hPl2⟩ ?_
   refine gGw ?_
   refine⟨zcP,zae _ (fun w' hm'=>zh4 (r2.take 8) _ dc2 8 w' ((BytsIn.byts (cx:=CXS 82 [] w (Foot [])) (hs8 0 8 (by omega)) zao).in_ hm') (by rw [List.length_take];omega) (by omega)) ?_⟩
   conv=>whnf
   refine gGs ?_
   refine gGw ?_
   refine⟨zcP,zae _ (fun w' hm'=>zh4 ((r2.drop 8).take 4) _ (dc2-8) 4 w' ((BytsIn.byts (cx:=CXS 82 [] w (Foot [])) (hs8 8 4 (by omega)) zao).in_ hm') (by rw [List.length_take,List.length_drop];omega) (by omega)) ?_⟩
   conv=>whnf
   refine gGs ?_
   refine gGw ?_
   refine⟨zcP,zae _ (fun w' hm'=>zh4 ((r2.drop 12).take 8) _ (dc2-12) 8 w' ((BytsIn.byts (cx:=CXS 82 [] w (Foot [])) (hs8 12 8 (by omega)) zao).in_ hm') (by rw [List.length_take,List.length_drop];omega) (by omega)) ?_⟩
   conv=>whnf
   refine gGs ?_
   refine gGw ?_;(repeat ((first|refine .mk fun Ap capp=>?_|intro _);(conv=>whnf);refine gG0 ?_))
   exact⟨(Ap,capp),trivial,⟨rfl,rfl,rfl,rfl,rfl,rfl,trivial⟩,SubM.sl⟩
  ·rintro ⟨lA2,lc2⟩ _
   have hx:(Snp.mk (Str (r1.take kk)) (numT (leV (r2.take 8))) (numT (leV ((r2.drop 8).take 4))) (numT (leV ((r2.drop 12).take 8)))).name.size≤255:=by show (Str (r1.take kk)).size≤255;rw [Str.size];omega
   generalize Snp.mk (Str (r1.take kk)) (numT (leV (r2.take 8))) (numT (leV ((r2.drop 8).take 4))) (numT (leV ((r2.drop 12).take 8)))=x at hT hx ⊢
   simp only
   refine gGw ?_
   refine And.intro ⟨by omega,by omega,by omega,.inr hPl2⟩ ?_
   refine gGw ?_
   have hD3:BytsIn w (cutA D2 dc2 20 1) (r2.drop 20):=zcI hD2 hc2 20 hl20
   have hl3:(r2.drop 20).length=r2.length-20:=List.length_drop
   have el:(l++[x]).flatMap Snp.cells=l.flatMap Snp.cells++x.cells:=by rw [List.flatMap_append];simp
   have ll:(l++[x]).length=l.length+1:=by simp
   refine⟨(i+1,r2.drop 20,cutA D2 dc2 20 1,dc2-20,l++[x],lA2,lc2),⟨by show i+1≤n.toNat;omega,hD3,by show (r2.drop 20).length≤dc2-20;omega,by show (r2.drop 20).length≤20000000;omega,by show (l++[x]).length=i+1;omega,?_,?_⟩,by show n.toNat-(i+1)<n.toNat-i;omega,⟨rfl,?_,?_,rfl,rfl,rfl,trivial⟩,?_⟩
   ·show zgO (n.toNat-(i+1)) (r2.drop 20) (l++[x])=T
    rw [show n.toNat-(i+1)=f by omega];exact hT
   ·show ∀ y∈l++[x],y.name.size≤255
    intro y hy
    rcases List.mem_append.1 hy with hy|hy
    ·exact hnm y hy
    ·rw [List.mem_singleton] at hy;subst hy;exact hx
   ·show some _=some (Value.slice (cutA D2 dc2 20 1) (r2.drop 20).length (dc2-20))
    rw [hl3];rfl
   ·show some _=some (Value.slice lA2 (l++[x]).length lc2)
    rw [ll]
   ·show SubM _ _ [.row lA2 lc2 (l++[x]).length 175 4 ((l++[x]).flatMap Snp.cells)]
    rw [el,ll]
    exact SubM.sl
 ·obtain rfl:i=n.toNat:=by omega
  rw [Nat.sub_self,zgO] at hT
  subst hT
  refine gGw ?_
  have hrow:=fun (w':World) (hm':MemOk w (Foot []) [.row lA lc l.length 175 4 (l.flatMap Snp.cells)] w')=>RowIn.of_row (L:=l) (f:=Snp.cells) (k:=4) (fun _=>rfl) (by omega) (hm'.ok _ (List.mem_cons_self ..))
  refine⟨zi1,zac (m1:=[]) .nil (fun w' hm'=>zmW bits l lA lc w' hbits (by omega) (hrow w' (hm'.sel (by repeat constructor))) hnm) ?_⟩
  rintro e m' (⟨no,hno,hno0,rfl,rfl⟩|⟨out,oA,oc,hno,rfl,rfl⟩)
  ·have hz:okB (zb4 bits l) bs=false:=by rw [hno];rfl
   refine gGw ?_
   refine⟨.string (Str []),zvw (by rw [decide_eq_false hno0];decide),?_⟩
   refine gGw ?_
   refine⟨.string (Str bs),Rd.g (zcB zaa rfl rfl rfl rfl rfl rfl (BytsIn.byts hb zao) _),?_⟩
   refine gGw ?_
   refine br_t (by rw [decide_eq_false hno0];rfl) ?_
   refine gGw ?_
   exact fin2 rfl rfl rfl (fun w' hm=>⟨_,.inl ⟨if_neg (by rw [hz];decide),rfl,rfl⟩,hm.sublist (List.nil_sublist _)⟩)
  ·have hz:okB (zb4 bits l) bs=decide (out=bs):=by rw [hno];rfl
   refine gGw ?_
   refine⟨.string (Str out),Rd.g (zie (bs:=out) (t:=5) zaa rfl rfl rfl rfl rfl rfl .here rfl),?_⟩
   refine gGw ?_
   refine⟨.string (Str bs),Rd.g (zcB zaa rfl rfl rfl rfl rfl rfl (BytsIn.byts hb zao) _),?_⟩
   refine gGw ?_
   by_cases he:out=bs
   ·subst he
    refine br_f (by rw [decide_eq_true (rfl:Str out=Str out)];rfl) ?_
    refine gGw ?_
    exact fin2 rfl rfl rfl (fun w' hm=>⟨_,.inr ⟨l,lA,lc,if_pos (by rw [hz];exact decide_eq_true rfl),rfl,rfl⟩,hm.sl⟩)
   ·refine br_t (by rw [decide_eq_false (fun h=>he (Str.inj.1 h))];rfl) ?_
    refine gGw ?_
    exact fin2 rfl rfl rfl (fun w' hm=>⟨_,.inl ⟨if_neg (by rw [hz];simpa using he),rfl,rfl⟩,hm.sublist (List.nil_sublist _)⟩)
end Go.Proofs.YtlmgelmloddfgaaGreat
namespace Go.Proofs.YtlmgelmloddfgaaGreat
open Go Go.RowKit Eng
def zi4:List UInt8→Option (Rwp × List UInt8)
 | []=>none
 | k::r=>if r.length<k.toNat+14 then none else some (⟨Str (r.take k.toNat),(((r.drop k.toNat).getD 0 0).toNat:Nat),(((r.drop k.toNat).getD 1 0).toNat:Nat),numT (leV (((r.drop k.toNat).drop 2).take 8)),numT (leV (((r.drop k.toNat).drop 10).take 4))⟩,(r.drop k.toNat).drop 14)
def zgP:Nat→List UInt8→List Rwp→Option (List Rwp)
 | 0,_,acc=>some acc
 | n+1,rest,acc=>match zi4 rest with
  | none=>none
  | some (x,r)=>zgP n r (acc++[x])
def zku (bits:Int) (bs:List UInt8) (n:Int):Option (List Rwp):=match zgP n.toNat bs [] with
 | none=>none
 | some l=>if okB (zb5 bits l) bs=true then some l else none
theorem zjE {bs:List UInt8} (a k i:Nat):((bs.drop (a+1)).drop k).getD i 0=bs.getD (a+1+k+i) 0:=by
 rw [List.drop_drop,List.getD_eq_getElem?_getD,List.getD_eq_getElem?_getD,List.getElem?_drop]
theorem zrA {bs:List UInt8} {a:Nat} (h:(zdO bs a true).2.2=true):zi4 (bs.drop a)=some ((zdO bs a true).1,bs.drop (zdO bs a true).2.1):=by
 unfold zdO at h ⊢
 simp only at h ⊢
 have h3:=zc3 h
 have h4:=zfh (by omega) h
 have h5:=zc3 h3.1
 have h6:=zc3 h5.1
 have h7:=zc3 h6.1
 by_cases hc:a<bs.length∧a+1+(bs.getD a 0).toNat≤bs.length
 ·rw [zgk hc.1 hc.2] at h h4 h3 h5 ⊢
  simp only at h h4 h3 h5 ⊢
  rw [ze3 hc.1]
  unfold zi4
  simp only
  rw [if_neg (by rw [List.length_drop];omega),zjE,zjE,zdc,zdc,zfg (by omega) h,zfg (by omega) h3.1,zuD (by omega),zuD (by omega),List.drop_drop,List.drop_drop,Nat.add_assoc (a+1) _ 14]
  rfl
 ·have:=zop hc
  rw [this] at h7
  exact absurd h7.1 (by decide)
theorem zuv {bs:List UInt8} {a:Nat} (h:(zdO bs a true).2.2=false):zi4 (bs.drop a)=none∨∃ x r,zi4 (bs.drop a)=some (x,r)∧x.at_=-1:=by
 by_cases ha:a<bs.length
 ·rw [ze3 ha]
  unfold zi4
  simp only
  split
  ·exact .inl rfl
  ·rename_i hlen
   rw [List.length_drop] at hlen
   refine .inr ⟨_,_,rfl,?_⟩
   simp only
   rw [zdc]
   unfold zdO at h
   simp only at h
   rw [zgk ha (by omega)] at h
   simp only at h
   rw [zfi (bs:=bs) (a:=a+1+(bs.getD a 0).toNat) (n:=1) (by omega) (by omega),zfi (bs:=bs) (a:=a+1+(bs.getD a 0).toNat+1) (n:=1) (by omega) (by omega)] at h
   by_cases h1:numK bs (a+1+(bs.getD a 0).toNat+2) 8 true=true
   ·rw [h1,zfi (by omega) (by omega)] at h
    cases h
   ·rw [Bool.not_eq_true] at h1
    exact zna (by omega) (by omega) h1
 ·rw [List.drop_eq_nil_of_le (by omega)]
  exact .inl rfl
def badR (x:Rwp):Prop:=x.at_=-1
theorem zsI {x:Rwp} {bits:Int} (h:badR x):rowB x bits=false:=by
 rw [Bool.eq_false_iff]
 intro hs
 have:=zc1 hs
 unfold badR at h
 omega
theorem zlR:∀ (n:Nat) (r:List UInt8) (acc l:List Rwp),zgP n r acc=some l→∀ x∈acc,x∈l
 | 0,_,acc,l,h,x,hx=>by injection h with h;exact h ▸ hx
 | n+1,r,acc,l,h,x,hx=>by
  rw [zgP] at h
  split at h
  ·cases h
  ·exact zlR n _ _ _ h x (List.mem_append_left _ hx)
theorem zoe (bs:List UInt8):∀ (n a:Nat) (acc:List Rwp),
  ((zcq bs n a true acc).2=true→zgP n (bs.drop a) acc=some (zcq bs n a true acc).1) ∧
  ((zcq bs n a true acc).2=false→∀ l,zgP n (bs.drop a) acc=some l→∃ x∈l,badR x)
 | 0,a,acc=>⟨fun _=>rfl,fun h=>by rw [zcq] at h;cases h⟩
 | n+1,a,acc=>by
  rw [zcq]
  by_cases h:(zdO bs a true).2.2=true
  ·rw [if_pos h,zgP,zrA h]
   exact zoe bs n _ _
  ·rw [if_neg h]
   rw [Bool.not_eq_true] at h
   refine⟨fun h'=>absurd h' (by simp),fun _ l hl=>?_⟩
   rw [zgP] at hl
   rcases zuv h with hn|⟨x,r,hn,hx⟩
   ·rw [hn] at hl;cases hl
   ·rw [hn] at hl
    exact⟨x,zlR _ _ _ _ hl x (by simp),hx⟩
theorem zuC {bits:Int} {l:List Rwp} {bs:List UInt8} (h:∃ x∈l,badR x):okB (zb5 bits l) bs=false:=by
 obtain ⟨x,hx,hb⟩:=h
 cases hp:zb5 bits l with
 | error n=>rfl
 | ok out =>
  have:=zdm (zih hp).1 x hx
  rw [zsI hb] at this
  cases this
theorem zm5 (bits:Int) (bs:List UInt8) (n:Int):zku bits bs n=za3 bits bs n:=by
 have h:=zoe bs n.toNat 0 []
 rw [List.drop_zero] at h
 unfold zku za3
 by_cases hk:(zcq bs n.toNat 0 true []).2=true
 ·rw [h.1 hk]
  simp only [hk,true_and]
 ·rw [Bool.not_eq_true] at hk
  rw [hk]
  simp only [Bool.false_eq_true,false_and,if_false]
  split
  ·rfl
  ·rename_i l hl
   rw [zuC (h.2 hk l hl)];rfl
end Go.Proofs.YtlmgelmloddfgaaGreat
namespace Go.Proofs.YtlmgelmloddfgaaGreat
open Go Go.RowKit Eng
theorem zuw {r:List UInt8} (h:¬ r.length<1+(r.getD 0 0).toNat+14):zi4 r=some (⟨Str ((r.drop 1).take (r.getD 0 0).toNat),((((r.drop 1).drop (r.getD 0 0).toNat).getD 0 0).toNat:Nat),((((r.drop 1).drop (r.getD 0 0).toNat).getD 1 0).toNat:Nat),numT (leV ((((r.drop 1).drop (r.getD 0 0).toNat).drop 2).take 8)),numT (leV ((((r.drop 1).drop (r.getD 0 0).toNat).drop 10).take 4))⟩,((r.drop 1).drop (r.getD 0 0).toNat).drop 14):=by
 rcases r with _|⟨k0,r'⟩
 ·exact absurd (by simp) h
 ·simp only [List.length_cons,List.getD_cons_zero] at h
  unfold zi4
  simp only
  rw [if_neg (by omega)];rfl
def zvR (R:Option (List Rwp)) (e:Ending) (m':Mem):Prop:=(R=none∧e=.returned (.tuple #[.slice none 0 0,.bool false])∧m'=[]) ∨
  ∃ l lA lc,R=some l∧e=.returned (.tuple #[.slice lA l.length lc,.bool true])∧m'=[.row lA lc l.length 180 5 (l.flatMap Rwp.cells)]
attribute [local irreducible] Br Rn RnU Cl RdG CpG Ld Rd Lp Dr Oth Cut fin Fits Eng.Enters Md NA
theorem zlL:Eng.Enters Tryz.prog 118:=zab fun _ _=>by kernel_rfl
set_option maxHeartbeats 2000000 in
theorem zrk (A:Option Addr) (c:Nat) (bs:List UInt8) (bits n:Int) (w:World) (hb:BytsIn w A bs) (hl:bs.length≤20000000) (hc:bs.length≤c) (hbits:9≤bits∧bits≤16) (hn:0≤n∧n≤64) :
  Ctr Tryz.prog 118 [.int .i64 bits,.slice A bs.length c,.int .i64 n] [] (zvR (za3 bits bs n)) w:=by
 refine enter (cx:=CXS 87 [] w (Foot [])) [(0,.int .i64 bits),(1,.slice A bs.length c),(2,.int .i64 n)] zaa Tryz.func118 rfl rfl rfl rfl (MemOk.nil w _) ?_
 rw [← zm5]
 unfold zku
 generalize hT:zgP n.toNat bs []=T
 refine gGw ?_
 refine lp zaa (γ:=Nat × List UInt8 × Option Addr × Nat × List Rwp × Option Addr × Nat) (fun g=>g.1≤n.toNat∧BytsIn w g.2.2.1 g.2.1∧g.2.1.length≤g.2.2.2.1∧g.2.1.length≤20000000∧g.2.2.2.2.1.length=g.1∧zgP (n.toNat-g.1) g.2.1 g.2.2.2.2.1=T∧∀ x∈g.2.2.2.2.1,x.name.size≤255)
  (fun g=>[(10,.int .i64 (g.1:Int)),(9,.slice g.2.2.1 g.2.1.length g.2.2.2.1),(8,.slice g.2.2.2.2.2.1 g.2.2.2.2.1.length g.2.2.2.2.2.2),(0,.int .i64 bits),(1,.slice A bs.length c),(2,.int .i64 n)])
  (fun g=>[.row g.2.2.2.2.2.1 g.2.2.2.2.2.2 g.2.2.2.2.1.length 180 5 (g.2.2.2.2.1.flatMap Rwp.cells)]) (fun g=>n.toNat-g.1) (0,bs,A,c,[],none,0) ⟨Nat.zero_le _,hb,hc,hl,rfl,hT,fun x hx=>by cases hx⟩ ⟨rfl,rfl,rfl,rfl,rfl,rfl,trivial⟩ (SubM.row0 SubM.sl _ _) ?_
 clear hT
 rintro ⟨i,r,D,dc,l,lA,lc⟩ ⟨hi,hD,hdc,hr,hli,hT,hnm⟩
 simp only at hi hD hdc hr hli hT hnm
 dsimp only
 conv=>whnf
 refine br_d (fun hlt=>?_) (fun hge=>?_)
 ·obtain ⟨f,hf⟩:∃ f,n.toNat-i=f+1:=⟨n.toNat-i-1,by omega⟩
  rw [hf,zgP] at hT
  have hk0:=(r.getD 0 0).toNat_lt
  have hDb:=fun m=>BytsIn.byts (cx:=CXS 87 [] w (Foot [])) (m:=m) hD zao
  refine gGw ?_
  refine And.intro (fun hg=>⟨by omega,by rw [decide_eq_false_iff_not] at hg;omega,(hDb []).plain (by rw [decide_eq_false_iff_not] at hg;omega)⟩) ?_
  refine gGw ?_
  refine⟨_,ldg (fun hg=>(hDb _).ld zaa rfl rfl (j:=0) (by simp only [decide_eq_false_iff_not] at hg;omega)),?_⟩
  refine gGw ?_
  refine And.intro (fun _=>zaf (by omega)) ?_
  refine gGw ?_
  refine And.intro (fun _=>zaf (by omega)) ?_
  refine gGw ?_
  refine And.intro (fun _=>zaf (by omega)) ?_
  refine gGw ?_
  by_cases hlong:r.length<1+(r.getD 0 0).toNat+14
  ·have hno:zi4 r=none:=by
    rcases r with _|⟨k0,r'⟩
    ·rfl
    ·unfold zi4
     simp only [List.length_cons,List.getD_cons_zero] at hlong
     simp only
     rw [if_pos (by omega)]
   rw [hno] at hT
   subst hT
   refine br_t (by simp only [Bool.or_eq_true,decide_eq_true_eq];omega) ?_
   refine gGw ?_
   exact fin2 rfl rfl rfl (fun w' hm=>⟨_,.inl ⟨rfl,rfl,rfl⟩,hm.sublist (List.nil_sublist _)⟩)
  refine br_f (by simp only [Bool.or_eq_false_iff,decide_eq_false_iff_not];omega) ?_
  have hPl:Pl D:=(hDb []).plain (by omega)
  refine gGw ?_
  refine And.intro ⟨by omega,by omega,hPl⟩ ?_
  conv=>whnf
  refine zaj ((hDb _).ld zaa rfl rfl (j:=0) (by omega)) ?_
  refine gGw ?_
  refine And.intro ⟨by omega,by omega,by omega,.inr hPl⟩ ?_
  refine gGw ?_
  have hs1:=zuw hlong
  rw [hs1] at hT
  simp only at hT
  have hD1:BytsIn w (cutA D dc 1 1) (r.drop 1):=zcI hD hdc 1 (by omega)
  have hPl1:Pl (cutA D dc 1 1):=zoh hPl
  have hl1:(r.drop 1).length=r.length-1:=List.length_drop
  generalize (r.getD 0 0).toNat=kk at hT hlong hk0 ⊢
  refine⟨zgd,zae _ (fun w' _=>zjp (r.length-1) (dc-1) kk (cutA D dc 1 1) w' (.inr hPl1) (by omega) (by omega)) ?_⟩
  generalize hr1:r.drop 1=r1 at hT hD1 hl1
  generalize cutA D dc 1 1=D1 at hD1 hPl1 ⊢
  have hDn:BytsIn w D1 (r1.take kk):=by
   have:=BytsIn.sub hD1 (dc-1) 0 kk (by omega) (by omega)
   rw [List.drop_zero] at this
   rcases Nat.eq_zero_or_pos kk with h0|h0
   ·subst h0;rw [List.take_zero];exact zjM _ _
   ·have e:cutA D1 (dc-1) 0 1=D1:=by
     unfold cutA
     rw [if_neg (by omega)]
     obtain ⟨b,o,rfl⟩:=hPl1;rfl
    rwa [e] at this
  have hD2:BytsIn w (cutA D1 (dc-1) kk 1) (r1.drop kk):=zcI hD1 (by omega) kk (by omega)
  have hPl2:Pl (cutA D1 (dc-1) kk 1):=zoh hPl1
  generalize hr2:r1.drop kk=r2 at hT hD2
  have hl2:r2.length=r.length-1-kk:=by rw [← hr2,List.length_drop];omega
  have hc2:r.length-1-kk≤dc-1-kk:=by omega
  rw [← hl2] at hc2 ⊢
  generalize dc-1-kk=dc2 at hc2 ⊢
  generalize cutA D1 (dc-1) kk 1=D2 at hD2 hPl2 ⊢
  have hs8:=fun lo n h=>BytsIn.sub hD2 dc2 lo n h hc2
  have hl14:14≤r2.length:=by omega
  have hln:(r1.take kk).length=kk:=by rw [List.length_take];omega
  refine gGw ?_
  have hD2b:=fun m=>BytsIn.byts (cx:=CXS 87 [] w (Foot [])) (m:=m) hD2 zao
  refine zcd (γ:=Option Addr × Nat) (Tr.hs [0,1,2,3,4,5,6,7,8,9,10,11,12,14,15] (.sq [13,16] (.hs [17] (.sq [18,19] (.hs [20] .done))))) [] zaa mixed (by kernel_rfl) rfl (fun _=>True)
   (fun g=>[(10,.int .i64 (i:Int)),(13,.slice D2 r2.length dc2),(8,.slice g.1 (l.length+1) g.2),(0,.int .i64 bits),(1,.slice A bs.length c),(2,.int .i64 n)])
   (fun g=>[.row g.1 g.2 (l.length+1) 180 5 (l.flatMap Rwp.cells++Rwp.cells ⟨Str (r1.take kk),((r2.getD 0 0).toNat:Nat),((r2.getD 1 0).toNat:Nat),numT (leV ((r2.drop 2).take 8)),numT (leV ((r2.drop 10).take 4))⟩)]) SubM.sl ?_ ?_
  ·have hu0:=(r2.getD 0 0).toNat_lt
   have hu1:=(r2.getD 1 0).toNat_lt
   refine gGw ?_
   refine⟨.string (Str (r1.take kk)),?_,?_⟩
   ·have h9:=zcB (cx:=CXS 87 [] w (Foot [])) (m:=[]) (s:=22) (d:=9) (bs:=r1.take kk) zaa rfl rfl rfl rfl rfl rfl (BytsIn.byts hDn zao) (dc-1)
    rw [hln] at h9
    exact Rd.g h9
   refine gGw ?_
   refine And.intro ⟨by omega,by omega,hPl2⟩ ?_
   refine gGw ?_
   refine⟨_,Ld.g ((hD2b _).ld zaa rfl rfl (j:=0) (by omega)),?_⟩
   refine gGw ?_
   refine And.intro ⟨by omega,by omega,hPl2⟩ ?_
   refine gGw ?_
   refine⟨_,Ld.g ((hD2b _).ld zaa rfl rfl (j:=1) (by omega)),?_⟩
   refine gGw ?_
   refine And.intro ⟨by omega,by omega,by omega,.inr hPl2⟩ ?_
   refine gGw ?_
   refine And.intro ⟨by omega,by omega,by omega,.inr hPl2⟩ ?_
   refine gGw ?_
   refine⟨zcP,zae _ (fun w' hm'=>zh4 ((r2.drop 2).take 8) _ (dc2-2) 8 w' ((BytsIn.byts (cx:=CXS 87 [] w (Foot [])) (hs8 2 8 (by omega)) zao).in_ hm') (by rw [List.length_take,List.length_drop];omega) (by omega)) ?_⟩
   conv=>whnf
   refine gGs ?_
   refine gGw ?_
   refine⟨zcP,zae _ (fun w' hm'=>zh4 ((r2.drop 10).take 4) _ (dc2-10) 4 w' ((BytsIn.byts (cx:=CXS 87 [] w (Foot [])) (hs8 10 4 (by omega)) zao).in_ hm') (by rw [List.length_take,List.length_drop];omega) (by omega)) ?_⟩
   conv=>whnf
   refine gGs ?_
   refine gGw ?_;(repeat ((first|refine .mk fun Ap capp=>?_|intro _);(conv=>whnf);refine gG0 ?_))
   exact⟨(Ap,capp),trivial,⟨rfl,rfl,rfl,rfl,rfl,rfl,trivial⟩,SubM.sl⟩
  ·rintro ⟨lA2,lc2⟩ _
   have hx:(Rwp.mk (Str (r1.take kk)) ((r2.getD 0 0).toNat:Nat) ((r2.getD 1 0).toNat:Nat) (numT (leV ((r2.drop 2).take 8))) (numT (leV ((r2.drop 10).take 4)))).name.size≤255:=by show (Str (r1.take kk)).size≤255;rw [Str.size];omega
   generalize Rwp.mk (Str (r1.take kk)) ((r2.getD 0 0).toNat:Nat) ((r2.getD 1 0).toNat:Nat) (numT (leV ((r2.drop 2).take 8))) (numT (leV ((r2.drop 10).take 4)))=x at hT hx ⊢
   simp only
   refine gGw ?_
   refine And.intro ⟨by omega,by omega,by omega,.inr hPl2⟩ ?_
   refine gGw ?_
   have hD3:BytsIn w (cutA D2 dc2 14 1) (r2.drop 14):=zcI hD2 hc2 14 hl14
   have hl3:(r2.drop 14).length=r2.length-14:=List.length_drop
   have el:(l++[x]).flatMap Rwp.cells=l.flatMap Rwp.cells++x.cells:=by rw [List.flatMap_append];simp
   have ll:(l++[x]).length=l.length+1:=by simp
   refine⟨(i+1,r2.drop 14,cutA D2 dc2 14 1,dc2-14,l++[x],lA2,lc2),⟨by show i+1≤n.toNat;omega,hD3,by show (r2.drop 14).length≤dc2-14;omega,by show (r2.drop 14).length≤20000000;omega,by show (l++[x]).length=i+1;omega,?_,?_⟩,by show n.toNat-(i+1)<n.toNat-i;omega,⟨rfl,?_,?_,rfl,rfl,rfl,trivial⟩,?_⟩
   ·show zgP (n.toNat-(i+1)) (r2.drop 14) (l++[x])=T
    rw [show n.toNat-(i+1)=f by omega];exact hT
   ·show ∀ y∈l++[x],y.name.size≤255
    intro y hy
    rcases List.mem_append.1 hy with hy|hy
    ·exact hnm y hy
    ·rw [List.mem_singleton] at hy;subst hy;exact hx
   ·show some _=some (Value.slice (cutA D2 dc2 14 1) (r2.drop 14).length (dc2-14))
    rw [hl3];rfl
   ·show some _=some (Value.slice lA2 (l++[x]).length lc2)
    rw [ll]
   ·show SubM _ _ [.row lA2 lc2 (l++[x]).length 180 5 ((l++[x]).flatMap Rwp.cells)]
    rw [el,ll]
    exact SubM.sl
 ·obtain rfl:i=n.toNat:=by omega
  rw [Nat.sub_self,zgP] at hT
  subst hT
  refine gGw ?_
  have hrow:=fun (w':World) (hm':MemOk w (Foot []) [.row lA lc l.length 180 5 (l.flatMap Rwp.cells)] w')=>RowIn.of_row (L:=l) (f:=Rwp.cells) (k:=5) (fun _=>rfl) (by omega) (hm'.ok _ (List.mem_cons_self ..))
  refine⟨zkg,zac (m1:=[]) .nil (fun w' hm'=>zpx bits l lA lc w' hbits (by omega) (hrow w' (hm'.sel (by repeat constructor))) hnm) ?_⟩
  rintro e m' (⟨no,hno,hno0,rfl,rfl⟩|⟨out,oA,oc,hno,rfl,rfl⟩)
  ·have hz:okB (zb5 bits l) bs=false:=by rw [hno];rfl
   refine gGw ?_
   refine⟨.string (Str []),zvw (by rw [decide_eq_false hno0];decide),?_⟩
   refine gGw ?_
   refine⟨.string (Str bs),Rd.g (zcB zaa rfl rfl rfl rfl rfl rfl (BytsIn.byts hb zao) _),?_⟩
   refine gGw ?_
   refine br_t (by rw [decide_eq_false hno0];rfl) ?_
   refine gGw ?_
   exact fin2 rfl rfl rfl (fun w' hm=>⟨_,.inl ⟨if_neg (by rw [hz];decide),rfl,rfl⟩,hm.sublist (List.nil_sublist _)⟩)
  ·have hz:okB (zb5 bits l) bs=decide (out=bs):=by rw [hno];rfl
   refine gGw ?_
   refine⟨.string (Str out),Rd.g (zie (bs:=out) (t:=5) zaa rfl rfl rfl rfl rfl rfl .here rfl),?_⟩
   refine gGw ?_
   refine⟨.string (Str bs),Rd.g (zcB zaa rfl rfl rfl rfl rfl rfl (BytsIn.byts hb zao) _),?_⟩
   refine gGw ?_
   by_cases he:out=bs
   ·subst he
    refine br_f (by rw [decide_eq_true (rfl:Str out=Str out)];rfl) ?_
    refine gGw ?_
    exact fin2 rfl rfl rfl (fun w' hm=>⟨_,.inr ⟨l,lA,lc,if_pos (by rw [hz];exact decide_eq_true rfl),rfl,rfl⟩,hm.sl⟩)
   ·refine br_t (by rw [decide_eq_false (fun h=>he (Str.inj.1 h))];rfl) ?_
    refine gGw ?_
    exact fin2 rfl rfl rfl (fun w' hm=>⟨_,.inl ⟨if_neg (by rw [hz];simpa using he),rfl,rfl⟩,hm.sublist (List.nil_sublist _)⟩)
end Go.Proofs.YtlmgelmloddfgaaGreat
namespace Go.Proofs.YtlmgelmloddfgaaGreat
open Go Go.RowKit Eng
theorem zgj {α:Type}:∀ {l m:List α},l.Nodup→(∀ x∈l,x∈m)→l.length≤m.length
 | [],_,_,_=>Nat.zero_le _
 | x::l,m,hn,hs=>by
  obtain ⟨s,t,rfl⟩:=List.append_of_mem (hs x (List.mem_cons_self ..))
  rw [List.nodup_cons] at hn
  have ih:=zgj (l:=l) (m:=s++t) hn.2 (fun y hy=>by
   have h1:=hs y (List.mem_cons_of_mem _ hy)
   rw [List.mem_append,List.mem_cons] at h1
   rw [List.mem_append]
   rcases h1 with h1|rfl|h1
   ·exact .inl h1
   ·exact absurd hy hn.1
   ·exact .inr h1)
  rw [List.length_append] at ih
  rw [List.length_cons,List.length_append,List.length_cons]
  omega
theorem zmk {α β:Type} {f:α→List β} {n:Nat} (hf:∀ x,(f x).length≤n):∀ L:List α,(L.flatMap f).length≤L.length*n
 | []=>by simp
 | x::L=>by
  have h1:=hf x
  have h2:=zmk hf L
  rw [List.flatMap_cons,List.length_append,List.length_cons,Nat.succ_mul];omega
def evAt:Ev→Prop
 | .find x=>0≤x.kind∧0≤x.at_∧x.at_≤300000000
 | _=>True
theorem zgc {p:WP} {a l t k:Int} (ht:0≤t∧t≤300000000):∀ e∈tRun p a l t k,evAt e:=by
 intro e he
 unfold tRun at he
 split at he
 ·obtain ⟨i,hi,he⟩:=mem_rng.1 he
  rw [List.mem_singleton] at he
  subst he
  exact trivial
 ·rw [List.mem_singleton] at he
  subst he
  exact⟨(by decide:(0:Int)≤1),ht.1,ht.2⟩
theorem zsn {n:Nat} {f:Nat→List Ev} (h:∀ i,i<n→∀ e∈f i,evAt e):∀ e∈rng n f,evAt e:=by
 intro e he
 obtain ⟨i,hi,he⟩:=mem_rng.1 he
 exact h i hi e he
theorem zfF {l k:List Ev} (h1:∀ e∈l,evAt e) (h2:∀ e∈k,evAt e):∀ e∈l++k,evAt e:=fun e he=>(List.mem_append.1 he).elim (h1 e) (h2 e)
theorem zdD:∀ e∈([]:List Ev),evAt e:=fun e he=>by cases he
theorem zcT {b:Prop} [Decidable b] {l k:List Ev} (h1:b→∀ e∈l,evAt e) (h2:¬ b→∀ e∈k,evAt e):∀ e∈(if b then l else k),evAt e:=by
 split
 ·rename_i h;exact h1 h
 ·rename_i h;exact h2 h
theorem zol {x:Fi} (h:0≤x.kind∧0≤x.at_∧x.at_≤300000000):∀ e∈[Ev.find x],evAt e:=fun e he=>by rw [List.mem_singleton] at he;subst he;exact h
theorem zqY {U:List UInt8→Int→Bool} {p:WP} {a:Int} {x:En} (ha:0≤a∧a≤300000000):∀ e∈zb2 U p a x,evAt e:=by
 unfold zb2
 refine zcT (fun _=>zfF (zgc ha) (zcT (fun _=>?_) fun _=>zdD)) fun _=>zcT (fun _=>zfF (zgc ha) (zcT (fun _=>?_) fun _=>zdD)) fun _=>zcT (fun _=>?_) fun _=>zdD
 ·intro e he;rw [List.mem_singleton] at he;subst he;exact trivial
 ·intro e he
  rcases List.mem_cons.1 he with rfl|he
  ·exact trivial
  ·split at he
   ·exact zol (x:=⟨5,a,0,0⟩) ⟨(by decide:(0:Int)≤5),ha.1,ha.2⟩ e he
   ·cases he
 ·intro e he;rw [List.mem_singleton] at he;subst he;exact trivial
theorem znZ {U:List UInt8→Int→Bool} {p:WP} (hp:p.Ok) {l1 long st:Int} (hs:0≤st∧st≤300000000):∀ e∈zbB U p l1 long st,evAt e:=by
 have hlen:=hp.len
 have hc:=hp.c0
 have hc1:=hp.c1
 unfold zbB
 refine zcT (fun _=>zdD) fun _=>zfF (zgc hs) (zcT (fun hw=>zsn fun i hi=>?_) fun _=>zdD)
 have hle:=zaI hp hw
 unfold tL1
 refine zcT (fun _=>zdD) fun _=>zfF (zgc (by omega)) (zcT (fun hw2=>zsn fun k hk=>?_) fun _=>zdD)
 have hle2:=zaI hp hw2
 generalize za4 (zaC p (l1+8*(i:Int)))=t at hw2 hle2 ⊢
 unfold tEnt
 exact zcT (fun _=>zqY (by omega)) fun _=>zol ⟨(by decide:(0:Int)≤2),by show 0≤t+8*(k:Int);omega,by show t+8*(k:Int)≤300000000;omega⟩
theorem zpe {p:WP} (hp:p.Ok):∀ e∈zbd p,evAt e:=by
 have hlen:=hp.len
 unfold zbd
 refine zfF (zgc (by decide)) (zcT (fun hw=>zsn fun i hi=>?_) fun _=>zdD)
 have hle:=zaI hp hw
 unfold zbz
 exact zcT (fun _=>zdD) fun _=>zgc (by omega)
theorem zr7 {α:Type} {l:List α} {f:α→List Ev} (h:∀ x,∀ e∈f x,evAt e):∀ e∈l.flatMap f,evAt e:=by
 intro e he
 obtain ⟨x,_,he⟩:=List.mem_flatMap.1 he
 exact h x e he
theorem zqV {U:List UInt8→Int→Bool} {S:Int→List UInt8→Int→Option (List Snp)} {p:WP} (hp:p.Ok) (hh:HL p.h):∀ e∈zby U S p,evAt e:=by
 have hsa:=hh.sa
 unfold zby
 refine zcT (fun _=>zdD) fun _=>zfF (zgc (by decide)) (zcT (fun _=>?_) fun _=>zdD)
 split
 ·exact zol ⟨(by decide:(0:Int)≤3),by show 0≤p.h.snapsAt;omega,by show p.h.snapsAt≤300000000;omega⟩
 ·intro e he;exact zr7 (fun x=>znZ hp (by omega)) e (List.mem_filter.1 he).1
theorem ztW {R:Int→List UInt8→Int→Option (List Rwp)} {p:WP} (hh:HL p.h):∀ e∈zdY R p,evAt e:=by
 have hba:=hh.ba
 unfold zdY
 refine zcT (fun _=>zdD) fun _=>zfF (zgc (by decide)) (zcT (fun _=>?_) fun _=>zdD)
 split
 ·exact zol ⟨(by decide:(0:Int)≤3),by show 0≤p.h.bitmapsAt;omega,by show p.h.bitmapsAt≤300000000;omega⟩
 ·exact zr7 fun x=>zcT (fun _=>zgc (by omega)) fun _=>zdD
theorem ztU {U:List UInt8→Int→Bool} {S:Int→List UInt8→Int→Option (List Snp)} {R:Int→List UInt8→Int→Option (List Rwp)} {p:WP} (hp:p.Ok) (hh:HL p.h):∀ e∈zcy U S R p,evAt e:=by
 intro e he
 rcases List.mem_cons.1 he with rfl|he
 ·exact trivial
 ·exact zfF (zpe hp) (zfF (znZ hp (by decide)) (zfF (zqV hp hh) (ztW hh))) e he
theorem zxi {l:List Ev}:∀ {s:WS},(∀ x∈keys s.finds,0≤x.kind∧0≤x.at_∧x.at_≤300000000)→(∀ e∈l,evAt e)→∀ x∈keys (appL s l).finds,0≤x.kind∧0≤x.at_∧x.at_≤300000000:=by
 induction l with
 | nil=>intro s h _;exact h
 | cons e r ih =>
  intro s h he
  refine ih (s:=appS s e) ?_ fun e' h'=>he e' (List.mem_cons_of_mem _ h')
  have hev:=he e (List.mem_cons_self ..)
  cases e with
  | find x =>
   intro y hy
   rcases mem_mset.1 hy with hy|rfl
   ·exact h _ hy
   ·exact hev
  | _=>exact h
theorem zoG (bs:List UInt8) (order base:Int) (l:List (Int × Int)):∀ n:Nat,(ze1 bs order base l n).length≤l.length+n
 | 0=>Nat.le_refl _
 | n+1=>by
  have ih:=zoG bs order base l n
  unfold ze1
  split
  ·omega
  ·have h1:(keys (mset (ze1 bs order base l n) (base+n) (cntF bs order n))).length≤(keys (ze1 bs order base l n)).length+1:=by
    rw [zgm]
    split
    ·omega
    ·simp
   simp only [List.length_map] at h1
   omega
theorem zmj (p:WP):∀ n:Nat,(zcX p n).length≤n*(zcs p).toNat
 | 0=>Nat.zero_le _
 | n+1=>by
  have ih:=zmj p n
  unfold zcX
  rw [Nat.succ_mul]
  split
  ·omega
  ·split
   ·have:=zoG (liB p (zcW p n) p.c) p.h.order (n*zcs p) (zcX p n) (zcs p).toNat
    omega
   ·omega
theorem zr6 {p:WP} (hp:p.Ok) (hl:p.bs.length≤100000):(za7 p).length≤6600000000:=by
 have hc0:=hp.c0
 have hc1:=hp.c1
 unfold za7
 split
 ·rename_i h
  have hle:=zaI hp h
  have hm:(zcs p).toNat≤524288:=by
   unfold zcs
   have hw:=zcf p.h.order
   have h1:8*p.c/zaJ p.h.order≤8*p.c:=Int.ediv_le_self _ (by omega)
   omega
  have hn:(p.h.countsLen*p.c/8).toNat≤12500:=by omega
  have h1:=zmj p (p.h.countsLen*p.c/8).toNat
  have h2:=Nat.mul_le_mul hn hm
  omega
 ·exact Nat.zero_le _
theorem zsh {s:WS} (hs:SOk s) (ha:∀ x∈keys s.finds,0≤x.kind∧0≤x.at_∧x.at_≤300000000):s.finds.length≤1800000006:=by
 have key:∀ N:Nat,(N:Int)=300000000→(keys s.finds).length≤(List.range 6).length*(N+1):=by
  intro N hN
  refine Nat.le_trans (zgj (m:=(List.range 6).flatMap fun k:Nat=>(List.range (N+1)).map fun a:Nat=>(⟨(k:Int),(a:Int),0,0⟩:Fi)) hs.fn fun x hx=>?_) (zmk (fun k=>by rw [List.length_map,List.length_range];exact Nat.le_refl _) _)
  have h1:=hs.fb x hx
  have h2:=ha x hx
  refine List.mem_flatMap.2 ⟨x.kind.toNat,List.mem_range.2 (by omega),List.mem_map.2 ⟨x.at_.toNat,List.mem_range.2 (by omega),?_⟩⟩
  exact Fi.ext' (by show ((x.kind.toNat:Nat):Int)=x.kind;omega) (by show ((x.at_.toNat:Nat):Int)=x.at_;omega) h1.2.2.1.symm h1.2.2.2.symm
 have:=key 300000000 rfl
 rw [List.length_map,List.length_range] at this
 omega
theorem znm {s:WS} (hs:SOk s):s.holders.length≤40001:=by
 have key:∀ N:Nat,(N:Int)=40000→(keys s.holders).length≤N+1:=by
  intro N hN
  refine Nat.le_trans (zgj (m:=(List.range (N+1)).map fun a=>((a:Nat):Int)) hs.hn fun x hx=>?_) (by rw [List.length_map,List.length_range];exact Nat.le_refl _)
  have h1:=hs.hb x hx
  exact List.mem_map.2 ⟨x.toNat,List.mem_range.2 (by omega),by omega⟩
 have:=key 40000 rfl
 rw [List.length_map] at this
 exact this
theorem zxg {p:WP} {s s':WS} (hp:p.Ok) (hl:p.bs.length≤100000) (hs:SOk s) (ha:∀ x∈keys s.finds,0≤x.kind∧0≤x.at_∧x.at_≤300000000) (h:CmpR p s s') (hn:(keys s'.finds).Nodup):s'.finds.length≤16000000000:=by
 have h1:=zsh hs ha
 have h2:=znm hs
 have h3:=zr6 hp hl
 have h4:(keys s'.finds).length≤(keys s.finds++((s.holders.flatMap fun q=>[(⟨4,IntKind.i64.wrap (q.1*p.c),1,q.2.n⟩:Fi),⟨6,IntKind.i64.wrap (q.1*p.c),q.2.n,(mget (za7 p) q.1).getD 0⟩,⟨7,IntKind.i64.wrap (q.1*p.c),q.2.n,(mget (za7 p) q.1).getD 0⟩]) ++
   ((za7 p).flatMap fun q=>[(⟨6,IntKind.i64.wrap (q.1*p.c),0,q.2⟩:Fi),⟨7,IntKind.i64.wrap (q.1*p.c),0,q.2⟩]))).length:=by
  refine zgj hn fun x hx=>?_
  rcases (h.2 x).1 hx with (hx|⟨q,hq,hx⟩)|⟨q,hq,hx⟩
  ·exact List.mem_append_left _ hx
  ·refine List.mem_append_right _ (List.mem_append_left _ (List.mem_flatMap.2 ⟨q,hq,?_⟩))
   rcases hx with ⟨_,rfl⟩|⟨_,rfl⟩|⟨_,rfl⟩<;>simp
  ·refine List.mem_append_right _ (List.mem_append_right _ (List.mem_flatMap.2 ⟨q,hq,?_⟩))
   rcases hx with ⟨_,⟨_,rfl⟩|⟨_,rfl⟩⟩<;>simp
 rw [List.length_append,List.length_append,List.length_map,List.length_map] at h4
 have h5:=zmk (n:=3) (f:=fun q:Int × Hl=>[(⟨4,IntKind.i64.wrap (q.1*p.c),1,q.2.n⟩:Fi),⟨6,IntKind.i64.wrap (q.1*p.c),q.2.n,(mget (za7 p) q.1).getD 0⟩,⟨7,IntKind.i64.wrap (q.1*p.c),q.2.n,(mget (za7 p) q.1).getD 0⟩]) (fun _=>Nat.le_refl _) s.holders
 have h6:=zmk (n:=2) (f:=fun q:Int × Int=>[(⟨6,IntKind.i64.wrap (q.1*p.c),0,q.2⟩:Fi),⟨7,IntKind.i64.wrap (q.1*p.c),0,q.2⟩]) (fun _=>Nat.le_refl _) (za7 p)
 omega
end Go.Proofs.YtlmgelmloddfgaaGreat
