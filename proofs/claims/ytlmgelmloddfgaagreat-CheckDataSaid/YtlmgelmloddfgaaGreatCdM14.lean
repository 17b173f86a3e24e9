/- Part of a proof: contracts of the functions that the law reaches. No statement of the seat is proved here. -/
import Derived.Test.YtlmgelmloddfgaaGreatCdM13
set_option linter.unusedVariables false
set_option linter.unusedSimpArgs false
set_option linter.unusedSectionVars false
set_option maxRecDepth 100000
namespace Go.Proofs.YtlmgelmloddfgaaGreat
open Go Go.RowKit Eng
theorem zqd {bs:List UInt8} {a:Nat} (h:a<bs.length):bs.drop a=bs.getD a 0::bs.drop (a+1):=by
 rw [List.drop_eq_getElem_cons h,List.getD_eq_getElem?_getD,List.getElem?_eq_getElem h];rfl
theorem zoK {L:List UInt8} (h:BitsL L) (j:Nat):(L.getD j 0).toNat≤1:=by
 by_cases hj:j<L.length
 ·rw [List.getD_eq_getElem?_getD,List.getElem?_eq_getElem hj]
  exact h _ (List.getElem_mem hj)
 ·rw [List.getD_eq_getElem?_getD,List.getElem?_eq_none (by omega)];decide
theorem pow57 {n:Nat} (h:n≤57):2 ^ n≤144115188075855872:=Nat.le_trans (Nat.pow_le_pow_right (by omega) h) (by decide)
attribute [local irreducible] Br Rn RnU Cl RdG CpG Ld Rd Lp Dr Oth Cut fin Fits Eng.Enters Md NA
theorem zhI:Eng.Enters Tryz.prog 242:=zab fun _ _=>by kernel_rfl
theorem zlk:Eng.Enters Tryz.prog 224:=zab fun _ _=>by kernel_rfl
theorem zo2:Eng.Enters Tryz.prog 210:=zab fun _ _=>by kernel_rfl
theorem zjZ:Eng.Enters Tryz.prog 260:=zab fun _ _=>by kernel_rfl
theorem znT (L:List UInt8) (A:Option Addr) (c n:Nat) (w:World) (hn:L.length=n) (hb:BytsIn w A L) (hl:n≤57) (hL:BitsL L) :
  Calls Tryz.prog 242 #[.slice A n c] w fun e w'=>e=.returned (.int .u64 (numU L:Nat))∧Fr (fun _=>False) w w':=by
 subst hn
 refine enter (cx:=CX 21 [] w) [(0,.slice A L.length c)] zaa Tryz.func242 rfl rfl rfl rfl (MemOk.nil w _) ?_
 have h1:=fun m=>BytsIn.byts (cx:=CX 21 [] w) (m:=m) hb (fun _ h=>h)
 refine gGw ?_
 refine lp zaa (γ:=Nat) (fun i=>i≤L.length) (fun i=>[(4,.int .i64 ((i:Int)-1)),(3,.int .u64 (numU (L.drop i):Nat)),(0,.slice A L.length c)]) (fun _=>[]) (fun i=>i) L.length (Nat.le_refl _)
  ⟨rfl,by rw [List.drop_of_length_le (Nat.le_refl _)];rfl,rfl,trivial⟩ (SubM.refl _ _) ?_
 rintro i hi
 dsimp only
 refine gGw ?_
 refine br_d (fun hge=>?_) (fun hlt=>?_)
 ·obtain ⟨j,rfl⟩:∃ j,i=j+1:=⟨i-1,by omega⟩
  have ej:((j+1:Nat):Int)-1=(j:Int):=by omega
  have hv:=zm9 (hL.drop (j+1))
  have hp:=pow57 (n:=(L.drop (j+1)).length) (by rw [List.length_drop];omega)
  have hs:numU (L.drop j)=(L.getD j 0).toNat+2*numU (L.drop (j+1)):=by rw [zqd (by omega)];rfl
  have hb8:=zoK hL j
  have hpl:Pl A:=(h1 []).plain (by omega)
  rw [ej]
  refine gGw ?_
  refine And.intro ⟨by omega,by omega,hpl⟩ ?_
  conv=>whnf
  refine zaj ((h1 _).ld zaa rfl rfl (j:=j) (by omega)) ?_
  refine gGw ?_
  refine⟨j,by omega,by omega,⟨rfl,?_,rfl,trivial⟩,SubM.refl _ _⟩
  refine congrArg (fun x=>some (Value.int .u64 x)) ?_
  rw [hs];push_cast;omega
 ·have hi0:i=0:=by omega
  subst hi0
  refine gGw ?_
  exact fin1 rfl rfl (fun w' hm=>⟨rfl,hm.fr⟩)
theorem zwv {l:List UInt8} {v:UInt8} {x:Int} (hx:x=(v.toNat:Int)):(zah l).map (Value.int .u8)++[.int .u8 x]=(zah (l++[v])).map (Value.int .u8):=by
 subst hx
 rw [zkA]
theorem zqL (x n:Nat) (w:World) (hx:x<18446744073709551616) (hn:n≤64) :
  Ctr Tryz.prog 224 [.int .u64 (x:Int),.int .i64 (n:Int)] [] (fun e m'=>∃ A c,e=.returned (.slice A n c)∧m'=[BR8 A c n (zfs x n)]) w:=by
 refine enter (cx:=CXS 21 [] w (Foot [])) [(0,.int .u64 (x:Int)),(1,.int .i64 (n:Int))] zaa Tryz.func224 rfl rfl rfl rfl (MemOk.nil w _) ?_
 refine gGw ?_
 refine lp zaa (γ:=Nat × Nat × List UInt8 × Option Addr × Nat) (fun q=>q.1≤n∧q.2.1<18446744073709551616∧q.2.2.1.length=q.1∧q.2.2.1++zfs q.2.1 (n-q.1)=zfs x n)
  (fun q=>[(6,.int .i64 (q.1:Int)),(5,.slice q.2.2.2.1 q.1 q.2.2.2.2),(0,.int .u64 (q.2.1:Int)),(1,.int .i64 (n:Int))]) (fun q=>[BR8 q.2.2.2.1 q.2.2.2.2 q.1 q.2.2.1]) (fun q=>n-q.1) (0,x,[],none,0) ⟨Nat.zero_le _,hx,rfl,rfl⟩ ⟨rfl,rfl,rfl,rfl,trivial⟩ (SubM.row0 SubM.sl _ _) ?_
 rintro ⟨i,y,l,A,c⟩ ⟨hi,hy,hli,hbl⟩
 simp only at hi hy hli hbl
 dsimp only
 refine gGw ?_
 refine br_d (fun hlt=>?_) (fun hge=>?_)
 ·obtain ⟨f,hf⟩:∃ f,n-i=f+1:=⟨n-i-1,by omega⟩
  rw [hf,zfs] at hbl
  have e1:(y:Int).tmod 2=((y%2:Nat):Int):=by rw [Int.tmod_eq_emod_of_nonneg (by omega)];rfl
  have e2:(y:Int).tdiv 2=((y/2:Nat):Int):=by rw [Int.tdiv_eq_ediv_of_nonneg (by omega)];rfl
  have e3:IntKind.u64.wrap ((y:Int).tdiv 2)=((y/2:Nat):Int):=by rw [e2];exact IntWalk.u64_in _ (by omega)
  refine gGw ?_;(repeat ((first|refine .mk fun Ap capp=>?_|intro _);(conv=>whnf);refine gG0 ?_))
  refine⟨(i+1,y/2,l++[UInt8.ofNat (y%2)],Ap,capp),⟨by show i+1≤n;omega,by show y/2<18446744073709551616;omega,by show (l++[UInt8.ofNat (y%2)]).length=i+1;rw [List.length_append,hli];rfl,?_⟩,by show n-(i+1)<n-i;omega,⟨congrArg (fun x=>some (Value.int .i64 x)) (by push_cast;rfl),rfl,congrArg (fun x=>some (Value.int .u64 x)) e3,rfl,trivial⟩,?_⟩
  ·show (l++[UInt8.ofNat (y%2)])++zfs (y/2) (n-(i+1))=zfs x n
   rw [show n-(i+1)=f by omega,List.append_assoc];exact hbl
  ·show SubM _ _ [.row Ap capp (i+1) 5 1 ((zah (l++[UInt8.ofNat (y%2)])).map (Value.int .u8))]
   rw [← zwv (l:=l) (v:=UInt8.ofNat (y%2)) (x:=(y:Int).tmod 2) (by rw [e1,UInt8.toNat_ofNat'];omega)]
   exact SubM.sl
 ·have ei:i=n:=by omega
  subst ei
  rw [Nat.sub_self] at hbl
  rw [zfs,List.append_nil] at hbl
  subst hbl
  refine gGw ?_
  exact fin1 rfl rfl (fun w' hm=>⟨_,⟨A,c,rfl,rfl⟩,hm⟩)
theorem zsF (bs:List UInt8) (i:Nat) (h:i<bs.length):zdr (bs.take (i+1))=zdr (bs.take i)++zfs (bs.getD i 0).toNat 8:=by
 unfold zdr
 rw [List.take_add_one,List.getElem?_eq_getElem h,List.flatMap_append,List.getD_eq_getElem?_getD,List.getElem?_eq_getElem h]
 simp
theorem zv0 (bs:List UInt8) (A:Option Addr) (c:Nat) (w:World) (hb:BytsIn w A bs) (hl:bs.length≤100000) :
  Ctr Tryz.prog 210 [.slice A bs.length c] [] (fun e m'=>∃ B d,e=.returned (.slice B (8*bs.length) d)∧m'=[BR8 B d (8*bs.length) (zdr bs)]) w:=by
 refine enter (cx:=CXS 24 [] w (Foot [])) [(0,.slice A bs.length c)] zaa Tryz.func210 rfl rfl rfl rfl (MemOk.nil w _) ?_
 have h1:=fun m=>BytsIn.byts (cx:=CXS 24 [] w (Foot [])) (m:=m) hb zao
 refine gGw ?_
 refine zui zaa rfl rfl rfl (by omega) (by show 1*_≤_;omega) (by omega) (fun b0=>?_)
 refine gGw ?_
 refine lp zaa (γ:=Nat × Option Addr × Nat) (fun q=>q.1≤bs.length) (fun q=>[(4,.int .i64 (q.1:Int)),(3,.slice q.2.1 (8*q.1) q.2.2),(0,.slice A bs.length c)]) (fun q=>[BR8 q.2.1 q.2.2 (8*q.1) (zdr (bs.take q.1))]) (fun q=>bs.length-q.1) (0,some ⟨b0,0,none⟩,(8*(bs.length:Int)).toNat) (Nat.zero_le _) ⟨rfl,rfl,rfl,trivial⟩ SubM.sl ?_
 rintro ⟨i,B,d⟩ hi
 simp only at hi
 dsimp only
 refine gGw ?_
 refine br_d (fun hlt=>?_) (fun hge=>?_)
 ·have hb8:=(bs.getD i 0).toNat_lt
  have hpl:Pl A:=(h1 []).plain (by omega)
  have hsn:=zsF bs i (by omega)
  refine gGw ?_
  refine And.intro ⟨by omega,by omega,hpl⟩ ?_
  conv=>whnf
  refine zaj ((h1 _).ld zaa rfl rfl (j:=i) (by omega)) ?_
  refine gGw ?_
  refine⟨zlk,zac (m1:=[]) .nil (fun w' hm'=>zqL (bs.getD i 0).toNat 8 w' (by omega) (by omega)) ?_⟩
  rintro e m' ⟨B2,d2,rfl,rfl⟩
  conv=>whnf
  refine zbh (acc:=zdr (bs.take i)) (ys:=zfs (bs.getD i 0).toNat 8) zaa rfl (by repeat constructor) (by repeat constructor) (ziS _ _) (by omega) (fun B3 d3=>?_)
  rw [← hsn]
  refine gGw ?_
  exact⟨(i+1,B3,d3),by show i+1≤bs.length;omega,by show bs.length-(i+1)<bs.length-i;omega,⟨congrArg (fun x=>some (Value.int .i64 x)) (by push_cast;rfl),rfl,rfl,trivial⟩,SubM.sl⟩
 ·obtain rfl:i=bs.length:=by omega
  rw [List.take_length]
  refine gGw ?_
  exact fin1 rfl rfl (fun w' hm=>⟨_,⟨B,d,rfl,rfl⟩,hm⟩)
theorem zo6 (L:List UInt8) (A:Option Addr) (c n:Nat) (w:World) (hn:L.length=n) (hb:BytsIn w A L) (hl:n≤1000000) (hc:n≤c) (hL:BitsL L) :
  Ctr Tryz.prog 260 [.slice A n c] [] (fun e m'=>∃ B d,e=.returned (.slice B (zdI n L).length d)∧m'=[BR8 B d (zdI n L).length (zdI n L)]) w:=by
 refine enter (cx:=CXS 25 [21] w (Foot [])) [(0,.slice A n c)] zaa Tryz.func260 rfl rfl rfl rfl (MemOk.nil w _) ?_
 have h1:=fun m=>BytsIn.byts (cx:=CXS 25 [21] w (Foot [])) (m:=m) hb zao
 generalize hR:zdI n L=R
 refine gGw ?_
 refine lp zaa (γ:=Nat × Nat × List UInt8 × Option Addr × Nat) (fun q=>q.1≤n∧q.2.2.1.length=q.1∧q.2.2.1++zdI q.2.1 (L.drop (8*q.1))=R∧n≤q.2.1+q.1)
  (fun q=>[(4,.int .i64 (8*(q.1:Int))),(3,.slice q.2.2.2.1 q.1 q.2.2.2.2),(0,.slice A n c)]) (fun q=>[BR8 q.2.2.2.1 q.2.2.2.2 q.1 q.2.2.1]) (fun q=>n-q.1) (0,n,[],none,0) ⟨Nat.zero_le _,rfl,hR,by show n≤n+0;omega⟩ ⟨rfl,rfl,rfl,trivial⟩ (SubM.row0 SubM.sl _ _) ?_
 rintro ⟨i,f,l,B,d⟩ ⟨hi,hli,hR,hf⟩
 simp only at hi hli hR hf
 dsimp only
 refine gGw ?_
 refine br_d (fun hlt=>?_) (fun hge=>?_)
 ·obtain ⟨f,rfl⟩:∃ f',f=f'+1:=⟨f-1,by omega⟩
  have hne:L.drop (8*i)≠[]:=fun h=>by
   have:=List.drop_eq_nil_iff.1 h
   omega
  rw [zdI,if_neg hne,List.drop_drop] at hR
  obtain ⟨e,he,he1,he2⟩:∃ e:Nat,(if (n:Int)<8*(i:Int)+8 then (n:Int) else 8*(i:Int)+8)=(e:Int)∧(8*i≤e∧e≤n)∧(e=n∧n<8*i+8∨e=8*i+8):=by
   split
   ·exact⟨n,rfl,by omega,.inl ⟨rfl,by omega⟩⟩
   ·exact⟨8*i+8,by omega,by omega,.inr rfl⟩
  have hpl:Pl A:=(h1 []).plain (by omega)
  have htk:(L.drop (8*i)).take (e-8*i)=(L.drop (8*i)).take 8:=by
   rcases he2 with ⟨h1,h2⟩|h1
   ·rw [List.take_of_length_le (by rw [List.length_drop];omega),List.take_of_length_le (by rw [List.length_drop];omega)]
   ·rw [h1];congr 1;omega
  have hsub:=fun w' (h:BytsIn w' A L)=>BytsIn.sub h c (8*i) (e-8*i) (by omega) (by omega)
  rw [htk] at hsub
  have hlt8:((L.drop (8*i)).take 8).length=e-8*i:=by rw [← htk,List.length_take,List.length_drop];omega
  have hLt:BitsL ((L.drop (8*i)).take 8):=(hL.drop _).take _
  generalize (L.drop (8*i)).take 8=K at hsub hlt8 hLt hR
  refine gGw ?_
  rw [he]
  refine And.intro ⟨by omega,by omega,by omega,.inr hpl⟩ ?_
  refine gGw ?_
  refine⟨zhI,zae _ (fun w' hm'=>znT K _ _ _ w' (by rw [hlt8];omega) (hsub w' ((h1 []).in_ (hm'.sublist (List.nil_sublist _)))) (by omega) hLt) ?_⟩
  refine gGw ?_;(repeat ((first|refine .mk fun Ap capp=>?_|intro _);(conv=>whnf);refine gG0 ?_))
  refine⟨(i+1,f,l++[UInt8.ofNat (numU K%256)],Ap,capp),⟨by show i+1≤n;omega,by show (l++[UInt8.ofNat (numU K%256)]).length=i+1;rw [List.length_append,hli];rfl,?_,by show n≤f+(i+1);omega⟩,by show n-(i+1)<n-i;omega,⟨congrArg (fun x=>some (Value.int .i64 x)) (by push_cast;omega),rfl,rfl,trivial⟩,?_⟩
  ·show (l++[UInt8.ofNat (numU K%256)])++zdI f (L.drop (8*(i+1)))=R
   rw [List.append_assoc]
   exact hR
  ·show SubM _ _ [.row Ap capp (i+1) 5 1 ((zah (l++[UInt8.ofNat (numU K%256)])).map (Value.int .u8))]
   rw [← zwv (l:=l) (v:=UInt8.ofNat (numU K%256)) (x:=IntKind.u8.wrap (numU K:Nat)) (by rw [IntKind.wrap_u8,UInt8.toNat_ofNat'];omega)]
   exact SubM.sl
 ·have hnil:L.drop (8*i)=[]:=List.drop_eq_nil_of_le (by omega)
  have hz:zdI f []=[]:=by cases f<;>rfl
  rw [hnil,hz,List.append_nil] at hR
  subst hR
  subst hli
  refine gGw ?_
  exact fin1 rfl rfl (fun w' hm=>⟨_,⟨B,d,rfl,rfl⟩,hm⟩)
end Go.Proofs.YtlmgelmloddfgaaGreat
namespace Go.Proofs.YtlmgelmloddfgaaGreat
open Go Go.RowKit Eng
structure Bd where
 B:Nat
 A:Option Addr
 c:Nat
 L:List UInt8
structure Bd.Ok (d:Bd):Prop where
 bits:BitsL d.L
 len:d.L.length≤160000
 cap:d.L.length≤d.c
abbrev BdM (d:Bd) (at_:Nat):Mem:=[.blk d.B (.cells [.slice d.A d.L.length d.c,.int .i64 (at_:Int)].toArray 316),BR8 d.A d.c d.L.length d.L]
theorem zbQ {L:List UInt8} {a n:Nat} (h:a+n≤L.length):zgD L a n=.ok (numU ((L.drop a).take n),a+n):=if_pos h
theorem zbR {L:List UInt8} {a n:Nat} (h:¬ a+n≤L.length):zgD L a n=.error 120:=if_neg h
theorem zeV {L:List UInt8} (h:BitsL L) (a n:Nat):numU ((L.drop a).take n)<2 ^ n:=by
 have h1:=zm9 ((h.drop a).take n)
 refine Nat.lt_of_lt_of_le h1 (Nat.pow_le_pow_right (by omega) ?_)
 rw [List.length_take];omega
theorem zge {w:World} {A:Option Addr} {cap n t k:Nat} {xs:List Value} (h:Res.ok w (.row A cap n t k xs)):A=none∨Pl A:=by
 rcases h.2 with ⟨e,_⟩|⟨g,_,_,e,_⟩
 ·injection e with e;exact .inl e
 ·injection e with e;exact .inr ⟨g,0,e⟩
theorem zye {P:Program} {f:Nat} {A:Option Addr} {n n' c:Nat} {m:Mem} {R:Ending→Mem→Prop} {w:World} (h:n=n') (hc:Ctr P f [.slice A n c] m R w):Ctr P f [.slice A n' c] m R w:=h ▸ hc
attribute [local irreducible] Br Rn RnU Cl RdG CpG Ld Rd Lp Dr Oth Cut fin Fits Eng.Enters Md NA
theorem zaR:Eng.Enters Tryz.prog 225:=zab fun _ _=>by kernel_rfl
theorem zj0:Eng.Enters Tryz.prog 243:=zab fun _ _=>by kernel_rfl
theorem zmB:Eng.Enters Tryz.prog 244:=zab fun _ _=>by kernel_rfl
theorem zbx (d:Bd) (a n:Nat) (w:World) (hd:d.Ok) (ha:a≤d.L.length) (hn:n≤57) (hm:MemOk w (Foot (BdM d a)) (BdM d a) w) :
  Ctr Tryz.prog 225 [.pointer (some ⟨d.B,0,none⟩),.int .i64 (n:Int)] (BdM d a) (fun e m'=>(a+n≤d.L.length∧e=.returned (.tuple #[.int .u64 (numU ((d.L.drop a).take n):Nat),.int .i64 0])∧m'=BdM d (a+n)) ∨
   (¬ a+n≤d.L.length∧e=.returned (.tuple #[.int .u64 0,.int .i64 120])∧m'=BdM d a)) w:=by
 obtain ⟨hL,hl,hc⟩:=hd
 have hA:=zge (hm.ok (BR8 d.A d.c d.L.length d.L) (by simp))
 refine enter (cx:=⟨Tryz.prog,51,w,Foot (BdM d a),tab,[],[242],[],[]⟩) [(0,.pointer (some ⟨d.B,0,none⟩)),(1,.int .i64 (n:Int))] zaa Tryz.func225 rfl rfl rfl rfl hm ?_
 refine gGw ?_
 refine br_f (by simp only [Bool.or_eq_false_iff,decide_eq_false_iff_not];omega) ?_
 conv=>whnf
 refine zar zaa mixed (by kernel_rfl) rfl ?_;conv=>whnf
 refine gG0 ?_
 refine br_d (fun hlt=>?_) (fun hge=>?_)
 ·refine gGw ?_
  exact fin2 rfl rfl rfl (fun w' hm=>⟨_,.inr ⟨by omega,rfl,rfl⟩,hm⟩)
 ·conv=>whnf
  refine zar zaa mixed (by kernel_rfl) rfl ?_;conv=>whnf
  refine gG0 ?_
  refine And.intro ⟨by omega,by omega,by omega,hA⟩ ?_
  refine gGw ?_
  refine⟨_,cpg zhI (fun _ w' hm'=>znT ((d.L.drop a).take n) _ _ _ w' (by rw [List.length_take,List.length_drop];omega) (BytsIn.sub (zaB (hm'.ok (BR8 d.A d.c d.L.length d.L) (by simp))) d.c a n (by omega) hc) (by omega) ((hL.drop _).take _)),?_⟩
  refine gGw ?_
  exact fin2 rfl rfl rfl (fun w' hm=>⟨BdM d (a+n),.inl ⟨by omega,rfl,rfl⟩,hm.sl⟩)
theorem zo7 (d:Bd) (a:Nat) (w:World) (hd:d.Ok) (ha:a≤d.L.length) (hm:MemOk w (Foot (BdM d a)) (BdM d a) w) :
  Ctr Tryz.prog 243 [.pointer (some ⟨d.B,0,none⟩)] (BdM d a) (fun e m'=>e=.returned (.tuple #[])∧m'=BdM d (zb8 a)) w:=by
 obtain ⟨hL,hl,hc⟩:=hd
 refine enter (cx:=CXS 12 [] w (Foot (BdM d a))) [(0,.pointer (some ⟨d.B,0,none⟩))] zaa Tryz.func243 rfl rfl rfl rfl hm ?_
 have e1:((a:Int)+7).tdiv 8=(((a+7)/8:Nat):Int):=by rw [Int.tdiv_eq_ediv_of_nonneg (by omega)];omega
 have e2:IntKind.i64.wrap (((a:Int)+7).tdiv 8)=(((a+7)/8:Nat):Int):=by rw [e1];exact IntWalk.i64_in _ (by omega)
 refine gGw ?_
 have e3:IntKind.i64.wrap (((a:Int)+7).tdiv 8)*8=((zb8 a:Nat):Int):=by rw [e2];unfold zb8;push_cast;rfl
 refine fin0 rfl (fun w' hm=>⟨BdM d (zb8 a),⟨rfl,rfl⟩,?_⟩) (by first|exact .inl rfl|exact .inr rfl)
 rw [e3] at hm
 exact hm.sl
abbrev rawX (d:Bd) (a n:Nat):List UInt8:=zdI (8*n) ((d.L.drop a).take (8*n))
theorem zsY (d:Bd) (a n:Nat) (w:World) (hd:d.Ok) (ha:a≤d.L.length) (h8:a%8=0) (hn:n≤65535) (hm:MemOk w (Foot (BdM d a)) (BdM d a) w) :
  Ctr Tryz.prog 244 [.pointer (some ⟨d.B,0,none⟩),.int .i64 (n:Int)] (BdM d a) (fun e m'=>(n≤(d.L.length-a)/8∧∃ B c,e=.returned (.tuple #[.slice B (rawX d a n).length c,.int .i64 0])∧m'=BR8 B c (rawX d a n).length (rawX d a n)::BdM d (a+8*n)) ∨
   (¬ n≤(d.L.length-a)/8∧e=.returned (.tuple #[.slice none 0 0,.int .i64 120])∧m'=BdM d a)) w:=by
 obtain ⟨hL,hl,hc⟩:=hd
 have hA:=zge (hm.ok (BR8 d.A d.c d.L.length d.L) (by simp))
 refine enter (cx:=CXS 58 [] w (Foot (BdM d a))) [(0,.pointer (some ⟨d.B,0,none⟩)),(1,.int .i64 (n:Int))] zaa Tryz.func244 rfl rfl rfl rfl hm ?_
 have hby:a+8*n≤d.L.length→∀ w',BytsIn w' (cutA d.A d.c a 1) ((d.L.drop a).take (8*n))→Ctr Tryz.prog 260 [.slice (cutA d.A d.c a 1) (8*n) (d.c-a)] [] (fun e m'=>∃ B c,e=.returned (.slice B (rawX d a n).length c)∧m'=[BR8 B c (rawX d a n).length (rawX d a n)]) w':=fun hk w' hb' =>
  zo6 ((d.L.drop a).take (8*n)) _ _ (8*n) w' (by rw [List.length_take,List.length_drop];omega) hb' (by omega) (by omega) ((hL.drop _).take _)
 generalize rawX d a n=Z at hby ⊢
 have e0:(a:Int).tmod 8=0:=by rw [Int.tmod_eq_emod_of_nonneg (by omega)];omega
 have e1:((d.L.length:Int)-a).tdiv 8=(((d.L.length-a)/8:Nat):Int):=by rw [Int.tdiv_eq_ediv_of_nonneg (by omega)];omega
 have e2:IntKind.i64.wrap (((d.L.length:Int)-a).tdiv 8)=(((d.L.length-a)/8:Nat):Int):=by rw [e1];exact IntWalk.i64_in _ (by omega)
 refine gGw ?_
 refine br_f (decide_eq_false (by omega)) ?_
 conv=>whnf
 refine zar zaa mixed (by kernel_rfl) rfl ?_;conv=>whnf
 refine gG0 ?_
 refine And.intro (fun _=>zaf (by omega)) ?_
 refine gGw ?_
 refine And.intro (fun _=>by decide) ?_
 refine gGw ?_
 rw [e2]
 by_cases hk:n≤(d.L.length-a)/8
 rotate_left
 ·refine br_t (by rw [decide_eq_true e0,decide_eq_true (show (((d.L.length-a)/8:Nat):Int)<n by omega)];rfl) ?_
  refine gGw ?_
  exact fin2 rfl rfl rfl (fun w' hm=>⟨_,.inr ⟨hk,rfl,rfl⟩,hm⟩)
 have hby:=hby (by omega)
 refine br_f (by rw [decide_eq_true e0,decide_eq_false (show ¬ (((d.L.length-a)/8:Nat):Int)<n by omega)];rfl) ?_
 conv=>whnf
 refine zcH 16 zaa mixed (by kernel_rfl) rfl rfl ?_
 refine gGw ?_
 refine And.intro ⟨by omega,by omega,by omega,hA⟩ ?_
 refine gGw ?_
 refine⟨zjZ,zac (m1:=[]) .nil (fun w' hm'=>zye (by omega) (hby w' (BytsIn.sub (zaB (hm'.ok (BR8 d.A d.c d.L.length d.L) (by simp))) d.c a (8*n) (by omega) hc))) ?_⟩
 rintro e m' ⟨B,c,rfl,rfl⟩
 refine gGw ?_
 exact fin2 rfl rfl rfl (fun w' hm=>⟨BR8 B c Z.length Z::BdM d (a+8*n),.inl ⟨hk,B,c,rfl,rfl⟩,hm.sl⟩)
end Go.Proofs.YtlmgelmloddfgaaGreat
namespace Go.Proofs.YtlmgelmloddfgaaGreat
open Go Go.RowKit Eng
def LenL (l:List Int):Prop:=(∀ x∈l,0≤x∧x≤15)∧l.length≤400
theorem LenL.get {l:List Int} (h:LenL l) (i:Nat):0≤l.getD i 0∧l.getD i 0≤15:=by
 by_cases hi:i<l.length
 ·exact h.1 _ (zbF hi)
 ·rw [List.getD_eq_getElem?_getD,List.getElem?_eq_none (by omega)];decide
abbrev UR (A:Option Addr) (c n:Nat) (xs:List Int):Res:=.row A c n 32 1 (xs.map (.int .u64))
theorem zvj {xs:List Int} {j:Nat} (h:j<xs.length):(xs.map (Value.int .u64))[j]?=some (.int .u64 (xs.getD j 0)):=by
 rw [List.getElem?_map,List.getElem?_eq_getElem h,List.getD_eq_getElem?_getD,List.getElem?_eq_getElem h];rfl
theorem setU {l:List Int} {i:Nat} {b:Int}:zbu i (zaX (.int .u64 b)) (l.map (.int .u64))=(l.set i b).map (Value.int .u64):=by
 show (l.map (Value.int .u64)).set i (.int .u64 b)=_
 rw [List.map_set]
theorem zk4 {l:List Int} (hl:l.length≤400) (k:Nat) (hk:k≤15):(cdN l k).1≤13107200∧∀ x∈(cdN l k).2,0≤x∧x≤13107200:=by
 obtain ⟨h1,h2⟩:=zvL l k
 have h3:2 ^ k≤2 ^ 15:=Nat.pow_le_pow_right (by omega) hk
 have h4:l.length*2 ^ k≤400*2 ^ 15:=Nat.mul_le_mul hl h3
 have h5:400*2 ^ 15=13107200:=by decide
 refine⟨by omega,fun x hx=>?_⟩
 have:=h2 x hx
 omega
attribute [local irreducible] Br Rn RnU Cl RdG CpG Ld Rd Lp Dr Oth Cut fin Fits Eng.Enters Md NA
theorem ziV:Eng.Enters Tryz.prog 264:=zab fun _ _=>by kernel_rfl
theorem zjY:Eng.Enters Tryz.prog 267:=zab fun _ _=>by kernel_rfl
theorem zo1:Eng.Enters Tryz.prog 261:=zab fun _ _=>by kernel_rfl
theorem zmA (l:List Int) (A:Option Addr) (c n:Nat) (w:World) (hn:l.length=n) (hb:IntsIn .i64 w A l) (hl:LenL l) :
  Calls Tryz.prog 264 #[.slice A n c] w fun e w'=>e=.returned (.int .i64 (zbf l))∧Fr (fun _=>False) w w':=by
 subst hn
 obtain ⟨hx,hlen⟩:=hl
 refine enter (cx:=CX 24 [] w) [(0,.slice A l.length c)] zaa Tryz.func264 rfl rfl rfl rfl (MemOk.nil w _) ?_
 have h1:=fun m=>IntsIn.ints (cx:=CX 24 [] w) (m:=m) hb (fun _ h=>h)
 refine gGw ?_
 refine lp zaa (γ:=Nat) (fun i=>i≤l.length) (fun i=>[(4,.int .i64 (i:Int)),(3,.int .i64 (zbf (l.take i))),(0,.slice A l.length c)]) (fun _=>[]) (fun i=>l.length-i) 0 (by omega) ⟨rfl,rfl,rfl,trivial⟩ (SubM.refl _ _) ?_
 rintro i hi
 dsimp only
 refine gGw ?_
 refine br_d (fun hlt=>?_) (fun hge=>?_)
 ·have hlt':i<l.length:=by omega
  have hpl:Pl A:=(h1 []).plain (by omega)
  have hbd:=hx _ (zbF hlt')
  have hwl:=zgz (l.take i)
  have hlen:(l.take i).length=i:=by rw [List.length_take];omega
  rw [hlen] at hwl
  have hst:=zg6 l i hlt'
  refine gGw ?_
  refine And.intro ⟨by omega,by omega,hpl⟩ ?_
  conv=>whnf
  refine zaj ((h1 _).ld zaa rfl rfl (j:=i) (by omega)) ?_
  refine gGw ?_
  refine br_d (fun hpos=>?_) (fun hz=>?_)
  ·rw [if_pos hpos] at hst
   have h32:0≤(32768:Int)/2 ^ (l.getD i 0).toNat∧(32768:Int)/2 ^ (l.getD i 0).toNat≤32768:=⟨Int.ediv_nonneg (by omega) (Int.le_of_lt (Int.pow_pos (by omega))),Int.ediv_le_self _ (by omega)⟩
   refine gGw ?_
   refine And.intro ⟨by omega,by omega,hpl⟩ ?_
   conv=>whnf
   refine zaj ((h1 _).ld zaa rfl rfl (j:=i) (by omega)) ?_
   refine gGw ?_
   refine And.intro ⟨by omega,show l.getD i 0≤(64:Int) by omega⟩ ?_
   refine gGw ?_
   refine⟨i+1,by omega,by omega,⟨congrArg (fun x=>some (Value.int .i64 x)) (by push_cast;rfl),?_,rfl,trivial⟩,SubM.refl _ _⟩
   rw [hst]
   rfl
  ·rw [if_neg (by omega)] at hst
   refine gGw ?_
   refine⟨i+1,by omega,by omega,⟨congrArg (fun x=>some (Value.int .i64 x)) (by push_cast;rfl),?_,rfl,trivial⟩,SubM.refl _ _⟩
   rw [hst,Int.add_zero]
   rfl
 ·have hil:i=l.length:=by omega
  subst hil
  rw [List.take_length]
  refine gGw ?_
  exact fin1 rfl rfl (fun w' hm=>⟨rfl,hm.fr⟩)
theorem zo5 (l:List Int) (A:Option Addr) (c:Nat) (w:World) (hb:IntsIn .i64 w A l) (hl:LenL l) :
  Ctr Tryz.prog 267 [.slice A l.length c] [] (fun e m'=>∃ B d,e=.returned (.slice (some ⟨B,0,none⟩) l.length d)∧m'=[UR (some ⟨B,0,none⟩) d l.length (ze6 l)]) w:=by
 obtain ⟨hx,hlen⟩:=hl
 refine enter (cx:=CXS 35 [] w (Foot [])) [(0,.slice A l.length c)] zaa Tryz.func267 rfl rfl rfl rfl (MemOk.nil w _) ?_
 have h1:=fun m=>IntsIn.ints (cx:=CXS 35 [] w (Foot [])) (m:=m) hb zao
 refine gGw ?_
 refine zc6 zaa rfl rfl rfl rfl rfl (by omega) (by show 8*_≤_;omega) (by omega) (fun lB=>?_)
 refine gGw ?_
 refine lp zaa (γ:=Nat) (fun k=>k≤15) (fun k=>[(5,.int .i64 ((k:Int)+1)),(4,.int .u64 ((cdN l k).1:Nat)),(3,.slice (some ⟨lB,0,none⟩) l.length l.length),(0,.slice A l.length c)])
  (fun k=>[UR (some ⟨lB,0,none⟩) l.length l.length (cdN l k).2]) (fun k=>15-k) 0 (Nat.zero_le _) ⟨rfl,rfl,rfl,rfl,trivial⟩ ?_ ?_
 ·show SubM _ _ [.row (some ⟨lB,0,none⟩) l.length l.length 32 1 ((List.replicate l.length (0:Int)).map (.int .u64))]
  rw [List.map_replicate]
  exact SubM.sl
 rintro k hk
 dsimp only
 have hcb:=zk4 hlen k hk
 have hcl:=znG l k
 refine gGw ?_
 refine br_d (fun hlt=>?_) (fun hge=>?_)
 ·have hck:=zk4 hlen (k+1) (by omega)
  have eK:cdN l (k+1)=cdI l ((k+1:Nat):Int) (2*(cdN l k).1,(cdN l k).2) l.length:=rfl
  generalize cdN l k=st at hcb hcl eK ⊢
  obtain ⟨s1,s2⟩:=st
  simp only at hcb hcl eK ⊢
  refine gGw ?_
  refine lp zaa (γ:=Nat) (fun i=>i≤l.length) (fun i=>[(6,.int .i64 (i:Int)),(5,.int .i64 ((k:Int)+1)),(4,.int .u64 ((cdI l ((k+1:Nat):Int) (2*s1,s2) i).1:Nat)),(3,.slice (some ⟨lB,0,none⟩) l.length l.length),(0,.slice A l.length c)])
   (fun i=>[UR (some ⟨lB,0,none⟩) l.length l.length (cdI l ((k+1:Nat):Int) (2*s1,s2) i).2]) (fun i=>l.length-i) 0 (Nat.zero_le _) ⟨rfl,rfl,congrArg (fun x=>some (Value.int .u64 x)) (by show 2*(s1:Int)=((2*s1:Nat):Int);push_cast;rfl),rfl,rfl,trivial⟩ SubM.sl ?_
  rintro i hi
  have hib:=zsz l ((k+1:Nat):Int) (2*s1,s2) 100000000 (fun x hx=>by have:=hcb.2 x hx;omega) (by simp only;omega) i hi
  have hil:=zk8 l ((k+1:Nat):Int) (2*s1,s2) i
  have eI:cdI l ((k+1:Nat):Int) (2*s1,s2) (i+1)=if l.getD i 0=((k+1:Nat):Int) then ((cdI l ((k+1:Nat):Int) (2*s1,s2) i).1+1,(cdI l ((k+1:Nat):Int) (2*s1,s2) i).2.set i ((cdI l ((k+1:Nat):Int) (2*s1,s2) i).1:Nat)) else cdI l ((k+1:Nat):Int) (2*s1,s2) i:=rfl
  dsimp only
  obtain ⟨Q,hQ⟩:∃ Q,Q=cdI l ((k+1:Nat):Int) (2*s1,s2) i:=⟨_,rfl⟩
  rw [← hQ] at hib hil eI ⊢
  obtain ⟨q1,q2⟩:=Q
  simp only at hib hil eI ⊢
  refine gGw ?_
  refine br_d (fun hlt2=>?_) (fun hge2=>?_)
  ·have hlt':i<l.length:=by omega
   have hpl:Pl A:=(h1 []).plain (by omega)
   have hbd:=hx _ (zbF hlt')
   refine gGw ?_
   refine And.intro ⟨by omega,by omega,hpl⟩ ?_
   conv=>whnf
   refine zaj ((h1 _).ld zaa rfl rfl (j:=i) (by omega)) ?_
   refine gGw ?_
   refine br_d (fun he=>?_) (fun he=>?_)
   ·rw [if_pos (by push_cast;exact he)] at eI
    refine gGw ?_
    refine And.intro ⟨by omega,by omega,Pl.mk _ _⟩ ?_
    refine gGw ?_
    refine zaz (off:=i) (xs':=(q2.set i (q1:Nat)).map (.int .u64)) zaa rfl (by repeat constructor) rfl rfl (by show i+1≤l.length*1;omega) Nat.one_pos setU ?_
    refine gGw ?_
    refine⟨i+1,by omega,by omega,⟨congrArg (fun x=>some (Value.int .i64 x)) (by push_cast;rfl),rfl,?_,rfl,rfl,trivial⟩,?_⟩
    ·rw [eI];exact congrArg (fun x=>some (Value.int .u64 x)) (by push_cast;rfl)
    ·rw [eI];exact SubM.sl
   ·rw [if_neg (by push_cast;exact he)] at eI
    refine gGw ?_
    refine⟨i+1,by omega,by omega,⟨congrArg (fun x=>some (Value.int .i64 x)) (by push_cast;rfl),rfl,?_,rfl,rfl,trivial⟩,?_⟩
    ·rw [eI];rfl
    ·rw [eI];exact SubM.sl
  ·have ei:i=l.length:=by omega
   subst ei
   rw [← eK] at hQ
   refine gGw ?_
   refine⟨k+1,by omega,by omega,⟨congrArg (fun x=>some (Value.int .i64 x)) (by push_cast;rfl),?_,rfl,rfl,trivial⟩,?_⟩
   ·rw [← hQ];rfl
   ·rw [← hQ];exact SubM.sl
 ·have ek:k=15:=by omega
  subst ek
  refine gGw ?_
  exact fin1 rfl rfl (fun w' hm=>⟨_,⟨lB,l.length,rfl,rfl⟩,hm⟩)
end Go.Proofs.YtlmgelmloddfgaaGreat
namespace Go.Proofs.YtlmgelmloddfgaaGreat
open Go Go.RowKit Eng
def TkR (R:Option (Nat × Nat)) (e:Ending) (m':Mem):Prop:=m'=[]∧((∃ i n,R=some (i,n)∧e=.returned (.tuple #[.int .i64 (i:Nat),.int .i64 (n:Nat),.int .i64 0])) ∨
 (R=none∧∃ z:Int,z≠0∧e=.returned (.tuple #[.int .i64 0,.int .i64 0,.int .i64 z])))
theorem zqk {l:List Int} (hl:l.length≤400) (i:Nat):0≤(ze6 l).getD i 0∧(ze6 l).getD i 0≤13107200:=by
 by_cases h:i<(ze6 l).length
 ·exact (zk4 hl 15 (by omega)).2 _ (zbF h)
 ·rw [List.getD_eq_getElem?_getD,List.getElem?_eq_none (by omega)];decide
attribute [local irreducible] Br Rn RnU Cl RdG CpG Ld Rd Lp Dr Oth Cut fin Fits Eng.Enters Md NA
set_option maxHeartbeats 1000000 in
theorem zvZ (l:List Int) (K:List UInt8) (A B:Option Addr) (c d nl nk:Nat) (w:World) (hnl:l.length=nl) (hnk:K.length=nk) (hb:IntsIn .i64 w A l) (hbk:BytsIn w B K) (hl:LenL l) (hk:nk≤15) (hK:BitsL K) :
  Ctr Tryz.prog 261 [.slice A nl c,.slice B nk d] [] (TkR (rTk l (ze6 l) K nk 1 0)) w:=by
 subst hnl hnk
 refine enter (cx:=CXS 84 [] w (Foot [])) [(0,.slice A l.length c),(1,.slice B K.length d)] zaa Tryz.func261 rfl rfl rfl rfl (MemOk.nil w _) ?_
 have h1:=fun m=>IntsIn.ints (cx:=CXS 84 [] w (Foot [])) (m:=m) hb zao
 have h2:=fun m=>BytsIn.byts (cx:=CXS 84 [] w (Foot [])) (m:=m) hbk zao
 have hlen:=hl.2
 generalize hR:rTk l (ze6 l) K K.length 1 0=R
 refine gGw ?_
 refine⟨zjY,zac (m1:=[]) .nil (fun w' hm'=>zo5 l A c w' ((h1 []).in_ hm') hl) ?_⟩
 rintro e m' ⟨cB,cd,rfl,rfl⟩
 have hcl:(ze6 l).length=l.length:=znG l 15
 have hcg:=zqk hlen
 generalize ze6 l=cs at hR hcl hcg ⊢
 refine gGw ?_
 refine lp zaa (γ:=Nat × Nat) (fun q=>q.1≤K.length∧q.2<2 ^ q.1∧rTk l cs K (K.length-q.1) (q.1+1) q.2=R) (fun q=>[(9,.int .i64 ((q.1:Int)+1)),(8,.int .u64 (q.2:Nat)),(7,.slice (some ⟨cB,0,none⟩) l.length cd),(0,.slice A l.length c),(1,.slice B K.length d)])
  (fun _=>[UR (some ⟨cB,0,none⟩) cd l.length cs]) (fun q=>K.length-q.1) (0,0) ⟨Nat.zero_le _,by show 0<2 ^ 0;decide,hR⟩ ⟨rfl,rfl,rfl,rfl,rfl,trivial⟩ SubM.sl ?_
 clear hR
 rintro ⟨k,x⟩ ⟨hkk,hx,hR⟩
 simp only at hkk hx hR
 dsimp only
 have hp15:2 ^ k≤2 ^ 15:=Nat.pow_le_pow_right (by omega) (by omega)
 have hp:(2:Nat) ^ 15=32768:=by decide
 refine gGw ?_
 by_cases hlt:k<K.length
 ·refine br_t (by simp only [Bool.and_eq_true,decide_eq_true_eq];omega) ?_
  obtain ⟨f,hf⟩:∃ f,K.length-k=f+1:=⟨K.length-k-1,by omega⟩
  rw [hf,rTk] at hR
  have hpl:Pl B:=(h2 []).plain (by omega)
  have hb1:=zoK hK k
  have hx2:2*x+(K.getD k 0).toNat<2 ^ (k+1):=by rw [Nat.pow_succ];omega
  have e1:(k:Int)+1-1=(k:Int):=by omega
  rw [show k+1-1=k by omega] at hR
  refine gGw ?_
  rw [e1]
  refine And.intro ⟨by omega,by omega,hpl⟩ ?_
  conv=>whnf
  refine zaj ((h2 _).ld zaa rfl rfl (j:=k) (by omega)) ?_
  refine gGw ?_
  obtain ⟨y,hy⟩:∃ y,y=2*x+(K.getD k 0).toNat:=⟨_,rfl⟩
  have ey:2*(x:Int)+((K.getD k 0).toNat:Int)=(y:Int):=by omega
  rw [← hy] at hR hx2
  rw [ey]
  obtain ⟨S,hS⟩:∃ S,S=rIn l cs ((k+1:Nat):Int) y l.length 0:=⟨_,rfl⟩
  rw [← hS] at hR
  refine lp zaa (γ:=Nat) (fun i=>i≤l.length∧rIn l cs ((k+1:Nat):Int) y (l.length-i) i=S) (fun i=>[(10,.int .i64 (i:Int)),(9,.int .i64 ((k:Int)+1)),(8,.int .u64 (y:Nat)),(7,.slice (some ⟨cB,0,none⟩) l.length cd),(0,.slice A l.length c),(1,.slice B K.length d)])
   (fun _=>[UR (some ⟨cB,0,none⟩) cd l.length cs]) (fun i=>l.length-i) 0 ⟨Nat.zero_le _,hS.symm⟩ ⟨rfl,rfl,rfl,rfl,rfl,rfl,trivial⟩ SubM.sl ?_
  clear hS
  rintro i ⟨hi,hS⟩
  dsimp only
  refine gGw ?_
  refine br_d (fun hlt2=>?_) (fun hge2=>?_)
  ·obtain ⟨g,hg⟩:∃ g,l.length-i=g+1:=⟨l.length-i-1,by omega⟩
   rw [hg,rIn] at hS
   have hpA:Pl A:=(h1 []).plain (by omega)
   refine gGw ?_
   refine And.intro ⟨by omega,by omega,hpA⟩ ?_
   conv=>whnf
   refine zaj ((h1 _).ld zaa rfl rfl (j:=i) (by omega)) ?_
   refine gGw ?_
   refine And.intro (fun _=>⟨by omega,by omega,Pl.mk _ _⟩) ?_
   refine gGw ?_
   refine⟨.int .u64 (cs.getD i 0),ldg (fun _=>ldR (j:=i) zaa (by repeat constructor) rfl rfl (zvj (by omega))),?_⟩
   refine gGw ?_
   by_cases hyes:l.getD i 0=((k+1:Nat):Int)∧cs.getD i 0=(y:Int)
   ·rw [if_pos hyes] at hS
    subst hS
    refine br_t (by rw [decide_eq_true (show l.getD i 0=(k:Int)+1 by have:=hyes.1;push_cast at this;exact this),decide_eq_true hyes.2];rfl) ?_
    refine gGw ?_
    exact fin3 rfl rfl rfl rfl (fun w' hm=>⟨_,⟨rfl,.inl ⟨i,k+1,hR.symm,by push_cast;rfl⟩⟩,hm.sublist (List.nil_sublist _)⟩)
   ·rw [if_neg hyes] at hS
    refine br_f (by simp only [Bool.and_eq_false_iff,decide_eq_false_iff_not];by_cases h:l.getD i 0=(k:Int)+1;exact .inr (fun h2=>hyes ⟨by push_cast;exact h,h2⟩);exact .inl h) ?_
    refine gGw ?_
    exact⟨i+1,⟨by omega,by rw [show l.length-(i+1)=g by omega];exact hS⟩,by omega,⟨congrArg (fun x=>some (Value.int .i64 x)) (by push_cast;rfl),rfl,rfl,rfl,rfl,rfl,trivial⟩,SubM.sl⟩
  ·have ei:i=l.length:=by omega
   rw [ei,Nat.sub_self] at hS
   rw [rIn] at hS
   subst hS
   refine gGw ?_
   exact⟨(k+1,y),⟨by show k+1≤K.length;omega,hx2,by show rTk l cs K (K.length-(k+1)) (k+1+1) y=R;rw [show K.length-(k+1)=f by omega];exact hR⟩,by show K.length-(k+1)<K.length-k;omega,⟨congrArg (fun x=>some (Value.int .i64 x)) (by push_cast;rfl),rfl,rfl,rfl,rfl,trivial⟩,SubM.sl⟩
 ·have ek:k=K.length:=by omega
  refine br_f (by rw [decide_eq_false (show ¬ (k:Int)+1≤K.length by omega)];rfl) ?_
  rw [ek,Nat.sub_self,rTk] at hR
  subst hR
  refine gGw ?_
  refine lp zaa (γ:=Nat) (fun i=>i≤l.length) (fun i=>[(11,.int .i64 (i:Int)),(8,.int .u64 (x:Nat)),(7,.slice (some ⟨cB,0,none⟩) l.length cd),(0,.slice A l.length c),(1,.slice B K.length d)])
   (fun _=>[UR (some ⟨cB,0,none⟩) cd l.length cs]) (fun i=>l.length-i) 0 (Nat.zero_le _) ⟨rfl,rfl,rfl,rfl,rfl,trivial⟩ SubM.sl ?_
  rintro i hi
  dsimp only
  refine gGw ?_
  refine br_d (fun hlt2=>?_) (fun hge2=>?_)
  ·have hpA:Pl A:=(h1 []).plain (by omega)
   have hlg:=hl.get i
   conv=>whnf
   refine zar zaa mixed (by kernel_rfl) rfl ?_;conv=>whnf
   refine gG0 ?_
   refine And.intro ⟨by omega,by omega,hpA⟩ ?_
   refine gGw ?_
   refine⟨.int .i64 (l.getD i 0),Ld.g ((h1 _).ld zaa rfl rfl (j:=i) (by omega)),?_⟩
   refine And.intro (fun _=>⟨by omega,by omega,Pl.mk _ _⟩) ?_
   refine gGw ?_
   refine⟨.int .u64 (cs.getD i 0),ldg (fun _=>ldR (j:=i) zaa (by repeat constructor) rfl rfl (zvj (by omega))),?_⟩
   refine gGw ?_
   refine And.intro (fun _=>⟨by omega,by omega,hpA⟩) ?_
   refine gGw ?_
   refine⟨.int .i64 (l.getD i 0),ldg (fun _=>(h1 _).ld zaa rfl rfl (j:=i) (by omega)),?_⟩
   refine And.intro (fun h=>zaf (by have h:=of_decide_eq_true h;omega)) ?_
   refine gGw ?_
   refine And.intro (fun h=>by have h:=of_decide_eq_true h;refine⟨by omega,?_⟩;show l.getD i 0-K.length≤64;omega) ?_
   refine gGw ?_
   rcases Bool.eq_false_or_eq_true (decide ((K.length:Int)<l.getD i 0)&&decide (cs.getD i 0/2 ^ (l.getD i 0-(K.length:Int)).toNat=(x:Int))) with hq|hq
   ·refine br_t hq ?_
    refine gGw ?_
    exact fin3 rfl rfl rfl rfl (fun w' hm=>⟨_,⟨rfl,.inr ⟨rfl,120,by decide,rfl⟩⟩,hm.sublist (List.nil_sublist _)⟩)
   ·refine br_f hq ?_
    refine gGw ?_
    exact⟨i+1,by omega,by omega,⟨congrArg (fun x=>some (Value.int .i64 x)) (by push_cast;rfl),rfl,rfl,rfl,rfl,trivial⟩,SubM.sl⟩
  ·refine gGw ?_
   exact fin3 rfl rfl rfl rfl (fun w' hm=>⟨_,⟨rfl,.inr ⟨rfl,131,by decide,rfl⟩⟩,hm.sublist (List.nil_sublist _)⟩)
end Go.Proofs.YtlmgelmloddfgaaGreat
namespace Go.Proofs.YtlmgelmloddfgaaGreat
open Go Go.RowKit Eng
def widA (j:Nat):Nat:=if j<8 then 0 else (j-4)/4
def firA:Nat→Int
 | 0=>3
 | j+1=>firA j+2 ^ widA j
def widD (j:Nat):Nat:=if j<4 then 0 else j/2-1
def firD:Nat→Int
 | 0=>1
 | j+1=>firD j+2 ^ widD j
theorem zsf:∀ j,j<28→firA j=lFir.getD j 0∧((widA j:Nat):Int)=(lWid 28).getD j 0:=by decide
theorem zsd:∀ j,j<30→firD j=dFir.getD j 0∧((widD j:Nat):Int)=(dWid 30).getD j 0:=by decide
theorem zsg:∀ j,j<29→0≤firA j∧firA j≤1000:=by decide
theorem zse:∀ j,j<31→0≤firD j∧firD j≤100000:=by decide
theorem zqG:∀ j,j<29→widA j≤6:=by decide
theorem zvY:∀ j,j<31→widD j≤14:=by decide
theorem zog {n:Nat} (h:n≤14):IntKind.i64.wrap (1*2 ^ n)=2 ^ n∧(0:Int)<2 ^ n∧(2:Int) ^ n≤16384:=by
 have h1:(2:Nat) ^ n≤2 ^ 14:=Nat.pow_le_pow_right (by omega) h
 have h2:0<(2:Nat) ^ n:=Nat.two_pow_pos n
 have h3:(2:Nat) ^ 14=16384:=by decide
 have e:(2:Int) ^ n=((2 ^ n:Nat):Int):=by push_cast;rfl
 rw [Int.one_mul,e]
 exact⟨IntWalk.i64_in _ (by omega),by omega,by omega⟩
attribute [local irreducible] Br Rn RnU Cl RdG CpG Ld Rd Lp Dr Oth Cut fin Fits Eng.Enters Md NA
theorem zhG:Eng.Enters Tryz.prog 268:=zab fun _ _=>by kernel_rfl
theorem zhK:Eng.Enters Tryz.prog 269:=zab fun _ _=>by kernel_rfl
theorem zjW:Eng.Enters Tryz.prog 262:=zab fun _ _=>by kernel_rfl
theorem zjX:Eng.Enters Tryz.prog 263:=zab fun _ _=>by kernel_rfl
theorem zeB:Eng.Enters Tryz.prog 247:=zab fun _ _=>by kernel_rfl
theorem znS (j:Nat) (w:World) (hj:j≤28):Calls Tryz.prog 268 #[.int .i64 (257+(j:Int))] w fun e w'=>e=.returned (.int .i64 (widA j:Nat))∧Fr (fun _=>False) w w':=by
 refine enter (cx:=CX 8 [] w) [(0,.int .i64 (257+(j:Int)))] zaa Tryz.func268 rfl rfl rfl rfl (MemOk.nil w _) ?_
 refine gGw ?_
 refine br_d (fun h=>?_) (fun h=>?_)
 ·refine gGw ?_
  refine fin1 rfl rfl (fun w' hm=>⟨?_,hm.fr⟩)
  rw [widA,if_pos (by omega)];rfl
 ·have e1:(257+(j:Int)-261).tdiv 4=((widA j:Nat):Int):=by
   rw [widA,if_neg (by omega),Int.tdiv_eq_ediv_of_nonneg (by omega)];omega
  have e2:IntKind.i64.wrap ((257+(j:Int)-261).tdiv 4)=((widA j:Nat):Int):=by
   rw [e1]
   have:=zqG j (by omega)
   exact IntWalk.i64_in _ (by omega)
  refine gGw ?_
  exact fin1 rfl rfl (fun w' hm=>⟨by rw [e2],hm.fr⟩)
theorem znU (j:Nat) (w:World) (hj:j≤29):Calls Tryz.prog 269 #[.int .i64 (j:Int)] w fun e w'=>e=.returned (.int .i64 (widD j:Nat))∧Fr (fun _=>False) w w':=by
 refine enter (cx:=CX 8 [] w) [(0,.int .i64 (j:Int))] zaa Tryz.func269 rfl rfl rfl rfl (MemOk.nil w _) ?_
 refine gGw ?_
 refine br_d (fun h=>?_) (fun h=>?_)
 ·refine gGw ?_
  refine fin1 rfl rfl (fun w' hm=>⟨?_,hm.fr⟩)
  rw [widD,if_pos (by omega)];rfl
 ·have e1:(j:Int).tdiv 2=((j/2:Nat):Int):=by rw [Int.tdiv_eq_ediv_of_nonneg (by omega)];rfl
  have e2:IntKind.i64.wrap ((j:Int).tdiv 2)=((j/2:Nat):Int):=by rw [e1];exact IntWalk.i64_in _ (by omega)
  refine gGw ?_
  rw [e2]
  refine gGw ?_
  refine fin1 rfl rfl (fun w' hm=>⟨?_,hm.fr⟩)
  rw [widD,if_neg (by omega)]
  exact congrArg (fun x=>Ending.returned (.int .i64 x)) (by omega)
theorem zo3 (x:Int) (w:World) (hx:257≤x∧x≤285):Calls Tryz.prog 262 #[.int .i64 x] w fun e w'=>e=.returned (.tuple #[.int .i64 (lFir.getD (x-257).toNat 0),.int .i64 ((lWid 28).getD (x-257).toNat 0)])∧Fr (fun _=>False) w w':=by
 obtain ⟨j,rfl⟩:∃ j:Nat,x=257+(j:Int):=⟨(x-257).toNat,by omega⟩
 have ej:(257+(j:Int)-257).toNat=j:=by omega
 rw [ej]
 refine enter (cx:=CX 21 [] w) [(0,.int .i64 (257+(j:Int)))] zaa Tryz.func262 rfl rfl rfl rfl (MemOk.nil w _) ?_
 refine gGw ?_
 refine br_d (fun h=>?_) (fun h=>?_)
 ·have e28:j=28:=by omega
  subst e28
  refine gGw ?_
  exact fin2 rfl rfl rfl (fun w' hm=>⟨rfl,hm.fr⟩)
 ·have hj:j<28:=by omega
  refine gGw ?_
  refine lp zaa (γ:=Nat) (fun i=>i≤j) (fun i=>[(5,.int .i64 (257+(i:Int))),(4,.int .i64 (firA i)),(0,.int .i64 (257+(j:Int)))]) (fun _=>[]) (fun i=>j-i) 0 (Nat.zero_le _) ⟨rfl,rfl,rfl,trivial⟩ (SubM.refl _ _) ?_
  rintro i hi
  dsimp only
  have hfb:=zsg i (by omega)
  have hwb:=zqG i (by omega)
  have hpw:=zog (n:=widA i) (by omega)
  have hst:firA (i+1)=firA i+2 ^ widA i:=rfl
  refine gGw ?_
  refine br_d (fun hlt=>?_) (fun hge=>?_)
  ·refine gGw ?_
   refine⟨zhG,zae _ (fun w' _=>znS i w' (by omega)) ?_⟩
   refine gGw ?_
   refine And.intro ⟨by omega,by show ((widA i:Nat):Int)≤64;omega⟩ ?_
   refine gGw ?_
   rw [show IntKind.i64.wrap (1*2 ^ (((widA i:Nat):Int)).toNat)=2 ^ widA i from hpw.1,← hst]
   have hfb2:=zsg (i+1) (by omega)
   refine And.intro (zaf (by omega)) ?_
   refine gGw ?_
   exact⟨i+1,by omega,by omega,⟨congrArg (fun x=>some (Value.int .i64 x)) (by push_cast;omega),rfl,rfl,trivial⟩,SubM.refl _ _⟩
  ·have ei:i=j:=by omega
   subst ei
   refine gGw ?_
   refine⟨zhG,zae _ (fun w' _=>znS i w' (by omega)) ?_⟩
   refine gGw ?_
   refine fin2 rfl rfl rfl (fun w' hm=>⟨?_,hm.fr⟩)
   rw [← (zsf i hj).1,← (zsf i hj).2]
theorem zo4 (j:Nat) (w:World) (hj:j≤29):Calls Tryz.prog 263 #[.int .i64 (j:Int)] w fun e w'=>e=.returned (.tuple #[.int .i64 (dFir.getD j 0),.int .i64 ((dWid 30).getD j 0)])∧Fr (fun _=>False) w w':=by
 refine enter (cx:=CX 19 [] w) [(0,.int .i64 (j:Int))] zaa Tryz.func263 rfl rfl rfl rfl (MemOk.nil w _) ?_
 refine gGw ?_
 refine lp zaa (γ:=Nat) (fun i=>i≤j) (fun i=>[(5,.int .i64 (i:Int)),(4,.int .i64 (firD i)),(0,.int .i64 (j:Int))]) (fun _=>[]) (fun i=>j-i) 0 (Nat.zero_le _) ⟨rfl,rfl,rfl,trivial⟩ (SubM.refl _ _) ?_
 rintro i hi
 dsimp only
 have hfb:=zse i (by omega)
 have hwb:=zvY i (by omega)
 have hpw:=zog (n:=widD i) (by omega)
 have hst:firD (i+1)=firD i+2 ^ widD i:=rfl
 refine gGw ?_
 refine br_d (fun hlt=>?_) (fun hge=>?_)
 ·refine gGw ?_
  refine⟨zhK,zae _ (fun w' _=>znU i w' (by omega)) ?_⟩
  refine gGw ?_
  refine And.intro ⟨by omega,by show ((widD i:Nat):Int)≤64;omega⟩ ?_
  refine gGw ?_
  rw [show IntKind.i64.wrap (1*2 ^ (((widD i:Nat):Int)).toNat)=2 ^ widD i from hpw.1,← hst]
  have hfb2:=zse (i+1) (by omega)
  refine And.intro (zaf (by omega)) ?_
  refine gGw ?_
  exact⟨i+1,by omega,by omega,⟨congrArg (fun x=>some (Value.int .i64 x)) (by push_cast;omega),rfl,rfl,trivial⟩,SubM.refl _ _⟩
 ·have ei:i=j:=by omega
  subst ei
  refine gGw ?_
  refine⟨zhK,zae _ (fun w' _=>znU i w' (by omega)) ?_⟩
  refine gGw ?_
  refine fin2 rfl rfl rfl (fun w' hm=>⟨?_,hm.fr⟩)
  rw [← (zsd i (by omega)).1,← (zsd i (by omega)).2]
def cntL (l:List Int):Nat→Nat
 | 0=>0
 | i+1=>cntL l i+(if l.getD i 0=1 then 1 else 0)
theorem zsx (l:List Int):∀ i,cntL l i≤i
 | 0=>Nat.le_refl _
 | i+1=>by have:=zsx l i;rw [cntL];split<;>omega
theorem zxd (l:List Int):cntL l l.length=l.countP (fun x=>decide (x=1)):=by
 have h:∀ i,i≤l.length→cntL l i=(l.take i).countP (fun x=>decide (x=1)):=by
  intro i
  induction i with
  | zero=>intro _;rfl
  | succ i ih =>
   intro hi
   rw [cntL,ih (by omega),List.take_add_one,List.getElem?_eq_getElem (by omega),Option.toList,List.countP_append,List.getD_eq_getElem?_getD,List.getElem?_eq_getElem (by omega),Option.getD_some]
   by_cases h1:l[i]=1
   ·simp [h1]
   ·simp [h1]
 rw [h _ (Nat.le_refl _),List.take_length]
theorem zhL (l:List Int) (b:Bool) (A:Option Addr) (c nl:Nat) (w:World) (hnl:l.length=nl) (hb:IntsIn .i64 w A l) (hl:LenL l) :
  Calls Tryz.prog 247 #[.slice A nl c,.bool b] w fun e w'=>e=.returned (.bool (zfz l b))∧Fr (fun _=>False) w w':=by
 subst hnl
 refine enter (cx:=CX 37 [] w) [(0,.slice A l.length c),(1,.bool b)] zaa Tryz.func247 rfl rfl rfl rfl (MemOk.nil w _) ?_
 have h1:=fun m=>IntsIn.ints (cx:=CX 37 [] w) (m:=m) hb (fun _ h=>h)
 have hlen:=hl.2
 refine gGw ?_
 refine⟨ziV,zae _ (fun w' hm=>zmA l A c l.length w' rfl ((h1 _).in_ hm) hl) ?_⟩
 refine gGw ?_
 refine br_d (fun hw=>?_) (fun hw=>?_)
 ·refine gGw ?_
  refine fin1 rfl rfl (fun w' hm=>⟨?_,hm.fr⟩)
  rw [zfz,decide_eq_true hw,Bool.true_or]
 have hR:zfz l b=(!(l.any fun x=>decide (1<x))&&(decide (cntL l l.length=1)||(decide (cntL l l.length=0)&&b))):=by
  rw [zfz,decide_eq_false hw,Bool.false_or,zxd]
 rw [hR]
 clear hR
 refine gGw ?_
 refine lp zaa (γ:=Nat) (fun i=>i≤l.length∧∀ x∈l.take i,x≤1) (fun i=>[(6,.int .i64 (i:Int)),(5,.int .i64 (cntL l i:Nat)),(4,.bool false),(0,.slice A l.length c),(1,.bool b)]) (fun _=>[]) (fun i=>l.length-i) 0 ⟨Nat.zero_le _,by intro x hx;rw [List.take_zero] at hx;cases hx⟩ ⟨rfl,rfl,rfl,rfl,rfl,trivial⟩ (SubM.refl _ _) ?_
 rintro i ⟨hi,hle⟩
 dsimp only
 have hcl:=zsx l i
 have hst:cntL l (i+1)=cntL l i+(if l.getD i 0=1 then 1 else 0):=rfl
 refine gGw ?_
 refine br_d (fun hlt=>?_) (fun hge=>?_)
 ·have hlt':i<l.length:=by omega
  have hpl:Pl A:=(h1 []).plain (by omega)
  have htk:l.take (i+1)=l.take i++[l.getD i 0]:=by
   rw [List.take_add_one,List.getElem?_eq_getElem hlt',List.getD_eq_getElem?_getD,List.getElem?_eq_getElem hlt',Option.getD_some];rfl
  refine gGw ?_
  refine And.intro ⟨by omega,by omega,hpl⟩ ?_
  conv=>whnf
  refine zaj ((h1 _).ld zaa rfl rfl (j:=i) (by omega)) ?_
  refine gGw ?_
  refine br_d (fun h1'=>?_) (fun h0=>?_)
  ·rw [if_pos h1'] at hst
   refine gGw ?_
   refine And.intro ⟨by omega,by omega,hpl⟩ ?_
   conv=>whnf
   refine zaj ((h1 _).ld zaa rfl rfl (j:=i) (by omega)) ?_
   refine gGw ?_
   refine br_f (decide_eq_false (by omega)) ?_
   refine gGw ?_
   refine⟨i+1,⟨by omega,?_⟩,by omega,⟨congrArg (fun x=>some (Value.int .i64 x)) (by push_cast;rfl),?_,rfl,rfl,rfl,trivial⟩,SubM.refl _ _⟩
   ·intro x hx
    rw [htk] at hx
    rcases List.mem_append.1 hx with hx|hx
    ·exact hle x hx
    ·rw [List.mem_singleton.1 hx];omega
   ·rw [hst];rfl
  ·rw [if_neg h0] at hst
   refine gGw ?_
   refine And.intro ⟨by omega,by omega,hpl⟩ ?_
   conv=>whnf
   refine zaj ((h1 _).ld zaa rfl rfl (j:=i) (by omega)) ?_
   refine gGw ?_
   refine br_d (fun h2=>?_) (fun h2=>?_)
   ·have hany:(l.any fun x=>decide (1<x))=true:=List.any_eq_true.2 ⟨_,zbF hlt',decide_eq_true h2⟩
    rw [hany]
    refine gGw ?_
    exact fin1 rfl rfl (fun w' hm=>⟨rfl,hm.fr⟩)
   ·refine gGw ?_
    refine⟨i+1,⟨by omega,?_⟩,by omega,⟨congrArg (fun x=>some (Value.int .i64 x)) (by push_cast;rfl),?_,rfl,rfl,rfl,trivial⟩,SubM.refl _ _⟩
    ·intro x hx
     rw [htk] at hx
     rcases List.mem_append.1 hx with hx|hx
     ·exact hle x hx
     ·rw [List.mem_singleton.1 hx];omega
    ·rw [hst];rfl
 ·have ei:i=l.length:=by omega
  subst ei
  have hany:(l.any fun x=>decide (1<x))=false:=by
   rw [List.any_eq_false]
   intro x hx
   rw [List.take_length] at hle
   have:=hle x hx
   simp only [decide_eq_true_eq]
   omega
  rw [hany]
  generalize cntL l l.length=n
  refine gGw ?_
  refine br_d (fun hn1=>?_) (fun hn1=>?_)
  ·rw [decide_eq_true (show n=1 by omega)]
   refine gGw ?_
   exact fin1 rfl rfl (fun w' hm=>⟨rfl,hm.fr⟩)
  ·rw [decide_eq_false (show ¬ n=1 by omega)]
   refine gGw ?_
   refine br_d (fun hn0=>?_) (fun hn0=>?_)
   ·rw [decide_eq_true (show n=0 by omega)]
    refine gGw ?_
    exact fin1 rfl rfl (fun w' hm=>⟨by cases b<;>rfl,hm.fr⟩)
   ·rw [decide_eq_false (show ¬ n=0 by omega)]
    refine gGw ?_
    exact fin1 rfl rfl (fun w' hm=>⟨by cases b<;>rfl,hm.fr⟩)
end Go.Proofs.YtlmgelmloddfgaaGreat
namespace Go.Proofs.YtlmgelmloddfgaaGreat
open Go Go.RowKit Eng
structure Sd where
 S:Nat
 most:Int
 d:Bd
structure Sq where
 A:Option Addr
 c:Nat
 o:List UInt8
 a:Nat
abbrev SdM (s:Sd) (q:Sq):Mem:=.blk s.S (.cells [.pointer (some ⟨s.d.B,0,none⟩),.slice q.A q.o.length q.c,.int .i64 s.most].toArray 318)::BR8 q.A q.c q.o.length q.o::BdM s.d q.a
structure SqOk (s:Sd) (q:Sq):Prop where
 m8:s.d.L.length%8=0
 d:s.d.Ok
 a:q.a≤s.d.L.length
 o:(q.o.length:Int)≤s.most
 m:s.most≤1048576
def symV (a:Nat):Option (Nat × Nat)→Except Int (Int × Nat)
 | some (i,n)=>.ok ((i:Nat),a+n)
 | none=>.error 1
theorem zwy (l:List Int) (L:List UInt8) (a:Nat):zhm l L a=symV a (rTk l (ze6 l) ((L.drop a).take 15) ((L.drop a).take 15).length 1 0):=by
 unfold zhm symV;rfl
def SymR (l:List Int) (s:Sd) (q:Sq) (e:Ending) (m':Mem):Prop:=(∃ (x:Int) (a':Nat),zhm l s.d.L q.a=.ok (x,a')∧e=.returned (.tuple #[.int .i64 x,.int .i64 0])∧m'=SdM s { q with a:=a' }) ∨
 (zhm l s.d.L q.a=.error 1∧∃ z:Int,z≠0∧e=.returned (.tuple #[.int .i64 0,.int .i64 z])∧m'=SdM s q)
attribute [local irreducible] Br Rn RnU Cl RdG CpG Ld Rd Lp Dr Oth Cut fin Fits Eng.Enters Md NA
theorem zfO:Eng.Enters Tryz.prog 245:=zab fun _ _=>by kernel_rfl
set_option maxHeartbeats 1000000 in
theorem zj8 (s:Sd) (q:Sq) (l:List Int) (A:Option Addr) (c nl:Nat) (w:World) (hnl:l.length=nl) (hok:SqOk s q) (hl:LenL l) (hs:Stb (SdM s q) w (fun w=>IntsIn .i64 w A l)) (hm:MemOk w (Foot (SdM s q)) (SdM s q) w) :
  Ctr Tryz.prog 245 [.pointer (some ⟨s.S,0,none⟩),.slice A nl c] (SdM s q) (SymR l s q) w:=by
 subst hnl
 obtain ⟨hm8,⟨hL,hdl,hc⟩,ha,ho,hmo⟩:=hok
 have hA:=zge (hm.ok (BR8 s.d.A s.d.c s.d.L.length s.d.L) (by simp))
 have hlen:=hl.2
 refine enter (cx:=CXS 64 [] w (Foot (SdM s q))) [(0,.pointer (some ⟨s.S,0,none⟩)),(1,.slice A l.length c)] zaa Tryz.func245 rfl rfl rfl rfl hm ?_
 have h1:=fun m=>Stb.ints (cx:=CXS 64 [] w (Foot (SdM s q))) (m:=m) hs rfl
 obtain ⟨K,hK⟩:∃ K,K=(s.d.L.drop q.a).take 15:=⟨_,rfl⟩
 have hKl:K.length=min 15 (s.d.L.length-q.a):=by rw [hK,List.length_take,List.length_drop]
 have hKb:BitsL K:=by rw [hK];exact (hL.drop _).take _
 obtain ⟨R,hR⟩:∃ R,R=rTk l (ze6 l) K K.length 1 0:=⟨_,rfl⟩
 have hS:zhm l s.d.L q.a=symV q.a R:=by rw [hR,hK];exact zwy l s.d.L q.a
 have hbd:∀ i n,R=some (i,n)→n≤K.length:=fun i n h=>by
  have:=zry K.length 1 0 i n (hR.symm.trans h);omega
 obtain ⟨e,he,he1⟩:∃ e:Nat,(if (s.d.L.length:Int)<(q.a:Int)+15 then (s.d.L.length:Int) else (q.a:Int)+15)=(e:Int)∧(q.a≤e∧e≤s.d.L.length∧e-q.a=K.length):=by
  split
  ·exact⟨s.d.L.length,by omega,by omega⟩
  ·exact⟨q.a+15,by omega,by omega⟩
 have hsub:∀ w',MemOk w (Foot (SdM s q)) (SdM s q) w'→BytsIn w' (cutA s.d.A s.d.c q.a 1) K:=fun w' hm'=>by
  have h:=BytsIn.sub (zaB (hm'.ok (BR8 s.d.A s.d.c s.d.L.length s.d.L) (by simp))) s.d.c q.a (e-q.a) (by omega) hc
  rw [he1.2.2,hKl] at h
  have e2:(s.d.L.drop q.a).take (min 15 (s.d.L.length-q.a))=K:=by
   rw [hK,List.take_eq_take_iff,List.length_drop];omega
  rwa [e2] at h
 unfold SymR
 rw [hS]
 clear hS hK
 conv=>whnf
 refine zcd (γ:=Int × Nat × Int) (Tr.hs [0,1,2,3,4,5,6,7,8,9,10,11,12,13,14,15,16,17,18,19,20,21,22,23,24,25,26,27,28,29] (.sq [30,31,32,33] (.hs [34,35,36,37,38,39,40] .done))) (SdM s q) zaa mixed (by kernel_rfl) rfl (fun g=>(∃ i:Nat,R=some (i,g.2.1)∧g.1=(i:Int)∧g.2.2=0)∨(R=none∧g.1=0∧g.2.1=0∧g.2.2≠0))
  (fun g=>[(8,.int .i64 g.2.2),(7,.int .i64 (g.2.1:Nat)),(6,.int .i64 g.1),(0,.pointer (some ⟨s.S,0,none⟩))]) (fun _=>SdM s q) SubM.sl ?_ ?_
 ·refine gGw ?_
  refine gGs ?_
  refine gGw ?_
  refine gGs ?_
  refine gGw ?_
  rw [he]
  refine And.intro ⟨by omega,by omega,by omega,hA⟩ ?_
  refine gGw ?_
  refine gGs ?_
  refine gGw ?_
  refine⟨zo1,zac (m1:=[]) .nil (fun w' hm'=>zvZ l K _ _ _ _ _ _ w' rfl (by omega) ((h1 _).in_ hm') (hsub w' hm') hl (by omega) hKb) ?_⟩
  have e9:((e:Nat):Int).toNat-((q.a:Nat):Int).toNat=K.length:=he1.2.2
  rw [e9,← hR]
  rintro e' m' ⟨rfl,⟨i,n,hi,rfl⟩|⟨hn,z,hz,rfl⟩⟩
  ·conv=>whnf
   refine gGs ?_
   refine gGw ?_
   exact⟨((i:Nat),n,0),.inl ⟨i,hi,rfl,rfl⟩,⟨rfl,rfl,rfl,rfl,trivial⟩,SubM.sl⟩
  ·conv=>whnf
   refine gGs ?_
   refine gGw ?_
   exact⟨(0,0,z),.inr ⟨hn,rfl,rfl,hz⟩,⟨rfl,rfl,rfl,rfl,trivial⟩,SubM.sl⟩
 ·intro g hg
  have hn:g.2.1≤K.length:=by
   rcases hg with ⟨i,h,_⟩|⟨_,_,h,_⟩
   ·exact hbd i _ h
   ·omega
  conv=>whnf
  refine zcH 15 zaa mixed (by kernel_rfl) rfl rfl ?_
  refine gGw ?_
  refine fin2 rfl rfl rfl (fun w' hm=>⟨SdM s { q with a:=q.a+g.2.1 },?_,hm.sl⟩)
  rcases hg with ⟨i,h,h1,h2⟩|⟨h,h1,h2,hz⟩
  ·rw [h,h1,h2]
   exact .inl ⟨_,_,rfl,rfl,rfl⟩
  ·rw [h,h1,h2]
   exact .inr ⟨rfl,_,hz,rfl,rfl⟩
end Go.Proofs.YtlmgelmloddfgaaGreat
namespace Go.Proofs.YtlmgelmloddfgaaGreat
open Go Go.RowKit Eng
def KR (s:Sd) (q:Sq) (V:Except Int (Nat × List UInt8)) (e:Ending) (m':Mem):Prop:=(∃ q':Sq,V=.ok (q'.a,q'.o)∧SqOk s q'∧q.a≤q'.a∧e=.returned (.int .i64 0)∧m'=SdM s q') ∨
 ((∃ y,V=.error y)∧∃ (z:Int) (q':Sq),z≠0∧SqOk s q'∧e=.returned (.int .i64 z)∧m'=SdM s q')
theorem SqOk.at_ {s:Sd} {q:Sq} (h:SqOk s q) {a:Nat} (ha:a≤s.d.L.length):SqOk s { q with a:=a }:=⟨h.m8,h.d,ha,h.o,h.m⟩
theorem KR.no {s:Sd} {q q':Sq} {V:Except Int (Nat × List UInt8)} {y z:Int} (hV:V=.error y) (hz:z≠0) (hq:SqOk s q'):KR s q V (.returned (.int .i64 z)) (SdM s q'):=.inr ⟨⟨y,hV⟩,z,q',hz,hq,rfl,rfl⟩
theorem KR.ok {s:Sd} {q q':Sq} {V:Except Int (Nat × List UInt8)} (hV:V=.ok (q'.a,q'.o)) (hq:SqOk s q') (ha:q.a≤q'.a):KR s q V (.returned (.int .i64 0)) (SdM s q'):=.inl ⟨q',hV,hq,ha,rfl,rfl⟩
theorem zjN:∀ (f:Nat) (L:List UInt8),L.length≤8*f→(zdI f L).length=(L.length+7)/8
 | 0,L,h=>by
  have:L=[]:=List.eq_nil_of_length_eq_zero (by omega)
  subst this;rfl
 | f+1,L,h=>by
  rw [zdI]
  by_cases hL:L=[]
  ·rw [if_pos hL,hL];rfl
  ·have h1:L.length≠0:=fun h=>hL (List.eq_nil_of_length_eq_zero h)
   rw [if_neg hL,List.length_cons,zjN f _ (by rw [List.length_drop];omega),List.length_drop]
   omega
theorem zur (d:Bd) (a n:Nat) (h:a+8*n≤d.L.length):(rawX d a n).length=n:=by
 have h1:((d.L.drop a).take (8*n)).length=8*n:=by rw [List.length_take,List.length_drop];omega
 show (zdI (8*n) _).length=n
 rw [zjN _ _ (by omega),h1];omega
theorem zoa {cx:Cx} {m m':Mem} {ty:Nat} {A B:Option Addr} {cap c n k:Nat} {acc ys:List UInt8} {K:Value→Mem→Prop} (ht:TabOk cx.P cx.tab) (hT:cx.tab=tab) (hu:Out m (BR8 A cap n acc) m') (hh:Has m (BR8 B c k ys)) (hk:ys.length=k) (hb:n+k≤30000000000)
  (hK:∀ A' cap',K (.slice A' (n+k) cap') (BR8 A' cap' (n+k) (acc++ys)::m')):Rn cx m (Builtin.append_ #[22,22] ty #[.slice A n cap,.slice B k c]) K:=by
 have h1:=zgL (cx:=cx) (m:=m) (m':=m') (t:=22) (e:=5) (ty:=ty) (A:=A) (cap:=cap) (n:=n) (xs:=(zah acc).map (.int .u8)) (p:=B) (c:=c) (k:=.u8) (ys:=zah ys) (K:=K) ht (by rw [hT];rfl) rfl (by rw [hT];rfl) rfl rfl rfl hu
  (fun w hm=>rowI (hm.ok _ hh.mem)) (by rw [zag];omega) (fun A' cap'=>by
   have:=hK A' cap'
   rw [zag,hk,← zdi]
   exact this)
 rw [zag,hk] at h1
 exact h1
attribute [local irreducible] Br Rn RnU Cl RdG CpG Ld Rd Lp Dr Oth Cut fin Fits Eng.Enters Md NA
theorem ziY:Eng.Enters Tryz.prog 226:=zab fun _ _=>by kernel_rfl
set_option maxHeartbeats 1000000 in
theorem zmK (s:Sd) (q:Sq) (w:World) (hok:SqOk s q) (hm:MemOk w (Foot (SdM s q)) (SdM s q) w) :
  Ctr Tryz.prog 226 [.pointer (some ⟨s.S,0,none⟩)] (SdM s q) (KR s q (zj5 s.d.L s.most q.a q.o)) w:=by
 have hok0:=hok
 obtain ⟨hm8,hd,ha,ho,hmo⟩:=hok
 have hd0:=hd
 obtain ⟨hL,hdl,hc⟩:=hd
 refine enter (cx:=CXS 73 [] w (Foot (SdM s q))) [(0,.pointer (some ⟨s.S,0,none⟩))] zaa Tryz.func226 rfl rfl rfl rfl hm ?_
 have hal:zb8 q.a≤s.d.L.length∧q.a≤zb8 q.a∧zb8 q.a%8=0:=by unfold zb8;omega
 generalize hV:zj5 s.d.L s.most q.a q.o=V
 unfold zj5 at hV
 refine gGw ?_
 refine⟨zj0,zac (m1:=BdM s.d q.a) (by repeat constructor) (fun w' hm'=>zo7 s.d q.a w' hd0 ha hm'.part) ?_⟩
 rintro e m' ⟨rfl,rfl⟩
 generalize zb8 q.a=b at hal hV ⊢
 refine gGw ?_
 refine⟨zaR,zac (m1:=BdM s.d b) (by repeat constructor) (fun w' hm'=>zbx s.d b 16 w' hd0 (by omega) (by omega) hm'.part) ?_⟩
 rintro e m' (⟨hk,rfl,rfl⟩|⟨hk,rfl,rfl⟩)
 rotate_left
 ·rw [zbR hk] at hV
  refine gGw ?_
  refine br_n (br_f rfl ?_)
  refine gGw ?_
  exact fin1 rfl rfl (fun w' hm=>⟨SdM s { q with a:=b },.no hV.symm (by decide) (hok0.at_ (by omega)),hm.sl⟩)
 rw [zbQ hk] at hV
 simp only at hV
 have hn:=zeV hL b 16
 generalize numU ((s.d.L.drop b).take 16)=n at hn hV ⊢
 refine gGw ?_
 refine br_n (br_t rfl ?_)
 refine gGw ?_
 refine⟨zaR,zac (m1:=BdM s.d (b+16)) (by repeat constructor) (fun w' hm'=>zbx s.d (b+16) 16 w' hd0 (by omega) (by omega) hm'.part) ?_⟩
 rintro e m' (⟨hk2,rfl,rfl⟩|⟨hk2,rfl,rfl⟩)
 rotate_left
 ·rw [zbR hk2] at hV
  refine gGw ?_
  refine br_n (br_f rfl ?_)
  refine gGw ?_
  exact fin1 rfl rfl (fun w' hm=>⟨SdM s { q with a:=b+16 },.no hV.symm (by decide) (hok0.at_ (by omega)),hm.sl⟩)
 rw [zbQ hk2] at hV
 simp only at hV
 have hn2:=zeV hL (b+16) 16
 generalize numU ((s.d.L.drop (b+16)).take 16)=m at hn2 hV ⊢
 refine gGw ?_
 refine br_n (br_t rfl ?_)
 refine gGw ?_
 refine br_n (br_d (fun heq=>?_) (fun hne=>?_))
 rotate_left
 ·rw [if_neg (by omega)] at hV
  refine gGw ?_
  exact fin1 rfl rfl (fun w' hm=>⟨SdM s { q with a:=b+16+16 },.no hV.symm (by decide) (hok0.at_ (by omega)),hm.sl⟩)
 rw [if_pos (by omega)] at hV
 conv=>whnf
 refine zar zaa mixed (by kernel_rfl) rfl ?_;conv=>whnf
 refine gG0 ?_
 refine br_d (fun hlg=>?_) (fun hfit=>?_)
 ·rw [if_pos hlg] at hV
  refine gGw ?_
  exact fin1 rfl rfl (fun w' hm=>⟨SdM s { q with a:=b+16+16 },.no hV.symm (by decide) (hok0.at_ (by omega)),hm.sl⟩)
 rw [if_neg hfit] at hV
 refine gGw ?_
 refine⟨zmB,zac (m1:=BdM s.d (b+16+16)) (by repeat constructor) (fun w' hm'=>zsY s.d (b+16+16) n w' hd0 (by omega) (by omega) (by omega) hm'.part) ?_⟩
 rintro e m' (⟨hk3,B,c,rfl,rfl⟩|⟨hk3,rfl,rfl⟩)
 rotate_left
 ·rw [if_neg hk3] at hV
  conv=>whnf
  (iterate 3 ((first|refine stp (by (repeat constructor);first|done|fail) ?_|refine stn (by (repeat constructor);first|done|fail) ?_|refine sto (by (repeat constructor);first|done|fail) (by first|omega|(simp only;omega)|decide) ?_|(refine zaO (And.intro (fun hg=>?_) ?_);focus (simp only [Bool.and_eq_true,Bool.or_eq_true,Bool.not_eq_true',decide_eq_true_eq,decide_eq_false_iff_not] at hg;first|omega|exact zaf (by omega)|exact zak (by omega)|assumption))|refine .mk fun Ap capp=>?_|refine⟨?_,trivial⟩|intro _);conv=>whnf))
  refine zfS (SubM.row0 (SubM.refl _ _) 5 1) ?_
  refine zoa (acc:=q.o) (ys:=[]) zaa rfl (by repeat constructor) (B:=none) (c:=0) (by repeat constructor) rfl (by omega) (fun B3 d3=>?_)
  rw [List.append_nil]
  refine gGw ?_
  exact fin1 rfl rfl (fun w' hm=>⟨SdM s ⟨B3,d3,q.o,b+16+16⟩,.no (q':=⟨B3,d3,q.o,b+16+16⟩) hV.symm (by decide) ⟨hm8,hd0,by show b+16+16≤_;omega,ho,hmo⟩,hm.sl⟩)
 rw [if_pos hk3] at hV
 have hrl:=zur s.d (b+16+16) n (by omega)
 change Except.ok (_,q.o++rawX s.d (b+16+16) n)=V at hV
 generalize rawX s.d (b+16+16) n=Z at hrl hV ⊢
 conv=>whnf
 (iterate 3 ((first|refine stp (by (repeat constructor);first|done|fail) ?_|refine stn (by (repeat constructor);first|done|fail) ?_|refine sto (by (repeat constructor);first|done|fail) (by first|omega|(simp only;omega)|decide) ?_|(refine zaO (And.intro (fun hg=>?_) ?_);focus (simp only [Bool.and_eq_true,Bool.or_eq_true,Bool.not_eq_true',decide_eq_true_eq,decide_eq_false_iff_not] at hg;first|omega|exact zaf (by omega)|exact zak (by omega)|assumption))|refine .mk fun Ap capp=>?_|refine⟨?_,trivial⟩|intro _);conv=>whnf))
 refine zoa (acc:=q.o) (ys:=Z) zaa rfl (by repeat constructor) (by repeat constructor) rfl (by omega) (fun B3 d3=>?_)
 have hz:q.o.length+Z.length=(q.o++Z).length:=(List.length_append).symm
 rw [hz]
 refine gGw ?_
 exact fin1 rfl rfl (fun w' hm=>⟨SdM s ⟨B3,d3,q.o++Z,b+16+16+8*n⟩,.ok (q':=⟨B3,d3,q.o++Z,b+16+16+8*n⟩) hV.symm ⟨hm8,hd0,by show b+16+16+8*n≤_;omega,by show ((q.o++Z).length:Int)≤_;omega,hmo⟩ (by show q.a≤b+16+16+8*n;omega),hm.sl⟩)
end Go.Proofs.YtlmgelmloddfgaaGreat
namespace Go.Proofs.YtlmgelmloddfgaaGreat
open Go Go.RowKit Eng
theorem zrc (s:Sd) (A:Option Addr) (c:Nat) (o:List UInt8) (v:UInt8) (a:Nat):SdM s ⟨A,c,o++[v],a⟩=.blk s.S (.cells [.pointer (some ⟨s.d.B,0,none⟩),.slice A (o.length+1) c,.int .i64 s.most].toArray 318)::.row A c (o.length+1) 5 1 ((zah o).map (Value.int .u8)++[.int .u8 (v.toNat:Int)])::BdM s.d a:=by
 unfold SdM BR8
 rw [zwv (v:=v) rfl]
 simp only [List.length_append,List.length_singleton]
theorem zin {L:List UInt8} (h:BitsL L) (a:Nat) {n k:Nat} (hk:n≤k):numU ((L.drop a).take n)<2 ^ k:=Nat.lt_of_lt_of_le (zeV h a n) (Nat.pow_le_pow_right (by omega) hk)
attribute [local irreducible] Br Rn RnU Cl RdG CpG Ld Rd Lp Dr Oth Cut fin Fits Eng.Enters Md NA
theorem zkb:Eng.Enters Tryz.prog 246:=zab fun _ _=>by kernel_rfl
set_option maxHeartbeats 1000000 in
theorem zpq (s:Sd) (q:Sq) (x:Int) (D:List Int) (A:Option Addr) (c nl:Nat) (w:World) (hnl:D.length=nl) (hok:SqOk s q) (hD:LenL D) (hx:257≤x∧x≤285) (hs:Stb (SdM s q) w (fun w=>IntsIn .i64 w A D)) (hm:MemOk w (Foot (SdM s q)) (SdM s q) w) :
  Ctr Tryz.prog 246 [.pointer (some ⟨s.S,0,none⟩),.int .i64 x,.slice A nl c] (SdM s q) (KR s q (zjy s.d.L D s.most x q.a q.o)) w:=by
 have hok0:=hok
 obtain ⟨hm8,hd,ha,ho,hmo⟩:=hok
 have hd0:=hd
 obtain ⟨hL,hdl,hc⟩:=hd
 refine enter (cx:=CXS 120 [] w (Foot (SdM s q))) [(0,.pointer (some ⟨s.S,0,none⟩)),(1,.int .i64 x),(2,.slice A nl c)] zaa Tryz.func246 rfl rfl rfl rfl hm ?_
 generalize hV:zjy s.d.L D s.most x q.a q.o=V
 unfold zjy at hV
 refine gGw ?_
 refine⟨zjW,zae _ (fun w' hm'=>zo3 x w' hx) ?_⟩
 have hk:=zxS (x-257).toNat (by omega)
 have hk2:=zxR (x-257).toNat (by omega)
 generalize lFir.getD (x-257).toNat 0=fi at hk hV ⊢
 obtain ⟨wd,hwd⟩:=zfA hk2.1
 rw [hwd] at hV hk2
 rw [hwd]
 rw [Int.toNat_natCast] at hV
 have hb1:=zin hL q.a (n:=wd) (k:=5) (by omega)
 refine gGw ?_
 refine⟨zaR,zac (m1:=BdM s.d q.a) (by repeat constructor) (fun w' hm'=>zbx s.d q.a wd w' hd0 ha (by omega) hm'.part) ?_⟩
 rintro e m' (⟨h1,rfl,rfl⟩|⟨h1,rfl,rfl⟩)
 rotate_left
 ·rw [zbR h1] at hV
  refine gGw ?_
  refine br_n (br_f rfl ?_)
  refine gGw ?_
  exact fin1 rfl rfl (fun w' hm=>⟨SdM s q,.no hV.symm (by decide) hok0,hm.sl⟩)
 rw [zbQ h1] at hV
 simp only at hV
 generalize numU ((s.d.L.drop q.a).take wd)=more at hV hb1 ⊢
 refine gGw ?_
 refine br_n (br_t rfl ?_)
 refine gGw ?_
 by_cases hsp:x=284∧more=31
 ·rw [if_pos hsp] at hV
  refine br_t (by rw [decide_eq_true hsp.1,decide_eq_true (show (more:Int)=31 by omega)];rfl) ?_
  refine gGw ?_
  exact fin1 rfl rfl (fun w' hm=>⟨SdM s { q with a:=q.a+wd },.no hV.symm (by decide) (hok0.at_ h1),hm.sl⟩)
 rw [if_neg hsp] at hV
 refine br_f (by rw [← Bool.decide_and];exact decide_eq_false (fun h=>hsp ⟨h.1,by omega⟩)) ?_
 refine gGw ?_
 refine⟨zfO,zac (m1:=SdM s { q with a:=q.a+wd }) (by repeat constructor) (fun w' hm'=>zj8 s { q with a:=q.a+wd } D A c nl w' hnl (hok0.at_ h1) hD (stb (r:=[]) hm' (fun w'' hm''=>hs w'' hm''.fr)) hm'.part) ?_⟩
 rintro e m' (⟨y,a2,hy,rfl,rfl⟩|⟨hy,z,hz,rfl,rfl⟩)
 rotate_left
 ·rw [show zhm D s.d.L (q.a+wd)=.error 1 from hy] at hV
  refine gGw ?_
  refine br_n (br_f (decide_eq_false hz) ?_)
  refine gGw ?_
  exact fin1 rfl rfl (fun w' hm=>⟨SdM s { q with a:=q.a+wd },.no hV.symm hz (hok0.at_ h1),hm.sl⟩)
 change zhm D s.d.L (q.a+wd)=_ at hy
 have hsy:=zkj h1 hy
 rw [hy] at hV
 simp only at hV
 refine gGw ?_
 refine br_n (br_t rfl ?_)
 refine gGw ?_
 refine br_d (fun hy29=>?_) (fun hy29=>?_)
 ·rw [if_pos hy29] at hV
  refine gGw ?_
  exact fin1 rfl rfl (fun w' hm=>⟨SdM s { q with a:=a2 },.no hV.symm (by decide) (hok0.at_ hsy.2.1),hm.sl⟩)
 rw [if_neg hy29] at hV
 obtain ⟨j,rfl⟩:=zfA hsy.2.2.1
 rw [Int.toNat_natCast] at hV
 refine gGw ?_
 refine⟨zjX,zae _ (fun w' hm'=>zo4 j w' (by omega)) ?_⟩
 have hj:=zyb j (by omega)
 have hj2:=zya j (by omega)
 generalize dFir.getD j 0=di at hj hV ⊢
 obtain ⟨we,hwe⟩:=zfA hj2.1
 rw [hwe] at hV hj2
 rw [hwe]
 rw [Int.toNat_natCast] at hV
 have hb2:=zin hL a2 (n:=we) (k:=13) (by omega)
 refine gGw ?_
 refine⟨zaR,zac (m1:=BdM s.d a2) (by repeat constructor) (fun w' hm'=>zbx s.d a2 we w' hd0 hsy.2.1 (by omega) hm'.part) ?_⟩
 rintro e m' (⟨h3,rfl,rfl⟩|⟨h3,rfl,rfl⟩)
 rotate_left
 ·rw [zbR h3] at hV
  refine gGw ?_
  refine br_n (br_f rfl ?_)
  refine gGw ?_
  exact fin1 rfl rfl (fun w' hm=>⟨SdM s { q with a:=a2 },.no hV.symm (by decide) (hok0.at_ hsy.2.1),hm.sl⟩)
 rw [zbQ h3] at hV
 simp only at hV
 generalize numU ((s.d.L.drop a2).take we)=m2 at hV hb2 ⊢
 refine gGw ?_
 refine br_n (br_t rfl ?_)
 refine gGw ?_
 refine br_d (fun hfar=>?_) (fun hfar=>?_)
 ·rw [if_pos hfar] at hV
  refine gGw ?_
  exact fin1 rfl rfl (fun w' hm=>⟨SdM s { q with a:=a2+we },.no hV.symm (by decide) (hok0.at_ h3),hm.sl⟩)
 rw [if_neg hfar] at hV
 replace hfar:¬ (q.o.length:Int)<di+(m2:Int):=fun h=>hfar h
 conv=>whnf
 refine zar zaa mixed (by kernel_rfl) rfl ?_;conv=>whnf
 refine gG0 ?_
 refine br_d (fun hlg=>?_) (fun hlg=>?_)
 ·rw [if_pos hlg] at hV
  refine gGw ?_
  exact fin1 rfl rfl (fun w' hm=>⟨SdM s { q with a:=a2+we },.no hV.symm (by decide) (hok0.at_ h3),hm.sl⟩)
 rw [if_neg hlg] at hV
 replace hlg:¬ s.most-(q.o.length:Int)<fi+(more:Int):=fun h=>hlg h
 refine gGw ?_
 obtain ⟨fa,hfa⟩:=zfA (x:=di+(m2:Int)) (by omega)
 obtain ⟨n,hn⟩:=zfA (x:=fi+(more:Int)) (by omega)
 rw [hfa,hn] at hV
 rw [hfa,hn]
 rw [Int.toNat_natCast,Int.toNat_natCast] at hV
 have hfl:1≤fa∧fa≤q.o.length:=by omega
 have hnl2:(q.o.length:Int)+n≤s.most:=by omega
 have hat:q.a≤a2+we:=by omega
 clear hsp hfar hlg hfa hn hwd hwe
 generalize a2+we=a3 at h3 hat hV ⊢
 refine lp zaa (γ:=Nat × Option Addr × Nat) (fun g=>g.1≤n) (fun g=>[(14,.int .i64 (g.1:Int)),(11,.int .i64 (n:Int)),(13,.int .i64 (fa:Int)),(0,.pointer (some ⟨s.S,0,none⟩))]) (fun g=>SdM s ⟨g.2.1,g.2.2,cpyX fa q.o g.1,a3⟩) (fun g=>n-g.1) (0,q.A,q.c) (by simp) ⟨rfl,rfl,rfl,rfl,trivial⟩ SubM.sl ?_
 rintro ⟨i,gA,gc⟩ hi
 simp only at hi
 dsimp only
 refine gGw ?_
 refine br_d (fun hlt=>?_) (fun hge=>?_)
 ·have hcl:=zk2 fa q.o i
  have eS:cpyX fa q.o (i+1)=cpyX fa q.o i++[(cpyX fa q.o i).getD ((cpyX fa q.o i).length-fa) 0]:=rfl
  have ej:((cpyX fa q.o i).length:Int)-(fa:Int)=(((cpyX fa q.o i).length-fa:Nat):Int):=by omega
  generalize cpyX fa q.o i=p at hcl eS ej ⊢
  have hjs:=zdn p (p.length-fa) (by omega)
  conv=>whnf
  refine dr_w (fun ⟨w9,hw9⟩=>?_)
  have hpl:Pl gA:=zc0 (hw9.ok (BR8 gA gc p.length p) (by simp)) (by omega)
  refine ziM (γ:=Option Addr × Nat) 22 (Tr.hs [0,1,2,3,4,5,6,7,8,9,10,11,12,13,14,15,16] (.sq [17,18,19,20,21,22] .done)) [.blk s.S (.cells [.pointer (some ⟨s.d.B,0,none⟩),.slice gA p.length gc,.int .i64 s.most].toArray 318)] zaa mixed (by kernel_rfl) rfl
   (fun _=>True) (fun _=>[(14,.int .i64 (i:Int)),(11,.int .i64 (n:Int)),(13,.int .i64 (fa:Int)),(0,.pointer (some ⟨s.S,0,none⟩))]) (fun g=>SdM s ⟨g.1,g.2,cpyX fa q.o (i+1),a3⟩) SubM.sl ?_ ?_
  ·refine gGw ?_
   rw [ej]
   refine And.intro ⟨by omega,by omega,hpl⟩ ?_
   conv=>whnf
   refine⟨?_,trivial⟩
   refine zaj (ldR zaa (by repeat constructor) rfl rfl hjs) ?_
   refine gGt ?_;(repeat ((first|refine .mk fun Ap capp=>?_|intro _);(conv=>whnf);refine gGS ?_))
   refine⟨(Ap,capp),trivial,⟨rfl,rfl,rfl,rfl,trivial⟩,?_⟩
   rw [eS,zrc]
   exact SubM.sl
  ·rintro ⟨hA,hc⟩ -
   refine gGw ?_
   exact⟨(i+1,hA,hc),by show i+1≤n;omega,by show n-(i+1)<n-i;omega,⟨congrArg (fun x=>some (Value.int .i64 x)) (by push_cast;rfl),rfl,rfl,rfl,trivial⟩,SubM.refl _ _⟩
 ·obtain rfl:i=n:=by omega
  have hcl:=zk2 fa q.o i
  refine gGw ?_
  exact fin1 rfl rfl (fun w' hm=>⟨SdM s ⟨gA,gc,cpyX fa q.o i,a3⟩,.ok (q':=⟨gA,gc,cpyX fa q.o i,a3⟩) hV.symm ⟨hm8,hd0,h3,by show ((cpyX fa q.o i).length:Int)≤_;omega,hmo⟩ hat,hm.sl⟩)
end Go.Proofs.YtlmgelmloddfgaaGreat
namespace Go.Proofs.YtlmgelmloddfgaaGreat
open Go Go.RowKit Eng
attribute [local irreducible] Br Rn RnU Cl RdG CpG Ld Rd Lp Dr Oth Cut fin Fits Eng.Enters Md NA
theorem zfv:Eng.Enters Tryz.prog 228:=zab fun _ _=>by kernel_rfl
set_option maxHeartbeats 1000000 in
theorem zhT (s:Sd) (q:Sq) (C D:List Int) (A B:Option Addr) (c d nc nd:Nat) (w:World) (hnc:C.length=nc) (hnd:D.length=nd) (hok:SqOk s q) (hC:LenL C) (hD:LenL D) (hsC:Stb (SdM s q) w (fun w=>IntsIn .i64 w A C)) (hsD:Stb (SdM s q) w (fun w=>IntsIn .i64 w B D)) (hm:MemOk w (Foot (SdM s q)) (SdM s q) w) :
  Ctr Tryz.prog 228 [.pointer (some ⟨s.S,0,none⟩),.slice A nc c,.slice B nd d] (SdM s q) (KR s q (zdP s.d.L C D s.most (zfY s.d.L) q.a q.o)) w:=by
 refine enter (cx:=CXS 52 [] w (Foot (SdM s q))) [(0,.pointer (some ⟨s.S,0,none⟩)),(1,.slice A nc c),(2,.slice B nd d)] zaa Tryz.func228 rfl rfl rfl rfl hm ?_
 generalize hV:zdP s.d.L C D s.most (zfY s.d.L) q.a q.o=V
 refine gGw ?_
 refine lp zaa (γ:=Sq × Nat) (fun g=>SqOk s g.1∧q.a≤g.1.a∧s.d.L.length+1≤g.2+g.1.a∧zdP s.d.L C D s.most g.2 g.1.a g.1.o=V) (fun _=>[(0,.pointer (some ⟨s.S,0,none⟩)),(1,.slice A nc c),(2,.slice B nd d)]) (fun g=>SdM s g.1) (fun g=>g.2) (q,zfY s.d.L) ⟨hok,Nat.le_refl _,by show s.d.L.length+1≤(s.d.L.length+1)+q.a;omega,hV⟩ ⟨rfl,rfl,rfl,trivial⟩ SubM.sl ?_
 clear hV
 rintro ⟨p,f⟩ ⟨hp,hqp,hf,hV⟩
 simp only at hp hqp hf hV
 dsimp only
 have hp0:=hp
 obtain ⟨hm8,hd,ha,ho,hmo⟩:=hp
 obtain ⟨f,rfl⟩:∃ f',f=f'+1:=⟨f-1,by omega⟩
 rw [zdP] at hV
 refine gGw ?_
 refine⟨zfO,zac (m1:=SdM s p) (by repeat constructor) (fun w' hm'=>zj8 s p C A c nc w' hnc hp0 hC (stb (r:=[]) hm' (fun w'' hm''=>hsC w'' hm''.fr)) hm'.part) ?_⟩
 rintro e m' (⟨x,a1,hx,rfl,rfl⟩|⟨hx,z,hz,rfl,rfl⟩)
 rotate_left
 ·rw [hx] at hV
  refine gGw ?_
  refine br_n (br_f (decide_eq_false hz) ?_)
  refine gGw ?_
  exact fin1 rfl rfl (fun w' hm=>⟨SdM s p,.no hV.symm hz hp0,hm.sl⟩)
 have hsy:=zkj ha hx
 rw [hx] at hV
 simp only at hV
 obtain ⟨p1,hq1⟩:∃ p1:Sq,p1={ p with a:=a1 }:=⟨_,rfl⟩
 have hp1:SqOk s p1:=hq1 ▸ hp0.at_ hsy.2.1
 have ea1:p1.a=a1:=by rw [hq1]
 have eo1:p1.o=p.o:=by rw [hq1]
 rw [← hq1]
 clear hq1
 rw [← eo1] at hV ho
 subst ea1
 refine gGw ?_
 refine br_n (br_t rfl ?_)
 refine gGw ?_
 refine br_d (fun h256=>?_) (fun h256=>?_)
 ·rw [if_pos h256] at hV
  refine gGw ?_
  exact fin1 rfl rfl (fun w' hm=>⟨SdM s p1,.ok (q':=p1) hV.symm hp1 (by omega),hm.sl⟩)
 rw [if_neg h256] at hV
 refine gGw ?_
 refine br_d (fun hlit=>?_) (fun hlit=>?_)
 ·rw [if_pos hlit] at hV
  conv=>whnf
  refine zar zaa mixed (by kernel_rfl) rfl ?_;conv=>whnf
  refine gG0 ?_
  refine br_d (fun hfull=>?_) (fun hfull=>?_)
  ·rw [if_pos hfull] at hV
   refine gGw ?_
   exact fin1 rfl rfl (fun w' hm=>⟨SdM s p1,.no hV.symm (by decide) hp1,hm.sl⟩)
  rw [if_neg hfull] at hV
  replace hfull:¬ s.most≤(p1.o.length:Int):=fun h=>hfull h
  obtain ⟨j,rfl⟩:=zfA hsy.2.2.1
  rw [Int.toNat_natCast] at hV
  refine gGw ?_;(repeat ((first|refine .mk fun Ap capp=>?_|intro _);(conv=>whnf);refine gG0 ?_))
  refine⟨(⟨Ap,capp,p1.o++[UInt8.ofNat j],p1.a⟩,f),⟨⟨hm8,hd,hsy.2.1,?_,hmo⟩,by show q.a≤p1.a;omega,by show s.d.L.length+1≤f+p1.a;omega,hV⟩,by show f<f+1;omega,⟨rfl,rfl,rfl,trivial⟩,?_⟩
  ·show ((p1.o++[UInt8.ofNat j]).length:Int)≤_
   rw [List.length_append,List.length_singleton];omega
  ·show SubM _ _ (SdM s ⟨Ap,capp,p1.o++[UInt8.ofNat j],p1.a⟩)
   rw [zrc,show ((UInt8.ofNat j).toNat:Int)=(j:Int) by rw [UInt8.toNat_ofNat'];omega]
   exact SubM.sl
 rw [if_neg hlit] at hV
 refine gGw ?_
 refine br_d (fun hbig=>?_) (fun hbig=>?_)
 ·rw [if_pos hbig] at hV
  refine gGw ?_
  exact fin1 rfl rfl (fun w' hm=>⟨SdM s p1,.no hV.symm (by decide) hp1,hm.sl⟩)
 rw [if_neg hbig] at hV
 refine gGw ?_
 refine⟨zkb,zac (m1:=SdM s p1) (by repeat constructor) (fun w' hm'=>zpq s p1 x D B d nd w' hnd hp1 hD (by omega) (stb (r:=[]) hm' (fun w'' hm''=>hsD w'' hm''.fr)) hm'.part) ?_⟩
 rintro e m' (⟨q',hV',hq',hqa,rfl,rfl⟩|⟨⟨y,hV'⟩,z,q',hz,hq',rfl,rfl⟩)
 rotate_left
 ·rw [show zjy s.d.L D s.most x p1.a p1.o=_ from hV'] at hV
  refine gGw ?_
  refine br_n (br_f (decide_eq_false hz) ?_)
  refine gGw ?_
  exact fin1 rfl rfl (fun w' hm=>⟨SdM s q',.no hV.symm hz hq',hm.sl⟩)
 rw [show zjy s.d.L D s.most x p1.a p1.o=_ from hV'] at hV
 replace hqa:p1.a≤q'.a:=hqa
 refine gGw ?_
 refine br_n (br_t rfl ?_)
 refine gGw ?_
 exact⟨(q',f),⟨hq',by show q.a≤q'.a;omega,by show s.d.L.length+1≤f+q'.a;omega,hV⟩,by show f<f+1;omega,⟨rfl,rfl,rfl,trivial⟩,SubM.sl⟩
end Go.Proofs.YtlmgelmloddfgaaGreat
namespace Go.Proofs.YtlmgelmloddfgaaGreat
open Go Go.RowKit Eng
def RowU (s:Sd) (q:Sq) (n:Nat) (V:DRes) (e:Ending) (m':Mem):Prop:=(∃ (q':Sq) (r:List Int) (A:Option Addr) (c:Nat),V=.ok (q'.a,r)∧q'.o=q.o∧SqOk s q'∧q.a≤q'.a∧r.length=n∧(∀ x∈r,0≤x∧x≤15)∧e=.returned (.tuple #[.slice A n c,.int .i64 0])∧m'=IR A c n r::SdM s q') ∨
 ((∃ y,V=.error y)∧∃ (z:Int) (q':Sq),z≠0∧SqOk s q'∧e=.returned (.tuple #[.slice none 0 0,.int .i64 z])∧m'=SdM s q')
theorem RowU.no {s:Sd} {q q':Sq} {n:Nat} {V:DRes} {y z:Int} (hV:V=.error y) (hz:z≠0) (hq:SqOk s q'):RowU s q n V (.returned (.tuple #[.slice none 0 0,.int .i64 z])) (SdM s q'):=.inr ⟨⟨y,hV⟩,z,q',hz,hq,rfl,rfl⟩
theorem zkH {A:Option Addr} {c n:Nat} {r:List Int} {v:Int}:IR A c n (r++[v])=.row A c n 3 1 (r.map (Value.int .i64)++[.int .i64 v]):=by
 unfold IR;rw [List.map_append];rfl
theorem zko {r:List Int} {v:Int} (i:Nat):r++List.replicate (i+1) v=(r++List.replicate i v)++[v]:=by
 rw [List.replicate_succ',List.append_assoc]
theorem zxV {w:World} {A:Option Addr} {c n:Nat} {l:List Int} (h:Res.ok w (IR A c n l)) (hn:0<l.length):Pl A:=by
 obtain ⟨b,rfl,_⟩:=zaV h (j:=0) (v:=.int .i64 (l.getD 0 0)) (by rw [List.getElem?_map,List.getD_eq_getElem?_getD,List.getElem?_eq_getElem hn];rfl)
 exact⟨b,0,rfl⟩
attribute [local irreducible] Br Rn RnU Cl RdG CpG Ld Rd Lp Dr Oth Cut fin Fits Eng.Enters Md NA
theorem zmL:Eng.Enters Tryz.prog 248:=zab fun _ _=>by kernel_rfl
set_option maxHeartbeats 2000000 in
theorem zt3 (s:Sd) (q:Sq) (C:List Int) (A:Option Addr) (c nl n:Nat) (w:World) (hnl:C.length=nl) (h19:nl=19) (hn:n≤400) (hok:SqOk s q) (hC:LenL C) (hsC:Stb (SdM s q) w (fun w=>IntsIn .i64 w A C)) (hm:MemOk w (Foot (SdM s q)) (SdM s q) w) :
  Ctr Tryz.prog 248 [.pointer (some ⟨s.S,0,none⟩),.slice A nl c,.int .i64 (n:Nat)] (SdM s q) (RowU s q n (rowX s.d.L C n (zfY s.d.L) q.a [])) w:=by
 refine enter (cx:=CXS 87 [] w (Foot (SdM s q))) [(0,.pointer (some ⟨s.S,0,none⟩)),(1,.slice A nl c),(2,.int .i64 (n:Nat))] zaa Tryz.func248 rfl rfl rfl rfl hm ?_
 generalize hV:rowX s.d.L C n (zfY s.d.L) q.a []=V
 refine gGw ?_
 refine lp_w zaa (γ:=Sq × Nat × List Int × Option Addr × Nat) (fun g=>SqOk s g.1∧g.1.o=q.o∧q.a≤g.1.a∧s.d.L.length+1≤g.2.1+g.1.a∧g.2.2.1.length≤n∧(∀ x∈g.2.2.1,0≤x∧x≤15)∧rowX s.d.L C n g.2.1 g.1.a g.2.2.1=V) (fun g=>[(8,.slice g.2.2.2.1 g.2.2.1.length g.2.2.2.2),(0,.pointer (some ⟨s.S,0,none⟩)),(1,.slice A nl c),(2,.int .i64 (n:Nat))]) (fun g=>IR g.2.2.2.1 g.2.2.2.2 g.2.2.1.length g.2.2.1::SdM s g.1) (fun g=>g.2.1) (q,zfY s.d.L,[],none,0) ⟨hok,rfl,Nat.le_refl _,by show s.d.L.length+1≤(s.d.L.length+1)+q.a;omega,Nat.zero_le _,(fun x hx=>by cases hx),hV⟩ ⟨rfl,rfl,rfl,rfl,trivial⟩ (SubM.row0 SubM.sl _ _) ?_
 clear hV
 rintro ⟨p,f,r,rA,rc⟩ ⟨hp,hpo,hqp,hf,hrn,hrx,hV⟩ ⟨w9,hw9⟩
 simp only at hp hpo hqp hf hV hrn hrx
 dsimp only
 have hpl:0<r.length→Pl rA:=fun h=>zxV (hw9.ok (IR rA rc r.length r) (List.mem_cons_self ..)) h
 have hp0:=hp
 obtain ⟨hm8,hd,ha,ho,hmo⟩:=hp
 have hd0:=hd
 obtain ⟨hL,hdl,hc⟩:=hd
 obtain ⟨f,rfl⟩:∃ f',f=f'+1:=⟨f-1,by omega⟩
 rw [rowX] at hV
 refine gGw ?_
 refine br_d (fun hlt=>?_) (fun hge=>?_)
 rotate_left
 ·rw [if_pos (by omega)] at hV
  have en:r.length=n:=by omega
  subst en
  refine gGw ?_
  exact fin2 rfl rfl rfl (fun w' hm=>⟨IR rA rc r.length r::SdM s p,.inl ⟨p,r,rA,rc,hV.symm,hpo,hp0,hqp,rfl,hrx,rfl,rfl⟩,hm.sl⟩)
 rw [if_neg (by omega)] at hV
 refine gGw ?_
 refine⟨zfO,zac (m1:=SdM s p) (by repeat constructor) (fun w' hm'=>zj8 s p C A c nl w' hnl hp0 hC (stb (r:=[IR rA rc r.length r]) hm' (fun w'' hm''=>hsC w'' hm''.fr)) hm'.part) ?_⟩
 rintro e m' (⟨x,a1,hx,rfl,rfl⟩|⟨hx,z,hz,rfl,rfl⟩)
 rotate_left
 ·rw [hx] at hV
  refine gGw ?_
  refine br_n (br_f (decide_eq_false hz) ?_)
  refine gGw ?_
  exact fin2 rfl rfl rfl (fun w' hm=>⟨SdM s p,.no hV.symm hz hp0,hm.sl⟩)
 have hsy:=zkj ha hx
 rw [hx] at hV
 simp only at hV
 obtain ⟨p1,hq1⟩:∃ p1:Sq,p1={ p with a:=a1 }:=⟨_,rfl⟩
 have hp1:SqOk s p1:=hq1 ▸ hp0.at_ hsy.2.1
 have ea1:p1.a=a1:=by rw [hq1]
 have eo1:p1.o=p.o:=by rw [hq1]
 rw [← hq1]
 clear hq1
 rw [← eo1] at ho
 subst ea1
 refine gGw ?_
 refine br_n (br_t rfl ?_)
 refine gGw ?_
 refine br_d (fun hlit=>?_) (fun hlit=>?_)
 ·rw [if_pos hlit] at hV
  refine gGw ?_;(repeat ((first|refine .mk fun Ap capp=>?_|intro _);(conv=>whnf);refine gG0 ?_))
  refine⟨(p1,f,r++[x],Ap,capp),⟨hp1,eo1.trans hpo,by show q.a≤p1.a;omega,by show s.d.L.length+1≤f+p1.a;omega,by show (r++[x]).length≤n;rw [List.length_append,List.length_singleton];omega,?_,hV⟩,by show f<f+1;omega,⟨by show some (Value.slice Ap (r.length+1) capp)=some (Value.slice Ap (r++[x]).length capp);rw [List.length_append,List.length_singleton],rfl,rfl,rfl,trivial⟩,?_⟩
  ·intro y hy
   rcases List.mem_append.1 hy with hy|hy
   ·exact hrx y hy
   ·rw [List.mem_singleton.1 hy];omega
  ·show SubM _ _ (IR Ap capp (r++[x]).length (r++[x])::SdM s p1)
   rw [zkH,List.length_append,List.length_singleton]
   exact SubM.sl
 rw [if_neg hlit] at hV
 have hx3:x=16∨x=17∨x=18:=by omega
 rcases hx3 with hx3|hx3|hx3
 ·subst hx3
  simp only [show ((16:Int)=16)=True from eq_self _,show ((17:Int)=16)=False by decide,show ((17:Int)=17)=True from eq_self _,show ((18:Int)=16)=False by decide,show ((18:Int)=17)=False by decide,show ((18:Int)=18)=True from eq_self _,show ((16:Int)=18)=False by decide,show ((17:Int)=18)=False by decide,if_true,if_false,true_and,false_and] at hV
  refine gGw ?_;(repeat ((first|refine .mk fun Ap capp=>?_|intro _);(conv=>whnf);refine gG0 ?_))
  refine And.intro ⟨by decide,by decide,Pl.mk _ _⟩ ?_
  refine gGw ?_
  refine⟨zaR,zac (m1:=BdM s.d p1.a) (by repeat constructor) (fun w' hm'=>zbx s.d p1.a 2 w' hd0 hp1.a (by omega) hm'.part) ?_⟩
  rintro e m' (⟨h3,rfl,rfl⟩|⟨h3,rfl,rfl⟩)
  rotate_left
  ·rw [zbR h3] at hV
   refine gGw ?_
   refine br_n (br_f rfl ?_)
   refine gGw ?_
   exact fin2 rfl rfl rfl (fun w' hm=>⟨SdM s p1,.no hV.symm (by decide) hp1,hm.sl⟩)
  rw [zbQ h3] at hV
  simp only at hV
  have hb2:=zin hL p1.a (n:=2) (k:=7) (by omega)
  generalize numU ((s.d.L.drop p1.a).take 2)=m2 at hV hb2 ⊢
  obtain ⟨p2,hq2⟩:∃ p2:Sq,p2={ p1 with a:=p1.a+2 }:=⟨_,rfl⟩
  have hp2:SqOk s p2:=hq2 ▸ hp1.at_ h3
  have ea2:p2.a=p1.a+2:=by rw [hq2]
  have eo2:p2.o=p1.o:=by rw [hq2]
  rw [← ea2] at hV
  have hlp:s.d.L.length+1≤f+p2.a∧q.a≤p2.a:=by omega
  refine gGw ?_
  refine br_n (br_t rfl ?_)
  refine gGw ?_
  refine br_f rfl ?_
  refine gGw ?_
  refine br_t rfl ?_
  refine gGw ?_
  refine br_d (fun h0=>?_) (fun h0=>?_)
  ·rw [if_pos (by omega)] at hV
   refine gGw ?_
   exact fin2 rfl rfl rfl (fun w' hm=>⟨SdM s p2,.no hV.symm (by decide) hp2,hq2 ▸ hm.sl⟩)
  rw [if_neg (by omega)] at hV
  refine gGw ?_
  have ej:(r.length:Int)-1=((r.length-1:Nat):Int):=by omega
  rw [ej]
  refine And.intro ⟨by omega,by omega,hpl (by omega)⟩ ?_
  conv=>whnf
  refine zaj (ldR zaa (by repeat constructor) rfl rfl (zbm (xs:=r) (j:=r.length-1) (by omega))) ?_
  have hvb:=hrx (r.getD (r.length-1) 0) (zbF (by omega))
  generalize r.getD (r.length-1) 0=v at hV hvb ⊢
  refine gGw ?_
  refine br_d (fun hlg=>?_) (fun hlg=>?_)
  ·rw [if_pos (by omega)] at hV
   refine gGw ?_
   exact fin2 rfl rfl rfl (fun w' hm=>⟨SdM s p2,.no hV.symm (by decide) hp2,hq2 ▸ hm.sl⟩)
  rw [if_neg (by omega)] at hV
  refine gGw ?_
  obtain ⟨tm,htm⟩:∃ tm,tm=m2+3:=⟨_,rfl⟩
  rw [show (m2:Int)+3=(tm:Int) by omega]
  rw [← htm] at hV
  refine lp zaa (γ:=Nat × Option Addr × Nat) (fun g=>g.1≤tm) (fun g=>[(15,.int .i64 (g.1:Int)),(14,.int .i64 v),(13,.int .i64 (tm:Int)),(8,.slice g.2.1 (r.length+g.1) g.2.2),(0,.pointer (some ⟨s.S,0,none⟩)),(1,.slice A nl c),(2,.int .i64 (n:Nat))]) (fun g=>IR g.2.1 g.2.2 (r.length+g.1) (r++List.replicate g.1 v)::SdM s p2) (fun g=>tm-g.1) (0,rA,rc) (Nat.zero_le _) ⟨rfl,rfl,rfl,rfl,rfl,rfl,rfl,trivial⟩ (by show SubM _ _ (IR rA rc r.length (r++[])::SdM s p2);rw [List.append_nil,hq2];exact SubM.sl) ?_
  rintro ⟨i,gA,gc⟩ hi
  simp only at hi
  dsimp only
  have hrl:(r++List.replicate i (v:Int)).length=r.length+i:=by rw [List.length_append,List.length_replicate]
  have hsn:=zko (r:=r) (v:=(v:Int)) i
  have hall:∀ y∈r++List.replicate i (v:Int),0≤y∧y≤15:=fun y hy=>by
   rcases List.mem_append.1 hy with hy|hy
   ·exact hrx y hy
   ·rw [(List.mem_replicate.1 hy).2];exact hvb
  refine gGw ?_
  refine br_d (fun hit=>?_) (fun hit=>?_)
  ·generalize r++List.replicate i (v:Int)=r2 at hrl hsn hall ⊢
   refine gGw ?_;(repeat ((first|refine .mk fun Ap capp=>?_|intro _);(conv=>whnf);refine gG0 ?_))
   refine⟨(i+1,Ap,capp),by show i+1≤tm;omega,by show tm-(i+1)<tm-i;omega,⟨congrArg (fun x=>some (Value.int .i64 x)) (by push_cast;rfl),rfl,rfl,rfl,rfl,rfl,rfl,trivial⟩,?_⟩
   show SubM _ _ (IR Ap capp (r.length+(i+1)) (r++List.replicate (i+1) v)::SdM s p2)
   rw [hsn,zkH]
   exact SubM.sl
  ·have ei:i=tm:=by omega
   subst ei
   refine gGw ?_
   refine⟨(p2,f,r++List.replicate i v,gA,gc),⟨hp2,eo2.trans (eo1.trans hpo),hlp.2,hlp.1,by show (r++List.replicate i (v:Int)).length≤n;omega,hall,hV⟩,by show f<f+1;omega,⟨by show some (Value.slice gA (r.length+i) gc)=some (Value.slice gA (r++List.replicate i (v:Int)).length gc);rw [hrl],rfl,rfl,rfl,trivial⟩,?_⟩
   show SubM _ _ (IR gA gc (r++List.replicate i (v:Int)).length (r++List.replicate i v)::SdM s p2)
   rw [hrl]
   exact SubM.sl
 ·subst hx3
  simp only [show ((16:Int)=16)=True from eq_self _,show ((17:Int)=16)=False by decide,show ((17:Int)=17)=True from eq_self _,show ((18:Int)=16)=False by decide,show ((18:Int)=17)=False by decide,show ((18:Int)=18)=True from eq_self _,show ((16:Int)=18)=False by decide,show ((17:Int)=18)=False by decide,if_true,if_false,true_and,false_and] at hV
  refine gGw ?_;(repeat ((first|refine .mk fun Ap capp=>?_|intro _);(conv=>whnf);refine gG0 ?_))
  refine And.intro ⟨by decide,by decide,Pl.mk _ _⟩ ?_
  refine gGw ?_
  refine⟨zaR,zac (m1:=BdM s.d p1.a) (by repeat constructor) (fun w' hm'=>zbx s.d p1.a 3 w' hd0 hp1.a (by omega) hm'.part) ?_⟩
  rintro e m' (⟨h3,rfl,rfl⟩|⟨h3,rfl,rfl⟩)
  rotate_left
  ·rw [zbR h3] at hV
   refine gGw ?_
   refine br_n (br_f rfl ?_)
   refine gGw ?_
   exact fin2 rfl rfl rfl (fun w' hm=>⟨SdM s p1,.no hV.symm (by decide) hp1,hm.sl⟩)
  rw [zbQ h3] at hV
  simp only at hV
  have hb2:=zin hL p1.a (n:=3) (k:=7) (by omega)
  generalize numU ((s.d.L.drop p1.a).take 3)=m2 at hV hb2 ⊢
  obtain ⟨p2,hq2⟩:∃ p2:Sq,p2={ p1 with a:=p1.a+3 }:=⟨_,rfl⟩
  have hp2:SqOk s p2:=hq2 ▸ hp1.at_ h3
  have ea2:p2.a=p1.a+3:=by rw [hq2]
  have eo2:p2.o=p1.o:=by rw [hq2]
  rw [← ea2] at hV
  have hlp:s.d.L.length+1≤f+p2.a∧q.a≤p2.a:=by omega
  refine gGw ?_
  refine br_n (br_t rfl ?_)
  refine gGw ?_
  refine br_f rfl ?_
  refine gGw ?_
  refine br_f rfl ?_
  refine gGw ?_
  refine br_d (fun hlg=>?_) (fun hlg=>?_)
  ·rw [if_pos (by omega)] at hV
   refine gGw ?_
   exact fin2 rfl rfl rfl (fun w' hm=>⟨SdM s p2,.no hV.symm (by decide) hp2,hq2 ▸ hm.sl⟩)
  rw [if_neg (by omega)] at hV
  refine gGw ?_
  obtain ⟨tm,htm⟩:∃ tm,tm=m2+3:=⟨_,rfl⟩
  rw [show (m2:Int)+3=(tm:Int) by omega]
  rw [← htm] at hV
  refine lp zaa (γ:=Nat × Option Addr × Nat) (fun g=>g.1≤tm) (fun g=>[(15,.int .i64 (g.1:Int)),(14,.int .i64 0),(13,.int .i64 (tm:Int)),(8,.slice g.2.1 (r.length+g.1) g.2.2),(0,.pointer (some ⟨s.S,0,none⟩)),(1,.slice A nl c),(2,.int .i64 (n:Nat))]) (fun g=>IR g.2.1 g.2.2 (r.length+g.1) (r++List.replicate g.1 0)::SdM s p2) (fun g=>tm-g.1) (0,rA,rc) (Nat.zero_le _) ⟨rfl,rfl,rfl,rfl,rfl,rfl,rfl,trivial⟩ (by show SubM _ _ (IR rA rc r.length (r++[])::SdM s p2);rw [List.append_nil,hq2];exact SubM.sl) ?_
  rintro ⟨i,gA,gc⟩ hi
  simp only at hi
  dsimp only
  have hrl:(r++List.replicate i (0:Int)).length=r.length+i:=by rw [List.length_append,List.length_replicate]
  have hsn:=zko (r:=r) (v:=(0:Int)) i
  have hall:∀ y∈r++List.replicate i (0:Int),0≤y∧y≤15:=fun y hy=>by
   rcases List.mem_append.1 hy with hy|hy
   ·exact hrx y hy
   ·rw [(List.mem_replicate.1 hy).2];omega
  refine gGw ?_
  refine br_d (fun hit=>?_) (fun hit=>?_)
  ·generalize r++List.replicate i (0:Int)=r2 at hrl hsn hall ⊢
   refine gGw ?_;(repeat ((first|refine .mk fun Ap capp=>?_|intro _);(conv=>whnf);refine gG0 ?_))
   refine⟨(i+1,Ap,capp),by show i+1≤tm;omega,by show tm-(i+1)<tm-i;omega,⟨congrArg (fun x=>some (Value.int .i64 x)) (by push_cast;rfl),rfl,rfl,rfl,rfl,rfl,rfl,trivial⟩,?_⟩
   show SubM _ _ (IR Ap capp (r.length+(i+1)) (r++List.replicate (i+1) 0)::SdM s p2)
   rw [hsn,zkH]
   exact SubM.sl
  ·have ei:i=tm:=by omega
   subst ei
   refine gGw ?_
   refine⟨(p2,f,r++List.replicate i 0,gA,gc),⟨hp2,eo2.trans (eo1.trans hpo),hlp.2,hlp.1,by show (r++List.replicate i (0:Int)).length≤n;omega,hall,hV⟩,by show f<f+1;omega,⟨by show some (Value.slice gA (r.length+i) gc)=some (Value.slice gA (r++List.replicate i (0:Int)).length gc);rw [hrl],rfl,rfl,rfl,trivial⟩,?_⟩
   show SubM _ _ (IR gA gc (r++List.replicate i (0:Int)).length (r++List.replicate i 0)::SdM s p2)
   rw [hrl]
   exact SubM.sl
 ·subst hx3
  simp only [show ((16:Int)=16)=True from eq_self _,show ((17:Int)=16)=False by decide,show ((17:Int)=17)=True from eq_self _,show ((18:Int)=16)=False by decide,show ((18:Int)=17)=False by decide,show ((18:Int)=18)=True from eq_self _,show ((16:Int)=18)=False by decide,show ((17:Int)=18)=False by decide,if_true,if_false,true_and,false_and] at hV
  refine gGw ?_;(repeat ((first|refine .mk fun Ap capp=>?_|intro _);(conv=>whnf);refine gG0 ?_))
  refine And.intro ⟨by decide,by decide,Pl.mk _ _⟩ ?_
  refine gGw ?_
  refine⟨zaR,zac (m1:=BdM s.d p1.a) (by repeat constructor) (fun w' hm'=>zbx s.d p1.a 7 w' hd0 hp1.a (by omega) hm'.part) ?_⟩
  rintro e m' (⟨h3,rfl,rfl⟩|⟨h3,rfl,rfl⟩)
  rotate_left
  ·rw [zbR h3] at hV
   refine gGw ?_
   refine br_n (br_f rfl ?_)
   refine gGw ?_
   exact fin2 rfl rfl rfl (fun w' hm=>⟨SdM s p1,.no hV.symm (by decide) hp1,hm.sl⟩)
  rw [zbQ h3] at hV
  simp only at hV
  have hb2:=zin hL p1.a (n:=7) (k:=7) (by omega)
  generalize numU ((s.d.L.drop p1.a).take 7)=m2 at hV hb2 ⊢
  obtain ⟨p2,hq2⟩:∃ p2:Sq,p2={ p1 with a:=p1.a+7 }:=⟨_,rfl⟩
  have hp2:SqOk s p2:=hq2 ▸ hp1.at_ h3
  have ea2:p2.a=p1.a+7:=by rw [hq2]
  have eo2:p2.o=p1.o:=by rw [hq2]
  rw [← ea2] at hV
  have hlp:s.d.L.length+1≤f+p2.a∧q.a≤p2.a:=by omega
  refine gGw ?_
  refine br_n (br_t rfl ?_)
  refine gGw ?_
  refine br_t rfl ?_
  refine gGw ?_
  refine br_f rfl ?_
  refine gGw ?_
  refine br_d (fun hlg=>?_) (fun hlg=>?_)
  ·rw [if_pos (by omega)] at hV
   refine gGw ?_
   exact fin2 rfl rfl rfl (fun w' hm=>⟨SdM s p2,.no hV.symm (by decide) hp2,hq2 ▸ hm.sl⟩)
  rw [if_neg (by omega)] at hV
  refine gGw ?_
  obtain ⟨tm,htm⟩:∃ tm,tm=m2+11:=⟨_,rfl⟩
  rw [show (m2:Int)+11=(tm:Int) by omega]
  rw [← htm] at hV
  refine lp zaa (γ:=Nat × Option Addr × Nat) (fun g=>g.1≤tm) (fun g=>[(15,.int .i64 (g.1:Int)),(14,.int .i64 0),(13,.int .i64 (tm:Int)),(8,.slice g.2.1 (r.length+g.1) g.2.2),(0,.pointer (some ⟨s.S,0,none⟩)),(1,.slice A nl c),(2,.int .i64 (n:Nat))]) (fun g=>IR g.2.1 g.2.2 (r.length+g.1) (r++List.replicate g.1 0)::SdM s p2) (fun g=>tm-g.1) (0,rA,rc) (Nat.zero_le _) ⟨rfl,rfl,rfl,rfl,rfl,rfl,rfl,trivial⟩ (by show SubM _ _ (IR rA rc r.length (r++[])::SdM s p2);rw [List.append_nil,hq2];exact SubM.sl) ?_
  rintro ⟨i,gA,gc⟩ hi
  simp only at hi
  dsimp only
  have hrl:(r++List.replicate i (0:Int)).length=r.length+i:=by rw [List.length_append,List.length_replicate]
  have hsn:=zko (r:=r) (v:=(0:Int)) i
  have hall:∀ y∈r++List.replicate i (0:Int),0≤y∧y≤15:=fun y hy=>by
   rcases List.mem_append.1 hy with hy|hy
   ·exact hrx y hy
   ·rw [(List.mem_replicate.1 hy).2];omega
  refine gGw ?_
  refine br_d (fun hit=>?_) (fun hit=>?_)
  ·generalize r++List.replicate i (0:Int)=r2 at hrl hsn hall ⊢
   refine gGw ?_;(repeat ((first|refine .mk fun Ap capp=>?_|intro _);(conv=>whnf);refine gG0 ?_))
   refine⟨(i+1,Ap,capp),by show i+1≤tm;omega,by show tm-(i+1)<tm-i;omega,⟨congrArg (fun x=>some (Value.int .i64 x)) (by push_cast;rfl),rfl,rfl,rfl,rfl,rfl,rfl,trivial⟩,?_⟩
   show SubM _ _ (IR Ap capp (r.length+(i+1)) (r++List.replicate (i+1) 0)::SdM s p2)
   rw [hsn,zkH]
   exact SubM.sl
  ·have ei:i=tm:=by omega
   subst ei
   refine gGw ?_
   refine⟨(p2,f,r++List.replicate i 0,gA,gc),⟨hp2,eo2.trans (eo1.trans hpo),hlp.2,hlp.1,by show (r++List.replicate i (0:Int)).length≤n;omega,hall,hV⟩,by show f<f+1;omega,⟨by show some (Value.slice gA (r.length+i) gc)=some (Value.slice gA (r++List.replicate i (0:Int)).length gc);rw [hrl],rfl,rfl,rfl,trivial⟩,?_⟩
   show SubM _ _ (IR gA gc (r++List.replicate i (0:Int)).length (r++List.replicate i 0)::SdM s p2)
   rw [hrl]
   exact SubM.sl
end Go.Proofs.YtlmgelmloddfgaaGreat
namespace Go.Proofs.YtlmgelmloddfgaaGreat
open Go Go.RowKit Eng
attribute [local irreducible] Br Rn RnU Cl RdG CpG Ld Rd Lp Dr Oth Cut fin Fits Eng.Enters Md NA
theorem zkd:Eng.Enters Tryz.prog 227:=zab fun _ _=>by kernel_rfl
theorem zps (w:World):Ctr Tryz.prog 227 [] [] (fun e m'=>e=.returned (.tuple #[.agg (fixL.map (Value.int .i64)).toArray,.agg (fixD.map (Value.int .i64)).toArray])∧m'=[]) w:=by
 refine enter (cx:=CXS 35 [] w (Foot [])) [] zaa Tryz.func227 rfl rfl rfl rfl (MemOk.nil w _) ?_
 refine gGw ?_;(repeat ((first|refine .mk fun Ap capp=>?_|intro _);(conv=>whnf);refine gG0 ?_))
 rename_i b0 b1 b2 b3
 have hz1:∃ X:List Int,X.length=288∧X.map (Value.int .i64)=List.replicate 288 (.int .i64 0):=⟨List.replicate 288 0,by simp,by simp⟩
 have hz2:∃ X:List Int,X.length=32∧X.map (Value.int .i64)=List.replicate 32 (.int .i64 0):=⟨List.replicate 32 0,by simp,by simp⟩
 obtain ⟨X,hX,eX⟩:=hz1
 obtain ⟨Y,hY,eY⟩:=hz2
 refine lp zaa (γ:=Nat) (fun i=>i≤288) (fun i=>[(4,.int .i64 (i:Int)),(0,.pointer (some ⟨b0,0,none⟩)),(1,.pointer (some ⟨b1,0,none⟩)),(2,.pointer (some ⟨b2,0,none⟩)),(3,.pointer (some ⟨b3,0,none⟩))]) (fun i=>[.blk b2 (.cells ((upL fixV 288 i).map (Value.int .i64)).toArray 293),.blk b3 (.cells ((upL (fun _=>5) 32 0).map (Value.int .i64)).toArray 294),.blk b0 (.cells (X.map (Value.int .i64)).toArray 293),.blk b1 (.cells (Y.map (Value.int .i64)).toArray 294)]) (fun i=>288-i) 0 (by omega) ⟨rfl,rfl,rfl,rfl,rfl,trivial⟩ (by rw [eX,eY];exact SubM.sl) ?_
 rintro i hi
 dsimp only
 clear eX eY
 refine gGw ?_
 refine br_d (fun hlt=>?_) (fun hge=>?_)
 ·have hl:=zfL fixV 288 i
  have hu:=zhH fixV 288 i
  have h5:∀ v:Int,v=fixV i→(upL fixV 288 i).set i v=upL fixV 288 (i+1):=fun v h=>by rw [h,hu]
  have hfv:fixV i=if 280≤i∨i<144 then 8 else if i<256 then 9 else 7:=rfl
  generalize upL fixV 288 i=q at hl h5 ⊢
  refine gGw ?_
  refine br_d (fun hc1=>?_) (fun hc1=>?_)
  ·rw [if_pos (by omega)] at hfv
   refine gGw ?_
   refine And.intro ⟨by omega,by omega,Pl.mk _ _⟩ ?_
   conv=>whnf
   refine zaT (b:=b2) (off:=0+i) (cs':=(upL fixV 288 (i+1)).map (Value.int .i64)) zaa rfl (by repeat constructor) rfl rfl (Nat.ble_eq_true_of_le (show 0+i+1≤_ by rw [List.length_map,hl];omega)) (by rw [Nat.zero_add,← h5 8 hfv.symm,List.map_set];rfl) ?_
   refine gGw ?_
   exact⟨i+1,by omega,by omega,⟨congrArg (fun x=>some (Value.int .i64 x)) (by push_cast;rfl),rfl,rfl,rfl,rfl,trivial⟩,SubM.sl⟩
  refine gGw ?_
  refine br_d (fun hc2=>?_) (fun hc2=>?_)
  ·rw [if_neg (by omega),if_pos (by omega)] at hfv
   refine gGw ?_
   refine And.intro ⟨by omega,by omega,Pl.mk _ _⟩ ?_
   conv=>whnf
   refine zaT (b:=b2) (off:=0+i) (cs':=(upL fixV 288 (i+1)).map (Value.int .i64)) zaa rfl (by repeat constructor) rfl rfl (Nat.ble_eq_true_of_le (show 0+i+1≤_ by rw [List.length_map,hl];omega)) (by rw [Nat.zero_add,← h5 9 hfv.symm,List.map_set];rfl) ?_
   refine gGw ?_
   exact⟨i+1,by omega,by omega,⟨congrArg (fun x=>some (Value.int .i64 x)) (by push_cast;rfl),rfl,rfl,rfl,rfl,trivial⟩,SubM.sl⟩
  refine gGw ?_
  refine br_d (fun hc3=>?_) (fun hc3=>?_)
  ·rw [if_neg (by omega),if_neg (by omega)] at hfv
   refine gGw ?_
   refine And.intro ⟨by omega,by omega,Pl.mk _ _⟩ ?_
   conv=>whnf
   refine zaT (b:=b2) (off:=0+i) (cs':=(upL fixV 288 (i+1)).map (Value.int .i64)) zaa rfl (by repeat constructor) rfl rfl (Nat.ble_eq_true_of_le (show 0+i+1≤_ by rw [List.length_map,hl];omega)) (by rw [Nat.zero_add,← h5 7 hfv.symm,List.map_set];rfl) ?_
   refine gGw ?_
   exact⟨i+1,by omega,by omega,⟨congrArg (fun x=>some (Value.int .i64 x)) (by push_cast;rfl),rfl,rfl,rfl,rfl,trivial⟩,SubM.sl⟩
  ·rw [if_pos (by omega)] at hfv
   refine gGw ?_
   refine And.intro ⟨by omega,by omega,Pl.mk _ _⟩ ?_
   conv=>whnf
   refine zaT (b:=b2) (off:=0+i) (cs':=(upL fixV 288 (i+1)).map (Value.int .i64)) zaa rfl (by repeat constructor) rfl rfl (Nat.ble_eq_true_of_le (show 0+i+1≤_ by rw [List.length_map,hl];omega)) (by rw [Nat.zero_add,← h5 8 hfv.symm,List.map_set];rfl) ?_
   refine gGw ?_
   exact⟨i+1,by omega,by omega,⟨congrArg (fun x=>some (Value.int .i64 x)) (by push_cast;rfl),rfl,rfl,rfl,rfl,trivial⟩,SubM.sl⟩
 ·obtain rfl:i=288:=by omega
  rw [zr9]
  have hfl:fixL.length=288:=by decide
  generalize hq:fixL=q at hfl
  refine gGw ?_
  refine lp zaa (γ:=Nat) (fun i=>i≤32) (fun i=>[(5,.int .i64 (i:Int)),(0,.pointer (some ⟨b0,0,none⟩)),(1,.pointer (some ⟨b1,0,none⟩)),(2,.pointer (some ⟨b2,0,none⟩)),(3,.pointer (some ⟨b3,0,none⟩))]) (fun i=>[.blk b3 (.cells ((upL (fun _=>5) 32 i).map (Value.int .i64)).toArray 294),.blk b2 (.cells (q.map (Value.int .i64)).toArray 293),.blk b0 (.cells (X.map (Value.int .i64)).toArray 293),.blk b1 (.cells (Y.map (Value.int .i64)).toArray 294)]) (fun i=>32-i) 0 (by omega) ⟨rfl,rfl,rfl,rfl,rfl,trivial⟩ SubM.sl ?_
  clear hi hge
  rintro i hi
  dsimp only
  refine gGw ?_
  refine br_d (fun hlt=>?_) (fun hge=>?_)
  ·have hl:=zfL (fun _=>5) 32 i
   have hu:=zhH (fun _=>5) 32 i
   refine gGw ?_
   refine And.intro ⟨by omega,by omega,Pl.mk _ _⟩ ?_
   conv=>whnf
   refine zaT (b:=b3) (off:=0+i) (cs':=(upL (fun _=>5) 32 (i+1)).map (Value.int .i64)) zaa rfl (by repeat constructor) rfl rfl (Nat.ble_eq_true_of_le (show 0+i+1≤_ by rw [List.length_map,hl];omega)) (by rw [Nat.zero_add,← hu,List.map_set];rfl) ?_
   refine gGw ?_
   exact⟨i+1,by omega,by omega,⟨congrArg (fun x=>some (Value.int .i64 x)) (by push_cast;rfl),rfl,rfl,rfl,rfl,trivial⟩,SubM.sl⟩
  ·obtain rfl:i=32:=by omega
   rw [zsb]
   have hdl:fixD.length=32:=by decide
   generalize hr:fixD=r at hdl
   conv=>whnf
   refine zbc (γ:=Unit) (Tr.hs [0,1] (.sq [2,3] .done)) [.blk b2 (.cells (q.map (Value.int .i64)).toArray 293),.blk b3 (.cells (r.map (Value.int .i64)).toArray 294)] zaa mixed (by kernel_rfl) rfl (fun _=>True)
    (fun _=>[(0,.pointer (some ⟨b0,0,none⟩)),(1,.pointer (some ⟨b1,0,none⟩))]) (fun _=>[.blk b0 (.cells (q.map (Value.int .i64)).toArray 293),.blk b1 (.cells (r.map (Value.int .i64)).toArray 294)]) SubM.sl ?_ ?_
   ·refine gGw ?_
    refine⟨_,(ldA zaa (by repeat constructor) rfl rfl (by rw [List.length_map];exact hfl)).g,?_⟩
    conv=>whnf
    refine⟨_,(ldA zaa (by repeat constructor) rfl rfl (by rw [List.length_map];exact hdl)).g,?_⟩
    conv=>whnf
    refine⟨?_,trivial⟩
    conv=>whnf
    refine zaT (b:=b0) (off:=0) (cs':=q.map (Value.int .i64)) zaa rfl (by repeat constructor) (by rw [zav,List.length_map];exact hfl) (by rw [zav];exact zbt _ _) (Nat.ble_eq_true_of_le (by rw [zav,List.length_map,List.length_map];omega)) (by rw [zav];exact zb3 _ _ (by rw [List.length_map,List.length_map];omega)) ?_
    conv=>whnf
    refine gGs ?_
    conv=>whnf
    refine⟨?_,trivial⟩
    conv=>whnf
    refine zaT (b:=b1) (off:=0) (cs':=r.map (Value.int .i64)) zaa rfl (by repeat constructor) (by rw [zav,List.length_map];exact hdl) (by rw [zav];exact zbt _ _) (Nat.ble_eq_true_of_le (by rw [zav,List.length_map,List.length_map];omega)) (by rw [zav];exact zb3 _ _ (by rw [List.length_map,List.length_map];omega)) ?_
    conv=>whnf
    refine gGs ?_
    conv=>whnf
    exact⟨(),trivial,⟨rfl,rfl,trivial⟩,SubM.sl⟩
   ·rintro ⟨⟩ -
    refine gGw ?_
    subst hq hr
    exact zx3 rfl rfl (ldA zaa (by repeat constructor) rfl rfl (by rw [List.length_map];exact hfl)) rfl (ldA zaa (by repeat constructor) rfl rfl (by rw [List.length_map];exact hdl)) (fun w' hm=>⟨_,⟨rfl,rfl⟩,hm.sublist (List.nil_sublist _)⟩)
end Go.Proofs.YtlmgelmloddfgaaGreat
namespace Go.Proofs.YtlmgelmloddfgaaGreat
open Go Go.RowKit Eng
def DyU (s:Sd) (q:Sq) (V:Except Int (Nat × List Int × List Int)) (e:Ending) (m':Mem):Prop:=(∃ (q':Sq) (r:List Int) (k:Nat) (A:Option Addr) (c:Nat),V=.ok (q'.a,r.take k,r.drop k)∧q'.o=q.o∧SqOk s q'∧q.a≤q'.a∧k≤r.length∧r.length≤c∧LenL r∧e=.returned (.tuple #[.slice A k c,.slice (cutA A c k 1) (r.length-k) (c-k),.int .i64 0])∧m'=IR A c r.length r::SdM s q') ∨
 ((∃ y,V=.error y)∧∃ (z:Int) (q':Sq),z≠0∧SqOk s q'∧e=.returned (.tuple #[.slice none 0 0,.slice none 0 0,.int .i64 z])∧m'=SdM s q')
theorem DyU.no {s:Sd} {q q':Sq} {V:Except Int (Nat × List Int × List Int)} {y z:Int} (hV:V=.error y) (hz:z≠0) (hq:SqOk s q'):DyU s q V (.returned (.tuple #[.slice none 0 0,.slice none 0 0,.int .i64 z])) (SdM s q'):=.inr ⟨⟨y,hV⟩,z,q',hz,hq,rfl,rfl⟩
def zu1 (L:List UInt8) (a b:Nat):DRes→Except Int (Nat × List Int × List Int)
 | .error e=>.error e
 | .ok (a4,l) =>
  if zfz l false then
   match rowX L l (a+b+258) (zfY L) a4 [] with
   | .error e=>.error e
   | .ok (a5,r) =>
    if r.getD 256 0=0 then .error 151
    else if zfz (r.take (a+257)) false&&zfz (r.drop (a+257)) true then .ok (a5,r.take (a+257),r.drop (a+257)) else .error 151
  else .error 151
theorem zvI {A:Option Addr} (h:Pl A) (m:Nat):cutA A m (Int.toNat 0) ty3.cells=A:=by
 obtain ⟨b,o,rfl⟩:=h
 unfold cutA
 split
 ·rfl
 ·rfl
attribute [local irreducible] Br Rn RnU Cl RdG CpG Ld Rd Lp Dr Oth Cut fin Fits Eng.Enters Md NA
theorem zmO:Eng.Enters Tryz.prog 229:=zab fun _ _=>by kernel_rfl
set_option maxHeartbeats 2000000 in
theorem zt7 (s:Sd) (q:Sq) (w:World) (hok:SqOk s q) (hm:MemOk w (Foot (SdM s q)) (SdM s q) w) :
  Ctr Tryz.prog 229 [.pointer (some ⟨s.S,0,none⟩)] (SdM s q) (DyU s q (zu2 s.d.L q.a)) w:=by
 have hok0:=hok
 obtain ⟨hm8,hd,ha,ho,hmo⟩:=hok
 have hd0:=hd
 obtain ⟨hL,hdl,hc⟩:=hd
 refine enter (cx:=CXS 127 [] w (Foot (SdM s q))) [(0,.pointer (some ⟨s.S,0,none⟩))] zaa Tryz.func229 rfl rfl rfl rfl hm ?_
 generalize hV:zu2 s.d.L q.a=V
 unfold zu2 at hV
 refine gGw ?_
 refine⟨zaR,zac (m1:=BdM s.d (q.a)) (by repeat constructor) (fun w' hm'=>zbx s.d (q.a) 5 w' hd0 (by omega) (by omega) hm'.part) ?_⟩
 rintro e m' (⟨h1,rfl,rfl⟩|⟨h1,rfl,rfl⟩)
 rotate_left
 ·rw [zbR h1] at hV
  refine gGw ?_
  refine br_n (br_f rfl ?_)
  refine gGw ?_
  exact fin3 rfl rfl rfl rfl (fun w' hm=>⟨SdM s { q with a:=q.a },.no hV.symm (by decide) (hok0.at_ (by omega)),hm.sl⟩)
 rw [zbQ h1] at hV
 simp only at hV
 have hba:=zeV hL (q.a) 5
 generalize numU ((s.d.L.drop (q.a)).take 5)=a at hba hV ⊢
 refine gGw ?_
 refine br_n (br_t rfl ?_)
 refine gGw ?_
 refine⟨zaR,zac (m1:=BdM s.d (q.a+5)) (by repeat constructor) (fun w' hm'=>zbx s.d (q.a+5) 5 w' hd0 (by omega) (by omega) hm'.part) ?_⟩
 rintro e m' (⟨h2,rfl,rfl⟩|⟨h2,rfl,rfl⟩)
 rotate_left
 ·rw [zbR h2] at hV
  refine gGw ?_
  refine br_n (br_f rfl ?_)
  refine gGw ?_
  exact fin3 rfl rfl rfl rfl (fun w' hm=>⟨SdM s { q with a:=q.a+5 },.no hV.symm (by decide) (hok0.at_ (by omega)),hm.sl⟩)
 rw [zbQ h2] at hV
 simp only at hV
 have hbb:=zeV hL (q.a+5) 5
 generalize numU ((s.d.L.drop (q.a+5)).take 5)=b at hbb hV ⊢
 refine gGw ?_
 refine br_n (br_t rfl ?_)
 refine gGw ?_
 refine⟨zaR,zac (m1:=BdM s.d (q.a+5+5)) (by repeat constructor) (fun w' hm'=>zbx s.d (q.a+5+5) 4 w' hd0 (by omega) (by omega) hm'.part) ?_⟩
 rintro e m' (⟨h3,rfl,rfl⟩|⟨h3,rfl,rfl⟩)
 rotate_left
 ·rw [zbR h3] at hV
  refine gGw ?_
  refine br_n (br_f rfl ?_)
  refine gGw ?_
  exact fin3 rfl rfl rfl rfl (fun w' hm=>⟨SdM s { q with a:=q.a+5+5 },.no hV.symm (by decide) (hok0.at_ (by omega)),hm.sl⟩)
 rw [zbQ h3] at hV
 simp only at hV
 have hbcn:=zeV hL (q.a+5+5) 4
 generalize numU ((s.d.L.drop (q.a+5+5)).take 4)=cn at hbcn hV ⊢
 refine gGw ?_
 refine br_n (br_t rfl ?_)
 refine gGw ?_
 refine And.intro (fun _=>zak (by omega)) ?_
 refine gGw ?_
 by_cases hbig:286<a+257∨30<b+1
 ·have hor:(decide ((286:Int)<(a:Int)+257)||decide ((30:Int)<(b:Int)+1))=true:=by
   rcases hbig with h|h
   ·rw [decide_eq_true (show (286:Int)<(a:Int)+257 by omega)];rfl
   ·rw [decide_eq_true (show (30:Int)<(b:Int)+1 by omega),Bool.or_true]
  rw [if_pos hbig] at hV
  refine br_t hor ?_
  refine gGw ?_
  exact fin3 rfl rfl rfl rfl (fun w' hm=>⟨SdM s { q with a:=q.a+5+5+4 },.no hV.symm (by decide) (hok0.at_ (by omega)),hm.sl⟩)
 rw [if_neg hbig] at hV
 refine br_f (by rw [decide_eq_false (by omega),decide_eq_false (by omega)];rfl) ?_
 replace hV:zu1 s.d.L a b (zpS s.d.L (cn+4) 0 (q.a+5+5+4) (List.replicate 19 0))=V:=by unfold zu1;exact hV
 refine gGw ?_
 refine⟨ordL.map (Value.int .i64),⟨by kernel_rfl,by kernel_rfl,by kernel_rfl⟩,?_⟩
 intro oB
 refine gGw ?_
 refine zc6 zaa rfl rfl rfl rfl rfl (by decide) (by decide) (by decide) (fun lB=>?_)
 refine gGw ?_
 refine lp zaa (γ:=Nat × Sq × List Int) (fun g=>g.1≤cn+4∧g.2.1.o=q.o∧SqOk s g.2.1∧q.a≤g.2.1.a∧g.2.2.length=19∧(∀ x∈g.2.2,0≤x∧x≤15)∧zu1 s.d.L a b (zpS s.d.L (cn+4-g.1) g.1 g.2.1.a g.2.2)=V)
  (fun g=>[(11,.int .i64 (g.1:Int)),(10,.slice (some ⟨lB,0,none⟩) 19 19),(9,.slice (some ⟨oB,0,none⟩) 19 19),(8,.int .u64 (cn:Nat)),(7,.int .u64 (b:Nat)),(5,.int .u64 (a:Nat)),(0,.pointer (some ⟨s.S,0,none⟩))])
  (fun g=>IR (some ⟨lB,0,none⟩) 19 19 g.2.2::.blk oB (.cells (ordL.map (Value.int .i64)).toArray 3)::SdM s g.2.1) (fun g=>cn+4-g.1) (0,{ q with a:=q.a+5+5+4 },List.replicate 19 0) ⟨Nat.zero_le _,rfl,hok0.at_ h3,by show q.a≤q.a+5+5+4;omega,rfl,(fun x hx=>by rw [(List.mem_replicate.1 hx).2];decide),hV⟩ ⟨rfl,rfl,rfl,rfl,rfl,rfl,rfl,trivial⟩ SubM.sl ?_
 clear hV
 rintro ⟨i,p,l⟩ ⟨hi,hpo,hp,hqp,hll,hlx,hV⟩
 simp only at hi hpo hp hqp hll hlx hV
 dsimp only
 have hpa:=hp.a
 refine gGw ?_
 refine br_d (fun hlt=>?_) (fun hge=>?_)
 ·have hob:=zvA i (by omega)
  have hon:=zrC i (by omega)
  rw [show cn+4-i=(cn+4-(i+1))+1 by omega,zpS] at hV
  generalize ordL.getD i 0=oi at hob hon hV
  refine gGw ?_
  refine⟨zaR,zac (m1:=BdM s.d p.a) (by repeat constructor) (fun w' hm'=>zbx s.d p.a 3 w' hd0 hpa (by omega) hm'.part) ?_⟩
  rintro e m' (⟨h4,rfl,rfl⟩|⟨h4,rfl,rfl⟩)
  rotate_left
  ·rw [zbR h4] at hV
   refine gGw ?_
   refine br_n (br_f rfl ?_)
   refine gGw ?_
   exact fin3 rfl rfl rfl rfl (fun w' hm=>⟨SdM s p,.no hV.symm (by decide) hp,hm.sl⟩)
  rw [zbQ h4] at hV
  simp only at hV
  have hbm:=zeV hL p.a 3
  generalize numU ((s.d.L.drop p.a).take 3)=m at hbm hV ⊢
  refine gGw ?_
  refine br_n (br_t rfl ?_)
  refine gGw ?_
  refine And.intro ⟨by omega,by omega,Pl.mk _ _⟩ ?_
  conv=>whnf
  refine zaj (ld1 (off:=0+i) zaa (by repeat constructor) rfl rfl hon) ?_
  refine gGw ?_
  refine And.intro ⟨by omega,by omega,Pl.mk _ _⟩ ?_
  conv=>whnf
  refine zaz (off:=oi.toNat) (xs':=(l.set oi.toNat (m:Int)).map (.int .i64)) zaa rfl (by repeat constructor) rfl rfl (by show oi.toNat+1≤19*1;omega) Nat.one_pos (by rw [List.map_set];rfl) ?_
  refine gGw ?_
  refine⟨(i+1,{ p with a:=p.a+3 },l.set oi.toNat (m:Int)),⟨by show i+1≤cn+4;omega,hpo,hp.at_ h4,by show q.a≤p.a+3;omega,by show (l.set oi.toNat (m:Int)).length=19;rw [List.length_set];exact hll,fun y hy=>?_,hV⟩,by show cn+4-(i+1)<cn+4-i;omega,⟨congrArg (fun x=>some (Value.int .i64 x)) (by push_cast;rfl),rfl,rfl,rfl,rfl,rfl,rfl,trivial⟩,SubM.sl⟩
  rcases List.mem_or_eq_of_mem_set hy with hy|rfl
  ·exact hlx y hy
  ·omega
 have ei:i=cn+4:=by omega
 subst ei
 rw [Nat.sub_self,zpS,zu1] at hV
 have hlL:LenL l:=⟨hlx,by omega⟩
 refine gGw ?_
 refine⟨zeB,zae _ (fun w' hm'=>zhL l false (some ⟨lB,0,none⟩) 19 19 w' hll (rowI (hm'.ok (IR (some ⟨lB,0,none⟩) 19 19 l) (List.mem_cons_self ..))) hlL) ?_⟩
 refine gGw ?_
 refine br_n (br (fun hcd=>?_) (fun hcd=>?_))
 rotate_left
 ·rw [if_neg (by rw [hcd];decide)] at hV
  refine gGw ?_
  exact fin3 rfl rfl rfl rfl (fun w' hm=>⟨SdM s p,.no hV.symm (by decide) hp,hm.sl⟩)
 rw [if_pos hcd] at hV
 have e9:(a:Int)+(b:Int)+258=((a+b+258:Nat):Int):=by omega
 refine gGw ?_
 rw [e9]
 refine⟨zmL,zac (m1:=SdM s p) (by repeat constructor) (fun w' hm'=>(zt3 s p l (some ⟨lB,0,none⟩) 19 19 (a+b+258) w' hll rfl (by omega) hp hlL (stb (r:=[IR (some ⟨lB,0,none⟩) 19 19 l,.blk oB (.cells (ordL.map (Value.int .i64)).toArray 3)]) hm' (fun w'' hm''=>rowI (hm''.ok (IR (some ⟨lB,0,none⟩) 19 19 l) (List.mem_cons_self ..)))) hm'.part).ex) ?_⟩
 rintro e m' ⟨⟨q2,r,rA,rc,he,hq2o,hq2,hpq,hrl,hrx,rfl,rfl⟩|⟨⟨y,he⟩,z,q2,hz,hq2,rfl,rfl⟩,w9,hok9⟩
 rotate_left
 ·rw [he] at hV
  refine gGw ?_
  refine br_n (br_f (decide_eq_false hz) ?_)
  refine gGw ?_
  exact fin3 rfl rfl rfl rfl (fun w' hm=>⟨SdM s q2,.no hV.symm hz hq2,hm.sl⟩)
 rw [he] at hV
 simp only at hV
 rw [← hrl] at hok9 ⊢
 have hr9:=hok9 _ (List.mem_cons_self ..)
 have hpl:Pl rA:=zfw hr9 (by rw [List.length_map];omega)
 have hcap:r.length≤rc:=zeO hr9
 refine gGw ?_
 refine br_n (br_t rfl ?_)
 conv=>whnf
 refine zar zaa mixed (by kernel_rfl) rfl ?_;conv=>whnf
 refine gG0 ?_
 refine And.intro ⟨by omega,by omega,by omega,.inr hpl⟩ ?_
 refine gGw ?_
 refine And.intro ⟨by omega,by omega,by omega,.inr hpl⟩ ?_
 refine gGw ?_
 rw [zvI hpl,show ((a:Int)+257).toNat=a+257 by omega,show a+257-Int.toNat 0=a+257 from rfl,show rc-Int.toNat 0=rc from rfl,show ((r.length:Nat):Int).toNat=r.length from rfl]
 refine And.intro ⟨by omega,by omega,hpl⟩ ?_
 conv=>whnf
 refine zaj (ldR zaa (by repeat constructor) rfl rfl (zbm (xs:=r) (j:=256) (by omega))) ?_
 refine gGw ?_
 have hLr:LenL r:=⟨hrx,by omega⟩
 have hLt:LenL (r.take (a+257)):=⟨fun x hx=>hrx x (List.mem_of_mem_take hx),by rw [List.length_take];omega⟩
 have hLd:LenL (r.drop (a+257)):=⟨fun x hx=>hrx x (List.mem_of_mem_drop hx),by rw [List.length_drop];omega⟩
 refine br_d (fun h0=>?_) (fun h0=>?_)
 ·rw [if_pos h0] at hV
  refine gGw ?_
  refine br_t rfl ?_
  refine gGw ?_
  refine br_t rfl ?_
  refine gGw ?_
  exact fin3 rfl rfl rfl rfl (fun w' hm=>⟨SdM s q2,.no hV.symm (by decide) hq2,hm.sl⟩)
 rw [if_neg h0] at hV
 refine gGw ?_
 refine⟨zeB,zae _ (fun w' hm'=>zhL (r.take (a+257)) false rA rc (a+257) w' (by rw [List.length_take];omega) (by have h:=IntsIn.sub (rowI (hm'.ok (IR rA rc r.length r) (by simp))) rc 0 (a+257) (by omega) hcap;exact zvI hpl rc ▸ h) hLt) ?_⟩
 refine gGw ?_
 refine br_n (br (fun hk1=>?_) (fun hk1=>?_))
 rotate_left
 ·rw [hk1,Bool.false_and,if_neg (by decide)] at hV
  refine gGw ?_
  refine br_t rfl ?_
  refine gGw ?_
  exact fin3 rfl rfl rfl rfl (fun w' hm=>⟨SdM s q2,.no hV.symm (by decide) hq2,hm.sl⟩)
 rw [hk1,Bool.true_and] at hV
 refine gGw ?_
 refine⟨zeB,zae _ (fun w' hm'=>zhL (r.drop (a+257)) true (cutA rA rc (a+257) 1) (rc-(a+257)) (r.length-(a+257)) w' (by rw [List.length_drop]) (by have h:=IntsIn.sub (rowI (hm'.ok (IR rA rc r.length r) (by simp))) rc (a+257) (r.length-(a+257)) (by omega) hcap;rwa [List.take_of_length_le (by rw [List.length_drop];omega)] at h) hLd) ?_⟩
 refine gGw ?_
 refine br_n (br (fun hk2=>?_) (fun hk2=>?_))
 rotate_left
 ·rw [if_neg (by rw [hk2];decide)] at hV
  refine gGw ?_
  exact fin3 rfl rfl rfl rfl (fun w' hm=>⟨SdM s q2,.no hV.symm (by decide) hq2,hm.sl⟩)
 rw [if_pos hk2] at hV
 refine gGw ?_
 exact fin3 rfl rfl rfl rfl (fun w' hm=>⟨IR rA rc r.length r::SdM s q2,.inl ⟨q2,r,a+257,rA,rc,hV.symm,hq2o.trans hpo,hq2,by omega,by omega,hcap,hLr,rfl,rfl⟩,hm.sl⟩)
end Go.Proofs.YtlmgelmloddfgaaGreat
