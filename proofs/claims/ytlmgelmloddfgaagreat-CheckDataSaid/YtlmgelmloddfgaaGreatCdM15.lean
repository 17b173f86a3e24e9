/- Part of a proof: contracts of the functions that the law reaches. No statement of the seat is proved here. -/
import Derived.Test.YtlmgelmloddfgaaGreatCdM14
import Derived.Test.YtlmgelmloddfgaaGreatRows
import Derived.Deep.Slices
import Derived.SizedLaws
import Derived.DataShut
import Derived.ProofKit
import Derived.OpenShut
import Derived.Deep.DeepHandedRow
import Derived.Lib.LaidTab
import Derived.Stop.LaidErr
import Derived.Lay
import Derived.Shelf.Vars
import Derived.Carry
set_option linter.unusedVariables false
set_option linter.unusedSimpArgs false
set_option linter.unusedSectionVars false
set_option maxRecDepth 100000
namespace Go.Proofs.YtlmgelmloddfgaaGreat
open Go Go.RowKit Eng
def KZ (q:Sq) (V:Except Int (Nat × List UInt8)) (z:Int) (q':Sq):Prop:=(z=0∧V=.ok (q'.a,q'.o)∧q.a≤q'.a)∨(z≠0∧∃ y,V=.error y)
theorem KR.one {s:Sd} {q:Sq} {V:Except Int (Nat × List UInt8)} {e:Ending} {m':Mem} (h:KR s q V e m'):∃ (z:Int) (q':Sq),KZ q V z q'∧SqOk s q'∧e=.returned (.int .i64 z)∧m'=SdM s q':=by
 rcases h with ⟨q',h1,h2,h3,h4,h5⟩|⟨h1,z,q',h2,h3,h4,h5⟩
 ·exact⟨0,q',.inl ⟨rfl,h1,h3⟩,h2,h4,h5⟩
 ·exact⟨z,q',.inr ⟨h2,h1⟩,h3,h4,h5⟩
def BkR (s:Sd) (q:Sq) (V:Except Int (Bool × Nat × List UInt8)) (e:Ending) (m':Mem):Prop:=∃ (kd:IntKind) (k f t n z:Int) (last:Bool) (q':Sq),SqOk s q'∧e=.returned (.tuple #[.agg #[.int kd k,.bool last,.int .i64 f,.int .i64 t,.int .i64 n],.int .i64 z])∧m'=SdM s q' ∧
 ((z=0∧V=.ok (last,q'.a,q'.o)∧q.a<q'.a)∨(z≠0∧∃ y,V=.error y))
def blkV (last:Nat):Except Int (Nat × List UInt8)→Except Int (Bool × Nat × List UInt8)
 | .error e=>.error e
 | .ok (a3,o2)=>.ok (decide (last=1),a3,o2)
theorem KZ.blk {q q1 q':Sq} {V:Except Int (Nat × List UInt8)} {W:Except Int (Bool × Nat × List UInt8)} {z:Int} {last:Nat} {b:Bool} (h:KZ q V z q') (hW:blkV last V=W) (hb:b=decide (last=1)) (hq:q1.a<q.a):(z=0∧W=.ok (b,q'.a,q'.o)∧q1.a<q'.a)∨(z≠0∧∃ y,W=.error y):=by
 subst hW hb
 rcases h with ⟨h1,rfl,h3⟩|⟨h1,y,rfl⟩
 ·exact .inl ⟨h1,rfl,by omega⟩
 ·exact .inr ⟨h1,y,rfl⟩
theorem zsa:LenL fixL:=⟨by unfold fixL;intro x hx;obtain ⟨i,_,rfl⟩:=List.mem_map.1 hx;split<;>(try split)<;>omega,by rw [zkS];omega⟩
theorem zsc:LenL fixD:=⟨by decide,by rw [zkT];omega⟩
theorem LenL.take {l:List Int} (h:LenL l) (k:Nat):LenL (l.take k):=⟨fun x hx=>h.1 x (List.mem_of_mem_take hx),by have:=h.2;rw [List.length_take];omega⟩
theorem LenL.drop {l:List Int} (h:LenL l) (k:Nat):LenL (l.drop k):=⟨fun x hx=>h.1 x (List.mem_of_mem_drop hx),by have:=h.2;rw [List.length_drop];omega⟩
theorem IntsIn.take_ {k:IntKind} {w:World} {p:Option Addr} {xs ys:List Int} (h:IntsIn k w p (xs++ys)):IntsIn k w p xs:=by
 intro hn
 obtain ⟨b,o,rfl,hc⟩:=h (by simp;omega)
 refine⟨b,o,rfl,fun i hi=>?_⟩
 have:=hc i (by simp;omega)
 rwa [List.getD,List.getElem?_append_left hi,← List.getD] at this
attribute [local irreducible] Br Rn RnU Cl RdG CpG Ld Rd Lp Dr Oth Cut fin Fits Eng.Enters Md NA
theorem zkc:Eng.Enters Tryz.prog 211:=zab fun _ _=>by kernel_rfl
set_option maxHeartbeats 2000000 in
theorem zpr (s:Sd) (q:Sq) (w:World) (hok:SqOk s q) (hm:MemOk w (Foot (SdM s q)) (SdM s q) w) :
  Ctr Tryz.prog 211 [.pointer (some ⟨s.S,0,none⟩)] (SdM s q) (BkR s q (zoU s.d.L s.most q.a q.o)) w:=by
 have hok0:=hok
 obtain ⟨hm8,hd,ha,ho,hmo⟩:=hok
 have hd0:=hd
 obtain ⟨hL,hdl,hc⟩:=hd
 refine enter (cx:=CXS 105 [] w (Foot (SdM s q))) [(0,.pointer (some ⟨s.S,0,none⟩))] zaa Tryz.func211 rfl rfl rfl rfl hm ?_
 generalize hV:zoU s.d.L s.most q.a q.o=V
 unfold zoU at hV
 refine gGw ?_;(repeat ((first|refine .mk fun Ap capp=>?_|intro _);(conv=>whnf);refine gG0 ?_))
 rename_i bR bB
 refine⟨zaR,zac (m1:=BdM s.d q.a) (by repeat constructor) (fun w' hm'=>zbx s.d q.a 1 w' hd0 (by omega) (by omega) hm'.part) ?_⟩
 rintro e m' (⟨h1,rfl,rfl⟩|⟨h1,rfl,rfl⟩)
 rotate_left
 ·rw [zbR h1] at hV
  refine gGw ?_
  refine br_n (br_f rfl ?_)
  refine gGw ?_
  exact zbW rfl rfl (ldN zaa (by repeat constructor) rfl rfl rfl rfl) rfl (fun w' hm=>⟨SdM s q,⟨.i64,0,_,_,_,120,false,q,hok0,rfl,rfl,.inr ⟨by decide,_,hV.symm⟩⟩,hm.sl⟩)
 rw [zbQ h1] at hV
 simp only at hV
 generalize numU ((s.d.L.drop q.a).take 1)=last at hV ⊢
 refine gGw ?_
 refine br_n (br_t rfl ?_)
 refine gGw ?_
 refine⟨zaR,zac (m1:=BdM s.d (q.a+1)) (by repeat constructor) (fun w' hm'=>zbx s.d (q.a+1) 2 w' hd0 (by omega) (by omega) hm'.part) ?_⟩
 rintro e m' (⟨h2,rfl,rfl⟩|⟨h2,rfl,rfl⟩)
 rotate_left
 ·rw [zbR h2] at hV
  refine gGw ?_
  refine br_n (br_f rfl ?_)
  refine gGw ?_
  exact zbW rfl rfl (ldN zaa (by repeat constructor) rfl rfl rfl rfl) rfl (fun w' hm=>⟨SdM s { q with a:=q.a+1 },⟨.i64,0,_,_,_,120,false,{ q with a:=q.a+1 },hok0.at_ (by omega),rfl,rfl,.inr ⟨by decide,_,hV.symm⟩⟩,hm.sl⟩)
 rw [zbQ h2] at hV
 simp only at hV
 have hbk:=zeV hL (q.a+1) 2
 generalize numU ((s.d.L.drop (q.a+1)).take 2)=kind at hbk hV ⊢
 replace hV:blkV last (zwS s.d.L s.most kind (q.a+1+2) q.o)=V:=by rw [← hV];unfold blkV;rfl
 obtain ⟨p,hpq⟩:∃ p:Sq,p={ q with a:=q.a+1+2 }:=⟨_,rfl⟩
 have hp:SqOk s p:=hpq ▸ hok0.at_ h2
 have epa:p.a=q.a+1+2:=by rw [hpq]
 have epo:p.o=q.o:=by rw [hpq]
 have hpm:=hp.m
 have hpo:=hp.o
 have hlt:q.a<p.a:=by omega
 have hlb:decide ((last:Int)=1)=decide (last=1):=by
  by_cases h:last=1
  ·rw [decide_eq_true h,decide_eq_true (by omega)]
  ·rw [decide_eq_false h,decide_eq_false (by omega)]
 rw [← epa,← epo] at hV
 unfold zwS at hV
 have hcut:∀ m1:Mem,BdM s.d (q.a+1+2)++.blk s.S (.cells [.pointer (some ⟨s.d.B,0,none⟩),.slice q.A q.o.length q.c,.int .i64 s.most].toArray 318)::BR8 q.A q.c q.o.length q.o::m1=BdM s.d (q.a+1+2)++.blk s.S (.cells [.pointer (some ⟨s.d.B,0,none⟩),.slice q.A q.o.length q.c,.int .i64 s.most].toArray 318)::BR8 q.A q.c q.o.length q.o::m1:=fun _=>rfl
 clear hcut
 refine gGw ?_
 refine br_n (br_t rfl ?_)
 refine gGw ?_
 refine br_d (fun hk0=>?_) (fun hk0=>?_)
 ·rw [if_pos (by omega)] at hV
  refine gGw ?_
  refine⟨ziY,zac (m1:=SdM s p) (by rw [hpq];exact (by repeat constructor)) (fun w' hm'=>zmK s p w' hp hm'.part) ?_⟩
  intro e m' hKR
  obtain ⟨z,q5,hZ,hq5,rfl,rfl⟩:=hKR.one
  have h5o:=hq5.o
  have h5a:=hq5.a
  refine gGw ?_
  exact zbW rfl rfl (ldN zaa (by repeat constructor) rfl rfl rfl rfl) rfl (fun w' hm=>⟨SdM s q5,⟨.i64,(kind:Nat),_,_,_,z,decide ((last:Int)=1),q5,hq5,rfl,rfl,hZ.blk hV hlb hlt⟩,hm.sl⟩)
 rw [if_neg (by omega)] at hV
 refine gGw ?_
 refine br_d (fun hk1=>?_) (fun hk1=>?_)
 ·rw [if_pos (by omega)] at hV
  unfold zvF at hV
  have hfl:=zkS
  have hdl:=zkT
  have hfn:=zsa
  have hdn:=zsc
  refine gGw ?_
  refine⟨zkd,zac (m1:=[]) .nil (fun w' hm'=>zps w') ?_⟩
  rintro e m' ⟨rfl,rfl⟩
  generalize fixL=L at hV hfl hfn ⊢
  generalize fixD=D at hV hdl hdn ⊢
  refine gGw ?_;(repeat ((first|refine .mk fun Ap capp=>?_|intro _);(conv=>whnf);refine gG0 ?_))
  rename_i bL bD
  refine zaT (b:=bL) (off:=0) (cs':=L.map (Value.int .i64)) zaa rfl (by repeat constructor) (by rw [zav,List.length_map];exact hfl) (by rw [zav];exact zbt _ _) (Nat.ble_eq_true_of_le (by rw [zav,List.length_map,hfl];decide)) (by rw [zav];exact zb3 _ _ (by rw [List.length_map,hfl];rfl)) ?_
  conv=>whnf
  refine zaT (b:=bD) (off:=0) (cs':=D.map (Value.int .i64)) zaa rfl (by repeat constructor) (by rw [zav,List.length_map];exact hdl) (by rw [zav];exact zbt _ _) (Nat.ble_eq_true_of_le (by rw [zav,List.length_map,hdl];decide)) (by rw [zav];exact zb3 _ _ (by rw [List.length_map,hdl];rfl)) ?_
  conv=>whnf
  refine zcH 3 zaa mixed (by kernel_rfl) rfl rfl ?_
  refine gGw ?_
  refine And.intro ⟨by omega,by omega,by omega,Pl.mk _ _⟩ ?_
  refine gGw ?_
  refine And.intro ⟨by omega,by omega,by omega,Pl.mk _ _⟩ ?_
  refine gGw ?_
  refine⟨zfv,zcm (SubM.torow (b:=bL) (n:=288) (by repeat constructor) (by rw [List.length_map];exact hfl) rfl) (zcm (SubM.torow (b:=bD) (n:=32) (by repeat constructor) (by rw [List.length_map];exact hdl) rfl) ?_)⟩
  refine zac (m1:=SdM s p) (R:=KR s p (zdP s.d.L L D s.most (zfY s.d.L) p.a p.o)) (by rw [hpq];exact (by repeat constructor)) ?_ ?_
  ·intro w' hm'
   refine zhT s p L D (some ⟨bL,0,none⟩) (some ⟨bD,0,none⟩) 288 32 288 32 w' hfl hdl hp hfn hdn (stb hm' ?_) (stb hm' ?_) hm'.part
   ·intro w'' hm''
    exact rowI (hm''.ok _ (List.mem_cons_of_mem _ (List.mem_cons_self ..)))
   ·intro w'' hm''
    exact rowI (hm''.ok _ (List.mem_cons_self ..))
  intro e m' hKR
  obtain ⟨z,q5,hZ,hq5,rfl,rfl⟩:=hKR.one
  have h5o:=hq5.o
  have h5a:=hq5.a
  refine gGw ?_
  exact zbW rfl rfl (ldN zaa (by repeat constructor) rfl rfl rfl rfl) rfl (fun w' hm=>⟨SdM s q5,⟨.i64,(kind:Nat),_,_,_,z,decide ((last:Int)=1),q5,hq5,rfl,rfl,hZ.blk hV hlb hlt⟩,hm.sl⟩)
 rw [if_neg (by omega)] at hV
 refine gGw ?_
 refine br_d (fun hk2=>?_) (fun hk2=>?_)
 rotate_left
 ·rw [if_neg (by omega)] at hV
  have hZ:KZ p (.error 150) 150 p:=.inr ⟨by decide,_,rfl⟩
  refine gGw ?_
  exact zbW rfl rfl (ldN zaa (by repeat constructor) rfl rfl rfl rfl) rfl (fun w' hm=>⟨SdM s p,⟨.i64,(kind:Nat),_,_,_,150,decide ((last:Int)=1),p,hp,rfl,rfl,hZ.blk hV hlb hlt⟩,by rw [hpq];exact hm.sl⟩)
 rw [if_pos (by omega)] at hV
 unfold zoS at hV
 refine gGw ?_
 refine⟨zmO,zac (m1:=SdM s p) (by rw [hpq];exact (by repeat constructor)) (fun w' hm'=>zt7 s p w' hp hm'.part) ?_⟩
 rintro e m' (⟨q4,r,k,A,c,he,hq4o,hq4,hpq4,hkr,hrc,hLr,rfl,rfl⟩|⟨⟨y,he⟩,z,q5,hz,hq5,rfl,rfl⟩)
 rotate_left
 ·rw [he] at hV
  have hZ:KZ p (.error y) z q5:=.inr ⟨hz,_,rfl⟩
  have h5o:=hq5.o
  have h5a:=hq5.a
  refine gGw ?_
  refine br_f (decide_eq_false hz) ?_
  refine gGw ?_
  exact zbW rfl rfl (ldN zaa (by repeat constructor) rfl rfl rfl rfl) rfl (fun w' hm=>⟨SdM s q5,⟨.i64,(kind:Nat),_,_,_,z,decide ((last:Int)=1),q5,hq5,rfl,rfl,hZ.blk hV hlb hlt⟩,hm.sl⟩)
 rw [he] at hV
 simp only at hV
 refine gGw ?_
 rw [← hq4o] at hV
 refine br_t rfl ?_
 refine gGw ?_
 refine⟨zfv,?_⟩
 refine zac (m1:=SdM s q4) (R:=KR s q4 (zdP s.d.L (r.take k) (r.drop k) s.most (zfY s.d.L) q4.a q4.o)) (by repeat constructor) ?_ ?_
 ·intro w' hm'
  refine zhT s q4 (r.take k) (r.drop k) A (cutA A c k 1) c (c-k) k (r.length-k) w' (by rw [List.length_take];omega) (by rw [List.length_drop]) hq4 (hLr.take k) (hLr.drop k) (stb hm' ?_) (stb hm' ?_) hm'.part
  ·intro w'' hm''
   have h:=rowI (hm''.ok (IR A c r.length r) (List.mem_cons_self ..))
   exact IntsIn.take_ (ys:=r.drop k) (by rw [List.take_append_drop];exact h)
  ·intro w'' hm''
   have h:=IntsIn.sub (rowI (hm''.ok (IR A c r.length r) (List.mem_cons_self ..))) c k (r.length-k) (by omega) hrc
   rwa [List.take_of_length_le (by rw [List.length_drop];omega)] at h
 intro e m' hKR
 obtain ⟨z,q5,hZ,hq5,rfl,rfl⟩:=hKR.one
 have h5o:=hq5.o
 have h5a:=hq5.a
 replace hlt:q.a<q4.a:=by omega
 refine gGw ?_
 exact zbW rfl rfl (ldN zaa (by repeat constructor) rfl rfl rfl rfl) rfl (fun w' hm=>⟨SdM s q5,⟨.i64,(kind:Nat),_,_,_,z,decide ((last:Int)=1),q5,hq5,rfl,rfl,hZ.blk hV hlb hlt⟩,hm.sl⟩)
end Go.Proofs.YtlmgelmloddfgaaGreat
namespace Go.Proofs.YtlmgelmloddfgaaGreat
open Go Go.RowKit Eng
def unpV (most:Int):Except Int (Nat × List UInt8)→Bool
 | .error _=>true
 | .ok (_,o)=>!decide ((o.length:Int)=most)
theorem fin4 {cx:Cx} {fn:Func} {R:Ending→World→Prop} {e:Env} {m:Mem} {t u s r:Tmp} (hr:fn.results=#[.tmp t,.tmp u,.tmp s,.tmp r]) {v v' v'' v3:Value} (hv:e.get t=some v) (hv':e.get u=some v') (hv'':e.get s=some v'') (hv3:e.get r=some v3) (h:∀ w,MemOk cx.w0 cx.S m w→R (.returned (.tuple #[v,v',v'',v3])) w):fin cx fn R .ret e m :=
 ⟨[v,v',v'',v3],by rw [hr];exact⟨v,[v',v'',v3],hv,rfl,v',[v'',v3],hv',rfl,v'',[v3],hv'',rfl,v3,[],hv3,rfl,rfl⟩,h⟩
attribute [local irreducible] Br Rn RnU Cl RdG CpG Ld Rd Lp Dr Oth Cut fin Fits Eng.Enters Md NA
set_option maxHeartbeats 2000000 in
theorem zmI:zda zhq:=by
 intro A c bs most w hb hbl hmo
 refine enter (cx:=CXS 54 [] w (Foot [])) [(0,.slice A bs.length c),(1,.int .i64 most)] zaa Tryz.func188 rfl rfl rfl rfl (MemOk.nil w _) ?_
 have h1:=fun m=>BytsIn.byts (cx:=CXS 54 [] w (Foot [])) (m:=m) hb zao
 have hLb:=zsG bs
 have hLl:=zqr bs
 have hU:∃ R,zhJ (zdr bs) most (zfY (zdr bs)) 0 []=R∧zhq bs most=unpV most R:=⟨_,rfl,by unfold zhq unpV;rfl⟩
 obtain ⟨R,hR,hU⟩:=hU
 rw [hU]
 refine gGw ?_
 refine br_f (by rw [decide_eq_false (by omega),decide_eq_false (by omega)];rfl) ?_
 refine gGw ?_
 refine⟨zo2,zac (m1:=[]) .nil (fun w' hm'=>(zv0 bs A c w' ((h1 []).in_ hm') (by omega)).ex) ?_⟩
 rintro e m' ⟨⟨B,d,rfl,rfl⟩,w9,hok9⟩
 rw [← hLl] at hok9 ⊢
 have hcap:(zdr bs).length≤d:=zeO (hok9 _ (List.mem_cons_self ..))
 generalize zdr bs=L at hLb hLl hR hcap ⊢
 refine gGw ?_;(repeat ((first|refine .mk fun Ap capp=>?_|intro _);(conv=>whnf);refine gG0 ?_))
 rename_i dB sS
 obtain ⟨sd,hsd⟩:∃ sd:Sd,sd=⟨sS,most,⟨dB,B,d,L⟩⟩:=⟨_,rfl⟩
 have eL:sd.d.L=L:=by rw [hsd]
 have eM:sd.most=most:=by rw [hsd]
 have eS:sd.S=sS:=by rw [hsd]
 have hok0:SqOk sd ⟨none,0,[],0⟩:=by
  rw [hsd]
  exact⟨by show L.length%8=0;omega,⟨hLb,by show L.length≤160000;omega,hcap⟩,Nat.zero_le _,hmo.1,hmo.2⟩
 rw [← eL,← eM] at hR
 refine lp zaa (γ:=Sq × Nat × Option Addr × Nat × Nat × List Value) (fun g=>SqOk sd g.1∧sd.d.L.length+1≤g.2.1+g.1.a∧g.2.2.2.2.1≤g.1.a∧zhJ sd.d.L sd.most g.2.1 g.1.a g.1.o=R)
  (fun g=>[(9,.slice g.2.2.1 g.2.2.2.2.1 g.2.2.2.1),(8,.pointer (some ⟨sd.S,0,none⟩))])
  (fun g=>.row g.2.2.1 g.2.2.2.1 g.2.2.2.2.1 226 5 g.2.2.2.2.2::SdM sd g.1) (fun g=>g.2.1) (⟨none,0,[],0⟩,zfY sd.d.L,none,0,0,[]) ⟨hok0,by show sd.d.L.length+1≤(sd.d.L.length+1)+0;omega,Nat.le_refl _,hR⟩ ⟨rfl,by rw [eS];rfl,trivial⟩ ?_ ?_
 ·rw [hsd]
  intro w' hm'
  exact SubM.row0 (SubM.refl _ _) _ _ w' (SubM.sel (by repeat constructor) w' (SubM.row0 (SubM.refl _ _) 5 1 w' hm'))
 clear hR
 rintro ⟨q,f,lA,lc,n,xs⟩ ⟨hq,hf,hn,hR⟩
 simp only at hq hf hn hR
 dsimp only
 have hqa:=hq.a
 have hdl:=hq.d.len
 obtain ⟨f,rfl⟩:∃ f',f=f'+1:=⟨f-1,by omega⟩
 rw [zhJ] at hR
 refine gGw ?_
 refine⟨zkc,zac (m1:=SdM sd q) (by repeat constructor) (fun w' hm'=>zpr sd q w' hq hm'.part) ?_⟩
 rintro e m' ⟨kd,k,fr,to,nb,z,last,q5,hq5,rfl,rfl,⟨rfl,hB,hlt⟩|⟨hz,y,hB⟩⟩
 rotate_left
 ·rw [hB] at hR
  refine gGw ?_;(repeat ((first|refine .mk fun Ap capp=>?_|intro _);(conv=>whnf);refine gG0 ?_))
  refine br_n (br_f (decide_eq_false hz) ?_)
  refine gGw ?_
  exact fin4 rfl rfl rfl rfl rfl (fun w' hm=>⟨[],⟨⟨_,_,_,_,_,_,_,_,rfl,by rw [← hR,decide_eq_false hz];rfl⟩,rfl⟩,hm.sublist (List.nil_sublist _)⟩)
 have h5a:=hq5.a
 rw [hB] at hR
 simp only at hR
 refine gGw ?_;(repeat ((first|refine .mk fun Ap capp=>?_|intro _);(conv=>whnf);refine gG0 ?_))
 refine br_n (br_t rfl ?_)
 refine gGw ?_;(repeat ((first|refine .mk fun Ap capp=>?_|intro _);(conv=>whnf);refine gG0 ?_))
 refine br (fun hl=>?_) (fun hl=>?_)
 ·rw [if_pos hl] at hR
  conv=>whnf
  refine zar zaa mixed (by kernel_rfl) rfl ?_;conv=>whnf
  refine gG0 ?_
  refine fin4 rfl rfl rfl rfl rfl (fun w' hm=>⟨[],⟨⟨_,_,_,_,_,_,_,_,rfl,?_⟩,rfl⟩,hm.sublist (List.nil_sublist _)⟩)
  rw [← hR]
  rfl
 ·rw [if_neg (by rw [hl];decide)] at hR
  refine gGw ?_
  exact⟨(q5,f,Ap,capp,n+1,_),⟨hq5,by show sd.d.L.length+1≤f+q5.a;omega,by show n+1≤q5.a;omega,hR⟩,by show f<f+1;omega,⟨rfl,rfl,trivial⟩,SubM.sl⟩
end Go.Proofs.YtlmgelmloddfgaaGreat
namespace Go.Proofs.YtlmgelmloddfgaaGreat
open Go Go.ChangeShapes Go.WideShapes Go.ChangeAt Go.RowKit Go.Deep Eng
namespace Row15
theorem own:ownKnob Tryz.prog.godebug=Option.none:=by kernel_rfl
theorem zoz:laidOutB Tryz.prog=true:=by kernel_rfl
theorem u_u8:Tryz.prog.underlying 5=some (.int .u8):=by kernel_rfl
theorem zqM:Tryz.prog.underlying 3=some (.int .i64):=by kernel_rfl
theorem zxt:Tryz.prog.underlying 4=some .bool:=by kernel_rfl
theorem zqN:Tryz.prog.underlying 22=some (.slice 5):=by kernel_rfl
theorem zvk:Tryz.prog.underlying 23=some (.slice 3):=by kernel_rfl
theorem c_u8:Tryz.prog.cellsOf 5=1:=by kernel_rfl
theorem c_int:Tryz.prog.cellsOf 3=1:=by kernel_rfl
theorem b_u8:Tryz.prog.bytesOf 5=1:=by kernel_rfl
theorem b_int:Tryz.prog.bytesOf 3=8:=by kernel_rfl
variable {H:Type} {enc:TypeId × Value→H} {w:World}
theorem zlZ {k:IntKind} {t e:TypeId} {base fuel:Nat} {sp:Nat→Bool} {hd:Bool} {c:Value} {x:DataW H × List MemPlace} (ht:Tryz.prog.underlying t=some (.slice e)) (he:Tryz.prog.underlying e=some (.int k)) (hc:Tryz.prog.cellsOf e=1)
  (h:DataW.trod enc Tryz.prog w base sp hd fuel t [c]=some x) (hb:1≤Tryz.prog.bytesOf e) (hz:∀ n∈x.1.weights Tryz.prog t,n≤reachBytes) :
  ∃ A cap,∃ xs:List Int,c=.slice A xs.length cap∧xs.length≤cap∧xs.length≤140737488355328∧(∀ x∈xs,(Lit.int k x).wf=true)∧IntsIn k w A xs:=by
 rcases open_slice1 ht hc h with ⟨h1,_⟩|⟨a,len,cap,m,n,V,D,Pl,h1,_,hl,_,hm,hx,hv⟩
 ·exact⟨none,0,[],by simpa using h1,Nat.le_refl _,by simp,fun x hx=>(by cases hx),fun h=>absurd h (by simp)⟩
 have hlm:len≤m:=by rw [hm];split<;>omega
 have hv':∀ i,i<len→∃ z:Int,V i=.int k z∧(Lit.int k z).wf=true:=fun i hi=>by
  obtain ⟨z,hz1,_,hz2⟩:=DataW.trod_int he (hv i (by omega)).2
  exact⟨z,by simpa using hz1,hz2⟩
 have hlen:((List.range len).map fun i=>match V i with|.int _ z=>z|_=>0).length=len:=by simp
 refine⟨some a,cap,(List.range len).map fun i=>match V i with|.int _ z=>z|_=>0,by rw [hlen];simpa using h1,by rw [hlen];exact hl,?_,fun x hx=>?_,fun hp=>?_⟩
 ·have:=hz ((len+(m-len))*Tryz.prog.bytesOf e) (by rw [hx];simp [DataW.weights,ht])
  have h2:len*1≤(len+(m-len))*Tryz.prog.bytesOf e:=Nat.mul_le_mul (by omega) hb
  simp only [reachBytes] at this
  rw [hlen]
  omega
 ·obtain ⟨i,hi,rfl⟩:=List.mem_map.1 hx
  obtain ⟨z,h1,h2⟩:=hv' i (List.mem_range.1 hi)
  simp only [h1];exact h2
 ·rw [hlen] at hp ⊢
  have h0:=(hv 0 (by omega)).1
  obtain ⟨b,o,s⟩:=a
  cases s with
  | some q =>
   exfalso
   simp only [Addr.add,World.cell?] at h0
   revert h0
   simp
   split<;>simp
  | none =>
   refine⟨b,o,rfl,fun i hi=>?_⟩
   obtain ⟨z,h1,_⟩:=hv' i hi
   have:=(hv i (by omega)).1
   rw [Addr.add_lit,h1] at this
   rw [List.getD_eq_getElem?_getD,List.getElem?_map,List.getElem?_range hi]
   simpa [h1] using this
theorem zvd {xs:List Int} (h:∀ x∈xs,(Lit.int .u8 x).wf=true):∃ bs:List UInt8,zah bs=xs:=by
 induction xs with
 | nil=>exact⟨[],rfl⟩
 | cons x r ih =>
  obtain ⟨bs,hb⟩:=ih fun y hy=>h y (List.mem_cons_of_mem _ hy)
  have hx:=(Lit.wf_int_iff .u8 x).1 (h x (List.mem_cons_self ..))
  have h1:0≤x∧x≤255:=hx
  refine⟨UInt8.ofNat x.toNat::bs,?_⟩
  show ((UInt8.ofNat x.toNat).toNat:Int)::zah bs=_
  rw [hb,UInt8.toNat_ofNat',Nat.mod_eq_of_lt (by omega),Int.toNat_of_nonneg (by omega)]
end Row15
namespace CheckData
open Row15
theorem params:Tryz.f3.params.toList=[22,23]:=by kernel_rfl
/-- WHAT THE WALK GIVES, FOR EVERY ARGUMENT. -/
theorem zu9 (H:Type) (enc:TypeId × Value→H) (W:World) (base:Nat) (args:Array Value) (ds gs:List (DataW H)) (before:List MemPlace)
  (hval:∀ (j:Nat) t v,Tryz.f3.params[j]?=some t→args[j]?=some v→Value.okWide Tryz.prog W .any base t v)
  (hW:DataW.Whole enc Tryz.prog Tryz.f3.params.toList Rows.checkDataSpec.vars false W args.toList ds gs before)
  (hz:(DataW.weightsEach Tryz.prog (Tryz.f3.params.toList++(OpenSpec.ofChange Rows.checkDataSpec).bare.plain.varTypes Tryz.prog) (ds++gs)).all (·≤reachBytes)=true) :
  Calls Tryz.prog 3 args W fun e W'=>∃ v,e=.returned v∧Rows.checkDataSpec.post enc Tryz.prog Tryz.f3 false true false false W args v W':=by
 have hW':=hW
 obtain ⟨p,q,hA0,hV,rfl,hfz,hnd⟩:=hW
 have hA:DataW.TrodAll enc Tryz.prog W 0 (fun _=>true) true Tryz.f3.params.toList args.toList ds p:=hA0
 rw [params] at hA hz
 obtain ⟨v0,v1,d0,d1,p0,p1,hargs,rfl,rfl,h0,h1⟩:=trodAll_two hA
 subst hargs
 obtain ⟨a0,len0,cap0,rfl⟩:=okWide_slice zqN (hval 0 22 v0 (by kernel_rfl) rfl)
 obtain ⟨a1,len1,cap1,rfl⟩:=okWide_slice zvk (hval 1 23 v1 (by kernel_rfl) rfl)
 obtain ⟨rfl,rfl⟩:=trodVars_none hV
 clear hA0 hA
 simp only [List.append_nil] at hW'
 have hlt:∀ x∈p0++p1,x.block<W.heap.size:=fun x hx=>by simpa using hW'.lt x hx
 have h0k:=h0
 have h1k:=h1
 obtain ⟨n0,e0⟩:=h0
 obtain ⟨n1,e1⟩:=h1
 have hz0:∀ n∈d0.weights Tryz.prog 22,n≤reachBytes:=fun n hn=>by
  have:=List.all_eq_true.1 hz n (DataW.weights_mem_each (j:=0) (t:=22) (d:=d0) rfl rfl n hn)
  simpa using this
 have hz1:∀ n∈d1.weights Tryz.prog 23,n≤reachBytes:=fun n hn=>by
  have:=List.all_eq_true.1 hz n (DataW.weights_mem_each (j:=1) (t:=23) (d:=d1) rfl rfl n hn)
  simpa using this
 obtain ⟨A,c,xs,hcs,hcap,hn,hwf,hin⟩:=zlZ zqN u_u8 c_u8 e0 (by rw [b_u8];omega) hz0
 obtain ⟨T,tc,ts,hct,htcap,htn,htwf,htin⟩:=zlZ zvk zqM c_int e1 (by rw [b_int];omega) hz1
 injection hcs with ha hl hc
 injection hct with ha' hl' hc'
 subst ha hl hc ha' hl' hc'
 obtain ⟨bs,rfl⟩:=zvd hwf
 rw [zag] at hcap hn
 have hti:∀ x∈ts,-9223372036854775808≤x∧x≤9223372036854775807:=fun x hx=>(Lit.wf_int_iff .i64 x).1 (htwf x hx)
 have key:=zrP zhq zmI bs ts a0 a1 cap0 cap1 W hin htin hn htn hcap hti
 rw [← zag bs] at key
 refine Calls.mono key fun e W' ⟨m',⟨he,hm0⟩,hm⟩=>?_
 subst he hm0
 have hb:Below W.heap.size W W':=(hm.fr.mono (T:=fun _=>False) (fun k _ ⟨r,hr,_⟩=>by cases hr)).below
 exact⟨_,rfl,_,_,_,[],p0++p1,[],hW',trodAll_mk1 (shut_bool zxt _),trodAll_mk2 (Below.trod zoz (by kernel_rfl) (of_decide_eq_true (by kernel_rfl)) h0k hb (fun x hx=>hlt x (List.mem_append_left _ hx))) (Below.trod zoz (by kernel_rfl) (of_decide_eq_true (by kernel_rfl)) h1k hb (fun x hx=>hlt x (List.mem_append_right _ hx))),rfl,hb.frame _,fun h=>by cases h⟩
end CheckData
end Go.Proofs.YtlmgelmloddfgaaGreat
namespace Go.Proofs.YtlmgelmloddfgaaGreat
open Go Go.ChangeShapes Go.WideShapes Go.ChangeAt Go.RowKit
namespace CheckData
open Row15
noncomputable abbrev W0 (os:Os):World:=World.laidAll Tryz.prog os Rows.checkDataRow.laid
abbrev A0:Array Value:=#[.slice none 0 0,.slice none 0 0]
theorem reads (os:Os) {H:Type} (enc:TypeId × Value→H):DataW.whole enc Tryz.prog ((W0 os).forCall (fun _ _=>0) ⟨#[],A0,[]⟩).memory Tryz.f3.params.toList Rows.checkDataSpec.vars false A0.toList 8 =
  some ([.nil,.nil],[],[]):=by kernel_rfl
theorem zuL (os:Os):laidMet Tryz.prog Rows.checkDataRow.laid ((W0 os).forCall (fun _ _=>0) ⟨#[],A0,[]⟩).memory:=laidMet_laidAll _ (by kernel_rfl) (by kernel_rfl)
theorem lifted (os:Os) (started:os.Started) (H:Type) (enc:TypeId × Value→H) (F:Stop.Interp) :
  ReturnsInHanded {} Tryz.checked os 3 .any ((OpenSpec.ofChange Rows.checkDataSpec).preRow enc Tryz.prog Tryz.f3 Rows.checkDataRow.domain false Rows.checkDataRow.laid) (((OpenSpec.ofChange Rows.checkDataSpec).at F).post enc Tryz.prog Tryz.f3 false true false false):=by
 refine returnsInHanded_of_row (C:=Tryz.checked) (s:=OpenSpec.ofChange Rows.checkDataSpec) own started (by kernel_rfl) Tryz.func3
  (witness_row_at (enc:=enc) (C:=Tryz.checked) false (W0 os) A0 (World.laidAll_os _ _ _) (by kernel_rfl) (by kernel_rfl) (by kernel_rfl)
   (OpenSpec.preRow_of_cond 8 (reads os enc) (by kernel_rfl) (fun k hk=>by cases hk) (by kernel_rfl) (zuL os))) ?_
 intro W base args ds gs before hval hW _ _ hz _ _ _
 exact zu9 H enc W base args ds gs before hval hW hz
theorem named:Tryz.prog.funcNamed Rows.checkDataRow.func=some 3:=by kernel_rfl
theorem inst:Tryz.f3.isInstance Tryz.prog Rows.checkDataRow.origin Rows.checkDataRow.targs:=of_decide_eq_true (by kernel_rfl)
theorem wrap:Tryz.f3.isWrapper Tryz.prog Rows.checkDataRow.wrapper Rows.checkDataRow.mainSum:=by unfold Func.isWrapper;first|(rw [if_pos (by decide +kernel)];kernel_rfl)|(rw [if_neg (by decide +kernel)];exact⟨rfl,rfl⟩)
end CheckData
end Go.Proofs.YtlmgelmloddfgaaGreat
