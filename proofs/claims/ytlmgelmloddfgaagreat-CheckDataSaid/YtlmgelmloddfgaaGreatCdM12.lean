/- Part of a proof: contracts of the functions that the law reaches. No statement of the seat is proved here. -/
import Derived.Test.YtlmgelmloddfgaaGreatCdM11
set_option linter.unusedVariables false
set_option linter.unusedSimpArgs false
set_option linter.unusedSectionVars false
set_option maxRecDepth 100000
namespace Go.Proofs.YtlmgelmloddfgaaGreat
open Go Go.RowKit Eng
theorem zds:∀ (l:List Ev) (s:RS),s.active=false→zaw s (zdj l)=zaw s l∧(zaw s l).active=false
 | [],s,h=>⟨rfl,h⟩
 | e::l,s,h=>by
  have hs:(appR s e).active=false:=by cases e<;>simp [appR,h]
  have ih:=zds l (appR s e) hs
  refine⟨?_,ih.2⟩
  have h2:zdj (e::l)=if e.count then zdj l else e::zdj l:=by
   unfold zdj
   cases hc:e.count<;>simp [List.filter_cons,hc]
  rw [h2]
  show _=zaw (appR s e) l
  cases e<;>simp only [Ev.count,if_true,Bool.false_eq_true,if_false]
  ·exact ih.1
  ·exact ih.1
  ·have e1:appR s .data=s:=by simp [appR,h]
   rw [e1] at ih ⊢;exact ih.1
  ·have e1:appR s .packed=s:=by simp [appR,h]
   rw [e1] at ih ⊢;exact ih.1
  ·have e1:appR s .zero=s:=by simp [appR,h]
   rw [e1] at ih ⊢;exact ih.1
theorem zf5 {U:List UInt8→Int→Bool} {p:WP} (hp:p.Ok) (hlb:p.bs.length≤20000) (a long st:Int):(zbB U p a long st).length≤90000000:=by
 have hnb:=n_bd hp
 have h1:=zb9 hp a (8*long) st 0
 unfold zbB
 split
 ·simp
 ·rw [List.length_append]
  split
  ·rename_i hw
   have hle:=zaI hp hw
   have h2:=zh9 (f:=fun i=>tL1 U p (a+8*(i:Nat))) (M:=24577) long.toNat (fun k=>zqW hp _)
   omega
  ·simp;omega
theorem zrN {p:WP} {a l:Int} (h:0≤a∧0≤l∧a+l≤p.bs.length):(liB p a l).length=l.toNat:=by
 unfold liB
 rw [List.length_take,List.length_drop]
 omega
theorem zww (A:Option Addr) (c m:Nat) (bs:List UInt8) (bits n:Int) (w:World) (hm:bs.length=m) (hb:BytsIn w A bs) (hl:m≤20000000) (hc:m≤c) (hbits:9≤bits∧bits≤16) (hn:0≤n∧n≤64) :
  Ctr Tryz.prog 116 [.int .i64 bits,.slice A m c,.int .i64 n] [] (zvQ (zaQ bits bs n)) w:=by
 subst hm
 exact zrj A c bs bits n w hb hl hc hbits hn
theorem zwx (A:Option Addr) (c m:Nat) (bs:List UInt8) (bits n:Int) (w:World) (hm:bs.length=m) (hb:BytsIn w A bs) (hl:m≤20000000) (hc:m≤c) (hbits:9≤bits∧bits≤16) (hn:0≤n∧n≤64) :
  Ctr Tryz.prog 118 [.int .i64 bits,.slice A m c,.int .i64 n] [] (zvR (za3 bits bs n)) w:=by
 subst hm
 exact zrk A c bs bits n w hb hl hc hbits hn
theorem zeW {cx:Cx} (ht:TabOk cx.P cx.tab) {m:Mem} {A:Option Addr} {cap n t' t:Nat} {ti:TyI} {α:Type} {f:α→List Value} {k:Nat} {L:List α} (hh:Has m (.row A cap n t' k (L.flatMap f))) (hf:∀ x,(f x).length=k) (hi:cx.tab.get t=some ti) (hk:ti.kind.flat=true) {i j:Nat} {x:α} {v:Value} (hx:L[i]?=some x) (hj:(f x)[j]?=some v) :
  Ld cx m t (.pointer (pl (pl A (mulC i k)) j)) v:=by
 intro w hm
 obtain ⟨b,rfl,hc⟩:=zaV (hm.ok _ hh.mem) (zer hf hx hj)
 refine zeK (ht _ _ hi) hk ?_
 show w.cell? ⟨b,0+mulC i k+j,none⟩=some v
 rw [zcD,Nat.zero_add]
 simpa using hc
attribute [local irreducible] Br Rn RnU Cl RdG CpG Ld Rd Lp Dr Oth Cut fin Fits Eng.Enters Md NA
theorem zmU:Eng.Enters Tryz.prog 70:=zab fun _ _=>by kernel_rfl
set_option maxHeartbeats 4000000 in
theorem zuc (U:List UInt8→Int→Bool) (hU:zda U) (p:WP) (s:RS) (g:RG) (w:World) (hp:p.Ok) (hh:HL p.h) (hsl:0<p.h.snaps→1≤p.h.snapsLen) (hbl:0<p.h.bitmaps→1≤p.h.bitmapsLen) (hlb:p.bs.length≤20000) (hcap:p.bs.length≤p.cap) (hbits:9≤p.h.bits∧p.h.bits≤16) (hcb:p.c=clus p.h.bits) (hl:s.len≤500000000) (hact:s.active=false) (hb:BInR p s g w) (hm:MemOk w (Foot (rM p s g)) (rM p s g) w) :
  Ctr Tryz.prog 70 [.pointer (some ⟨p.wB,0,none⟩)] (rM p s g) (RwR p (.tuple #[]) (zaw s (zby U zaQ p++zdY za3 p))) w:=by
 refine enter (cx:=⟨Tryz.prog,194,w,Foot (rM p s g),tab,[],[],[0],[]⟩) [(0,.pointer (some ⟨p.wB,0,none⟩))] zaa Tryz.func70 rfl rfl rfl rfl hm ?_
 have hc0:=hp.c0
 have hc1:=hp.c1
 have hlen:=hp.len
 have hnb:=n_bd hp
 obtain ⟨hsn,hsa,hsl2,hbn,hba,hbl2⟩:=hh
 rw [zbp]
 have hPl:0<p.bs.length→Pl p.A:=fun h=>by
  obtain ⟨b,o,h,_⟩:=hb.now (by rw [zag];omega)
  exact⟨b,o,h⟩
 conv=>whnf
 refine cut (γ:=RG) [] [] zaa (fun _=>(zaw s (zby U zaQ p)).len≤7000000000) (fun _=>[(0,.pointer (some ⟨p.wB,0,none⟩))]) (fun q=>rM p (zaw s (zby U zaQ p)) q) ?_ ?_
 ·skip
  obtain ⟨X,hX⟩:∃ X,zaw s (zby U zaQ p)=X:=⟨_,rfl⟩
  rw [hX]
  unfold zby at hX
  by_cases h0:p.h.snaps=0
  ·rw [if_pos h0] at hX
   subst hX
   conv=>whnf
   refine zar zaa mixed (by kernel_rfl) rfl ?_;conv=>whnf
   refine gG0 ?_
   refine br_f (decide_eq_false (by omega)) ?_
   refine gGw ?_
   refine br_f rfl ?_
   conv=>whnf
   exact⟨g,by show s.len≤7000000000;omega,⟨rfl,trivial⟩,SubM.sl⟩
  rw [if_neg h0] at hX
  conv=>whnf
  refine zcd (γ:=RG) (Tr.hs [0,1,2,3] (.sq [4] (.hs [5,6,7,8,9,10,11,13,14,15,16] (.alts 12 (.sq [17,18] (.hs [19] .done)) (.alts 17 (.sq [12,18] (.hs [19] .done)) .stop))))) [] zaa mixed (by kernel_rfl) rfl (fun _=>True)
   (fun _=>[(27,.bool (zay p p.h.snapsAt p.h.snapsLen)),(0,.pointer (some ⟨p.wB,0,none⟩))]) (fun g1=>rM p (zaw s (tRun p p.h.snapsAt p.h.snapsLen 56 0)) g1) SubM.sl ?_ ?_
  ·refine gGt ?_
   rw [decide_eq_true (show 0<p.h.snaps by omega)]
   refine gGt ?_
   refine⟨?_,?_⟩
   ·skip
    refine gGt ?_
    refine⟨zaY,zac (m1:=rM p s g) (by repeat constructor) (fun w' hm'=>zbC p s g p.h.snapsAt p.h.snapsLen 0 56 w' hp (by omega) (by omega) hcb (by omega) (by omega) (by omega) (by omega) hm'.part) ?_⟩
    rintro e' m' ⟨rfl,g4,rfl⟩
    conv=>whnf
    refine gGs ?_
    refine gGt ?_
    exact⟨g4,trivial,⟨rfl,rfl,trivial⟩,SubM.sl⟩
   ·refine⟨?_,trivial⟩
    refine gGt ?_
    refine⟨zaY,zac (m1:=rM p s g) (by repeat constructor) (fun w' hm'=>zbC p s g p.h.snapsAt p.h.snapsLen 0 56 w' hp (by omega) (by omega) hcb (by omega) (by omega) (by omega) (by omega) hm'.part) ?_⟩
    rintro e' m' ⟨rfl,g4,rfl⟩
    conv=>whnf
    refine gGs ?_
    refine gGt ?_
    exact⟨g4,trivial,⟨rfl,rfl,trivial⟩,SubM.sl⟩
  ·intro g1 _
   have hq1:=(zds (tRun p p.h.snapsAt p.h.snapsLen 56 0) s hact).2
   have hn1:=za1 (tRun p p.h.snapsAt p.h.snapsLen 56 0) s
   have ht1:=zb9 hp p.h.snapsAt p.h.snapsLen 56 0
   rw [zbp] at hX
   generalize zaw s (tRun p p.h.snapsAt p.h.snapsLen 56 0)=s1 at hq1 hn1 hX ⊢
   conv=>whnf
   refine br (fun hw=>?_) (fun hw=>?_)
   rotate_left
   ·rw [hw,if_neg (by decide)] at hX
    conv=>whnf
    exact⟨g1,by rw [← hX];show s1.len≤7000000000;omega,⟨rfl,trivial⟩,by rw [← hX];exact SubM.sl⟩
   rw [if_pos hw] at hX
   have hle:=zaI hp hw
   have hpl:=hPl (by omega)
   have hbl3:(liB p p.h.snapsAt p.h.snapsLen).length=(p.h.snapsAt+p.h.snapsLen).toNat-p.h.snapsAt.toNat:=by rw [zrN (by omega)];omega
   conv=>whnf
   refine zcd (γ:=Option (List Snp) × Option Addr × Nat) (Tr.hs [0,1,2,3,4,5,6,7,8,9,10,11,12,13,14,15,16,17,18,19,20,21,22,23,24,25,26,27,28,29,30] (.sq [31] (.hs [32,33,34,35,36] .done))) (rM p s1 g1) zaa mixed (by kernel_rfl) rfl (fun q=>zaQ p.h.bits (liB p p.h.snapsAt p.h.snapsLen) p.h.snaps=q.1)
    (fun q=>[(3,.bool q.1.isSome),(2,.slice q.2.1 (q.1.getD []).length q.2.2),(0,.pointer (some ⟨p.wB,0,none⟩))]) (fun q=>.row q.2.1 q.2.2 (q.1.getD []).length 175 4 ((q.1.getD []).flatMap Snp.cells)::rM p s1 g1) SubM.sl ?_ ?_
   ·refine gGw ?_
    refine And.intro ⟨by omega,by omega,by omega,.inr hpl⟩ ?_
    refine gGw ?_
    refine⟨zlK,zac (m1:=[]) .nil (fun w' hm'=>zww _ _ _ (liB p p.h.snapsAt p.h.snapsLen) p.h.bits p.h.snaps w' hbl3 (BytsIn.sub (hb w' hm'.fr) p.cap p.h.snapsAt.toNat p.h.snapsLen.toNat (by omega) hcap) (by omega) (by omega) hbits (by omega)) ?_⟩
    rintro e' m' (⟨hR,rfl,rfl⟩|⟨l,lA,lc,hR,rfl,rfl⟩)
    ·conv=>whnf
     refine gGs ?_
     refine gGw ?_
     exact⟨(none,none,0),hR,⟨rfl,rfl,rfl,trivial⟩,SubM.row0 SubM.sl _ _⟩
    ·conv=>whnf
     refine gGs ?_
     refine gGw ?_
     exact⟨(some l,lA,lc),hR,⟨rfl,rfl,rfl,trivial⟩,SubM.sl⟩
   ·rintro ⟨V,lA,lc⟩ hV
    simp only at hV
    rw [hV] at hX
    cases V with
    | none =>
     simp only at hX
     refine gGw ?_
     refine br_n (br_f rfl ?_)
     refine gGw ?_
     refine⟨zcz,zac (m1:=rM p s1 g1) (by repeat constructor) (fun w' hm'=>zfd p s1 g1 3 p.h.snapsAt w' (by omega) hm'.part) ?_⟩
     rintro e' m' ⟨rfl,g4,rfl⟩
     refine gGw ?_
     have hX2:appR s1 (.find ⟨3,p.h.snapsAt,0,0⟩)=X:=hX
     have hn2:=zhD s1 (.find ⟨3,p.h.snapsAt,0,0⟩)
     rw [hX2] at hn2 ⊢
     refine lp zaa (γ:=Unit) (fun _=>True) (fun _=>[(4,.int .i64 0),(3,.bool false),(2,.slice lA 0 lc),(0,.pointer (some ⟨p.wB,0,none⟩))]) (fun _=>rM p X g4) (fun _=>0) () trivial ⟨rfl,rfl,rfl,rfl,trivial⟩ SubM.sl ?_
     rintro ⟨⟩ _
     dsimp only
     refine gGw ?_
     refine br_f rfl ?_
     conv=>whnf
     exact⟨g4,by omega,⟨rfl,trivial⟩,SubM.sl⟩
    | some l =>
     simp only at hX
     obtain ⟨hlok,hl64⟩:=(zq7 _ p.cap (liB p p.h.snapsAt p.h.snapsLen) p.h.bits p.h.snaps w (BytsIn.sub hb.now p.cap p.h.snapsAt.toNat p.h.snapsLen.toNat (by omega) hcap) (by omega) (by omega) hbits (by omega)).1 l hV
     refine gGw ?_
     refine br_n (br_t rfl ?_)
     refine gGw ?_
     rw [(zds _ s1 hq1).1] at hX
     refine lp_w zaa (γ:=Nat × RG) (fun q=>q.1≤l.length) (fun q=>[(4,.int .i64 (q.1:Int)),(3,.bool true),(2,.slice lA l.length lc),(0,.pointer (some ⟨p.wB,0,none⟩))])
      (fun q=>.row lA lc l.length 175 4 (l.flatMap Snp.cells)::rM p (zaw s1 ((l.take q.1).flatMap fun x=>zbB U p x.l1 x.l1len p.h.snapsAt)) q.2) (fun q=>l.length-q.1) (0,g1) (Nat.zero_le _) ⟨rfl,rfl,rfl,rfl,trivial⟩ SubM.sl ?_
     rintro ⟨i,g3⟩ hi ⟨w9,hw9⟩
     simp only at hi hw9
     have hn2:=za1 ((l.take i).flatMap fun x=>zbB U p x.l1 x.l1len p.h.snapsAt) s1
     have hn3:=zmk (f:=fun x:Snp=>zbB U p x.l1 x.l1len p.h.snapsAt) (n:=90000000) (fun x=>zf5 hp hlb _ _ _) (l.take i)
     rw [List.length_take] at hn3
     obtain ⟨S,hS⟩:∃ S,S=zaw s1 ((l.take i).flatMap fun x=>zbB U p x.l1 x.l1len p.h.snapsAt):=⟨_,rfl⟩
     have hSl:S.len≤6900000000:=by
      rw [hS]
      have:min i l.length*90000000≤64*90000000:=Nat.mul_le_mul_right _ (by omega)
      omega
     dsimp only
     rw [← hS] at hw9 ⊢
     refine gGw ?_
     refine br_d (fun hlt=>?_) (fun hge=>?_)
     ·have hlt':i<l.length:=by omega
      have hx:=List.getElem?_eq_getElem hlt'
      have hxo:=hlok _ (List.getElem_mem hlt')
      have et:zaw s1 ((l.take (i+1)).flatMap fun x=>zbB U p x.l1 x.l1len p.h.snapsAt)=zaw S (zbB U p l[i].l1 l[i].l1len p.h.snapsAt):=by
       rw [List.take_add_one,hx,List.flatMap_append,zbp,hS];simp
      generalize l[i]=x at hx hxo et
      have hx1:=hxo.l1
      have hx2:=hxo.ln
      obtain ⟨b9,rfl,_⟩:=zaV (hw9.ok (.row lA lc l.length 175 4 (l.flatMap Snp.cells)) (List.mem_cons_self ..)) (zer (f:=Snp.cells) (n:=4) (fun _=>rfl) hx (j:=0) rfl)
      conv=>whnf
      refine zcH 16 zaa mixed (by kernel_rfl) rfl rfl ?_
      refine gGw ?_
      refine And.intro ⟨by omega,by omega,Pl.mk _ _⟩ ?_
      refine gGw ?_
      refine⟨.int .i64 x.l1,Ld.g (zeW (f:=Snp.cells) (k:=4) zaa (by repeat constructor) (fun _=>rfl) rfl rfl hx (j:=1) rfl),?_⟩
      refine gGw ?_
      refine And.intro ⟨by omega,by omega,Pl.mk _ _⟩ ?_
      refine gGw ?_
      refine⟨.int .i64 x.l1len,Ld.g (zeW (f:=Snp.cells) (k:=4) zaa (by repeat constructor) (fun _=>rfl) rfl rfl hx (j:=2) rfl),?_⟩
      refine gGw ?_
      refine⟨zhY,zac (m1:=rM p S g3) (by repeat constructor) (fun w' hm'=>zn5 U hU p S g3 x.l1 x.l1len p.h.snapsAt w' hp hlb hcap hbits hcb (by omega) (by omega) (by omega) (stb hm' (fun w3 h3=>hb w3 h3.fr)) hm'.part) ?_⟩
      rintro e' m' ⟨rfl,g5,rfl⟩
      refine gGw ?_
      refine⟨(i+1,g5),by show i+1≤l.length;omega,by show l.length-(i+1)<l.length-i;omega,⟨congrArg (fun x=>some (Value.int .i64 x)) (by push_cast;rfl),rfl,rfl,rfl,trivial⟩,?_⟩
      show SubM _ _ (_::rM p (zaw s1 ((l.take (i+1)).flatMap fun x=>zbB U p x.l1 x.l1len p.h.snapsAt)) _)
      rw [et]
      exact SubM.sl
     ·have ei:l.take i=l:=List.take_of_length_le (by omega)
      rw [ei] at hS
      conv=>whnf
      exact⟨g3,by rw [← hX,← hS];omega,⟨rfl,trivial⟩,by rw [← hX,← hS];exact SubM.sl⟩
 ·intro g8 hl8
  have hq8:=(zds (zby U zaQ p) s hact).2
  generalize zaw s (zby U zaQ p)=s8 at hl8 hq8 ⊢
  obtain ⟨X,hX⟩:∃ X,zaw s8 (zdY za3 p)=X:=⟨_,rfl⟩
  rw [hX]
  unfold zdY at hX
  by_cases h0:p.h.bitmaps=0
  ·rw [if_pos h0] at hX
   subst hX
   conv=>whnf
   refine zar zaa mixed (by kernel_rfl) rfl ?_;conv=>whnf
   refine gG0 ?_
   refine br_f (decide_eq_false (by omega)) ?_
   refine gGw ?_
   refine br_f rfl ?_
   conv=>whnf
   exact fin0 rfl (fun w' hm=>⟨rM p s8 g8,⟨rfl,g8,rfl⟩,hm⟩) (by first|exact .inl rfl|exact .inr rfl)
  rw [if_neg h0] at hX
  conv=>whnf
  refine zcd (γ:=RG) (Tr.hs [0,1,2,3] (.sq [4] (.hs [5,6,7,8,9,10,11,13,14,15,16] (.alts 12 (.sq [17,18] (.hs [19] .done)) (.alts 17 (.sq [12,18] (.hs [19] .done)) .stop))))) [] zaa mixed (by kernel_rfl) rfl (fun _=>True)
   (fun _=>[(117,.bool (zay p p.h.bitmapsAt p.h.bitmapsLen)),(0,.pointer (some ⟨p.wB,0,none⟩))]) (fun g1=>rM p (zaw s8 (tRun p p.h.bitmapsAt p.h.bitmapsLen 72 0)) g1) SubM.sl ?_ ?_
  ·refine gGt ?_
   rw [decide_eq_true (show 0<p.h.bitmaps by omega)]
   refine gGt ?_
   refine⟨?_,?_⟩
   ·skip
    refine gGt ?_
    refine⟨zaY,zac (m1:=rM p s8 g8) (by repeat constructor) (fun w' hm'=>zbC p s8 g8 p.h.bitmapsAt p.h.bitmapsLen 0 72 w' hp (by omega) (by omega) hcb (by omega) (by omega) (by omega) (by omega) hm'.part) ?_⟩
    rintro e' m' ⟨rfl,g4,rfl⟩
    conv=>whnf
    refine gGs ?_
    refine gGt ?_
    exact⟨g4,trivial,⟨rfl,rfl,trivial⟩,SubM.sl⟩
   ·refine⟨?_,trivial⟩
    refine gGt ?_
    refine⟨zaY,zac (m1:=rM p s8 g8) (by repeat constructor) (fun w' hm'=>zbC p s8 g8 p.h.bitmapsAt p.h.bitmapsLen 0 72 w' hp (by omega) (by omega) hcb (by omega) (by omega) (by omega) (by omega) hm'.part) ?_⟩
    rintro e' m' ⟨rfl,g4,rfl⟩
    conv=>whnf
    refine gGs ?_
    refine gGt ?_
    exact⟨g4,trivial,⟨rfl,rfl,trivial⟩,SubM.sl⟩
  ·intro g1 _
   have hq1:=(zds (tRun p p.h.bitmapsAt p.h.bitmapsLen 72 0) s8 hq8).2
   have hn1:=za1 (tRun p p.h.bitmapsAt p.h.bitmapsLen 72 0) s8
   have ht1:=zb9 hp p.h.bitmapsAt p.h.bitmapsLen 72 0
   rw [zbp] at hX
   generalize zaw s8 (tRun p p.h.bitmapsAt p.h.bitmapsLen 72 0)=s1 at hq1 hn1 hX ⊢
   conv=>whnf
   refine br (fun hw=>?_) (fun hw=>?_)
   rotate_left
   ·rw [hw,if_neg (by decide)] at hX
    conv=>whnf
    exact fin0 rfl (fun w' hm=>⟨rM p X g1,⟨rfl,g1,rfl⟩,by rw [← hX];exact hm⟩) (by first|exact .inl rfl|exact .inr rfl)
   rw [if_pos hw] at hX
   have hle:=zaI hp hw
   have hpl:=hPl (by omega)
   have hbl3:(liB p p.h.bitmapsAt p.h.bitmapsLen).length=(p.h.bitmapsAt+p.h.bitmapsLen).toNat-p.h.bitmapsAt.toNat:=by rw [zrN (by omega)];omega
   conv=>whnf
   refine zcd (γ:=Option (List Rwp) × Option Addr × Nat) (Tr.hs [0,1,2,3,4,5,6,7,8,9,10,11,12,13,14,15,16,17,18,19,20,21,22,23,24,25,26,27,28,29,30] (.sq [31] (.hs [32,33,34,35,36] .done))) (rM p s1 g1) zaa mixed (by kernel_rfl) rfl (fun q=>za3 p.h.bits (liB p p.h.bitmapsAt p.h.bitmapsLen) p.h.bitmaps=q.1)
    (fun q=>[(6,.bool q.1.isSome),(5,.slice q.2.1 (q.1.getD []).length q.2.2),(0,.pointer (some ⟨p.wB,0,none⟩))]) (fun q=>.row q.2.1 q.2.2 (q.1.getD []).length 180 5 ((q.1.getD []).flatMap Rwp.cells)::rM p s1 g1) SubM.sl ?_ ?_
   ·refine gGw ?_
    refine And.intro ⟨by omega,by omega,by omega,.inr hpl⟩ ?_
    refine gGw ?_
    refine⟨zlL,zac (m1:=[]) .nil (fun w' hm'=>zwx _ _ _ (liB p p.h.bitmapsAt p.h.bitmapsLen) p.h.bits p.h.bitmaps w' hbl3 (BytsIn.sub (hb w' hm'.fr) p.cap p.h.bitmapsAt.toNat p.h.bitmapsLen.toNat (by omega) hcap) (by omega) (by omega) hbits (by omega)) ?_⟩
    rintro e' m' (⟨hR,rfl,rfl⟩|⟨l,lA,lc,hR,rfl,rfl⟩)
    ·conv=>whnf
     refine gGs ?_
     refine gGw ?_
     exact⟨(none,none,0),hR,⟨rfl,rfl,rfl,trivial⟩,SubM.row0 SubM.sl _ _⟩
    ·conv=>whnf
     refine gGs ?_
     refine gGw ?_
     exact⟨(some l,lA,lc),hR,⟨rfl,rfl,rfl,trivial⟩,SubM.sl⟩
   ·rintro ⟨V,lA,lc⟩ hV
    simp only at hV
    rw [hV] at hX
    cases V with
    | none =>
     simp only at hX
     refine gGw ?_
     refine br_n (br_f rfl ?_)
     refine gGw ?_
     refine⟨zcz,zac (m1:=rM p s1 g1) (by repeat constructor) (fun w' hm'=>zfd p s1 g1 3 p.h.bitmapsAt w' (by omega) hm'.part) ?_⟩
     rintro e' m' ⟨rfl,g4,rfl⟩
     refine gGw ?_
     have hX2:appR s1 (.find ⟨3,p.h.bitmapsAt,0,0⟩)=X:=hX
     have hn2:=zhD s1 (.find ⟨3,p.h.bitmapsAt,0,0⟩)
     rw [hX2] at hn2 ⊢
     refine lp zaa (γ:=Unit) (fun _=>True) (fun _=>[(7,.int .i64 0),(6,.bool false),(5,.slice lA 0 lc),(0,.pointer (some ⟨p.wB,0,none⟩))]) (fun _=>rM p X g4) (fun _=>0) () trivial ⟨rfl,rfl,rfl,rfl,trivial⟩ SubM.sl ?_
     rintro ⟨⟩ _
     refine gGw ?_
     refine br_f rfl ?_
     conv=>whnf
     exact fin0 rfl (fun w' hm=>⟨rM p X g4,⟨rfl,g4,rfl⟩,hm⟩) (by first|exact .inl rfl|exact .inr rfl)
    | some l =>
     simp only at hX
     obtain ⟨hlok,hl64⟩:=(zvu _ p.cap (liB p p.h.bitmapsAt p.h.bitmapsLen) p.h.bits p.h.bitmaps w (BytsIn.sub hb.now p.cap p.h.bitmapsAt.toNat p.h.bitmapsLen.toNat (by omega) hcap) (by omega) (by omega) hbits (by omega)).1 l hV
     refine gGw ?_
     refine br_n (br_t rfl ?_)
     refine gGw ?_
     refine lp_w zaa (γ:=Nat × RG) (fun q=>q.1≤l.length) (fun q=>[(7,.int .i64 (q.1:Int)),(6,.bool true),(5,.slice lA l.length lc),(0,.pointer (some ⟨p.wB,0,none⟩))])
      (fun q=>.row lA lc l.length 180 5 (l.flatMap Rwp.cells)::rM p (zaw s1 ((l.take q.1).flatMap fun x=>if 0<x.len then tRun p x.at_ x.len p.h.bitmapsAt 0 else [])) q.2) (fun q=>l.length-q.1) (0,g1) (Nat.zero_le _) ⟨rfl,rfl,rfl,rfl,trivial⟩ SubM.sl ?_
     rintro ⟨i,g3⟩ hi ⟨w9,hw9⟩
     simp only at hi hw9
     have hn2:=za1 ((l.take i).flatMap fun x=>if 0<x.len then tRun p x.at_ x.len p.h.bitmapsAt 0 else []) s1
     have hn3:=zmk (f:=fun x:Rwp=>if 0<x.len then tRun p x.at_ x.len p.h.bitmapsAt 0 else []) (n:=20000001) (fun x=>by split;exact (by have:=zb9 hp x.at_ x.len p.h.bitmapsAt 0;omega);simp) (l.take i)
     rw [List.length_take] at hn3
     obtain ⟨S,hS⟩:∃ S,S=zaw s1 ((l.take i).flatMap fun x=>if 0<x.len then tRun p x.at_ x.len p.h.bitmapsAt 0 else []):=⟨_,rfl⟩
     have hSl:S.len≤9900000000:=by
      rw [hS]
      have:min i l.length*20000001≤64*20000001:=Nat.mul_le_mul_right _ (by omega)
      omega
     dsimp only
     rw [← hS] at hw9 ⊢
     refine gGw ?_
     refine br_d (fun hlt=>?_) (fun hge=>?_)
     ·have hlt':i<l.length:=by omega
      have hx:=List.getElem?_eq_getElem hlt'
      have hxo:=hlok _ (List.getElem_mem hlt')
      have et:zaw s1 ((l.take (i+1)).flatMap fun x=>if 0<x.len then tRun p x.at_ x.len p.h.bitmapsAt 0 else [])=zaw S (if 0<l[i].len then tRun p l[i].at_ l[i].len p.h.bitmapsAt 0 else []):=by
       rw [List.take_add_one,hx,List.flatMap_append,zbp,hS];simp
      generalize l[i]=x at hx hxo et
      have hx1:=hxo.at_
      have hx2:=hxo.ln
      obtain ⟨b9,rfl,_⟩:=zaV (hw9.ok (.row lA lc l.length 180 5 (l.flatMap Rwp.cells)) (List.mem_cons_self ..)) (zer (f:=Rwp.cells) (n:=5) (fun _=>rfl) hx (j:=0) rfl)
      refine gGw ?_
      refine And.intro ⟨by omega,by omega,Pl.mk _ _⟩ ?_
      refine gGw ?_
      refine zaj (zeW (f:=Rwp.cells) (k:=5) zaa (by repeat constructor) (fun _=>rfl) rfl rfl hx (j:=4) rfl) ?_
      refine gGw ?_
      refine br_d (fun hpos=>?_) (fun hpos=>?_)
      ·rw [if_pos hpos] at et
       conv=>whnf
       refine zcH 16 zaa mixed (by kernel_rfl) rfl rfl ?_
       refine gGw ?_
       refine And.intro ⟨by omega,by omega,Pl.mk _ _⟩ ?_
       refine gGw ?_
       refine⟨.int .i64 x.at_,Ld.g (zeW (f:=Rwp.cells) (k:=5) zaa (by repeat constructor) (fun _=>rfl) rfl rfl hx (j:=3) rfl),?_⟩
       refine gGw ?_
       refine And.intro ⟨by omega,by omega,Pl.mk _ _⟩ ?_
       refine gGw ?_
       refine⟨.int .i64 x.len,Ld.g (zeW (f:=Rwp.cells) (k:=5) zaa (by repeat constructor) (fun _=>rfl) rfl rfl hx (j:=4) rfl),?_⟩
       refine gGw ?_
       refine⟨zaY,zac (m1:=rM p S g3) (by repeat constructor) (fun w' hm'=>zbC p S g3 x.at_ x.len 0 p.h.bitmapsAt w' hp (by omega) (by omega) hcb (by omega) (by omega) (by omega) (by omega) hm'.part) ?_⟩
       rintro e' m' ⟨rfl,g5,rfl⟩
       refine gGw ?_
       refine⟨(i+1,g5),by show i+1≤l.length;omega,by show l.length-(i+1)<l.length-i;omega,⟨congrArg (fun x=>some (Value.int .i64 x)) (by push_cast;rfl),rfl,rfl,rfl,trivial⟩,?_⟩
       show SubM _ _ (_::rM p (zaw s1 ((l.take (i+1)).flatMap fun x=>if 0<x.len then tRun p x.at_ x.len p.h.bitmapsAt 0 else [])) _)
       rw [et]
       exact SubM.sl
      ·rw [if_neg hpos] at et
       change _=S at et
       refine gGw ?_
       refine⟨(i+1,g3),by show i+1≤l.length;omega,by show l.length-(i+1)<l.length-i;omega,⟨congrArg (fun x=>some (Value.int .i64 x)) (by push_cast;rfl),rfl,rfl,rfl,trivial⟩,?_⟩
       show SubM _ _ (_::rM p (zaw s1 ((l.take (i+1)).flatMap fun x=>if 0<x.len then tRun p x.at_ x.len p.h.bitmapsAt 0 else [])) _)
       rw [et]
       exact SubM.sl
     ·have ei:l.take i=l:=List.take_of_length_le (by omega)
      rw [ei] at hS
      conv=>whnf
      exact fin0 rfl (fun w' hm=>⟨rM p X g3,⟨rfl,g3,rfl⟩,by rw [← hX,← hS];exact hm.sl⟩) (by first|exact .inl rfl|exact .inr rfl)
end Go.Proofs.YtlmgelmloddfgaaGreat
namespace Go.Proofs.YtlmgelmloddfgaaGreat
open Go Go.RowKit Eng
def numR (x:Nat):Int:=if 4611686018427387904<x then -1 else (x:Int)
attribute [local irreducible] Br Rn RnU Cl RdG CpG Ld Rd Lp Dr Oth Cut fin Fits Eng.Enters Md NA
theorem zh8 (bs:List UInt8) (A:Option Addr) (c at_ n:Nat) (w:World) (hb:BytsIn w A bs) (hl:bs.length≤20000000) (hc:bs.length≤c) (h1:at_+n≤bs.length) (hn:1≤n∧n≤8) :
  Calls Tryz.prog 33 #[.slice A bs.length c,.int .i64 (at_:Int),.int .i64 (n:Int)] w fun e w'=>e=.returned (.int .i64 (numR (getV bs at_ n)))∧Fr (fun _=>False) w w':=by
 have hF:∀ w',Fr (fun _=>False) w w'→BytsIn w' A bs:=fun w' hf=>Byts.in_ (BytsIn.byts (cx:=CX 17 [] w) (m:=[]) hb (fun _ h=>h)) ((MemOk.nil w _).same hf)
 have hpl:Pl A:=(BytsIn.byts (cx:=CX 54 [] w) (m:=[]) hb (fun _ h=>h)).plain (by omega)
 have hsl:((bs.drop at_).take n).length=n:=by rw [List.length_take,List.length_drop];omega
 have hlt:=zgU bs at_ (k:=n) (by omega)
 refine enter (cx:=CX 19 [] w) [(0,.slice A bs.length c),(1,.int .i64 (at_:Int)),(2,.int .i64 (n:Int))] zaa Tryz.func33 rfl rfl rfl rfl (MemOk.nil w _) ?_
 refine gGw ?_
 refine And.intro ⟨by omega,by omega,by omega,.inr hpl⟩ ?_
 refine gGw ?_
 rw [show ((at_:Int)+(n:Int)).toNat-(at_:Int).toNat=((bs.drop at_).take n).length by omega,Int.toNat_natCast]
 refine⟨zel,zae _ (fun w' hm'=>zgI ((bs.drop at_).take n) (cutA A c at_ 1) (c-at_) w' (BytsIn.sub (hF w' hm'.fr) c at_ n (by omega) hc) (by omega)) ?_⟩
 change getV bs at_ n<_ at hlt
 have eg:leV ((bs.drop at_).take n)=getV bs at_ n:=rfl
 rw [eg]
 generalize getV bs at_ n=x at hlt ⊢
 refine gGw ?_
 refine br_d (fun h=>?_) (fun h=>?_)
 ·refine gGw ?_
  exact fin1 rfl rfl (fun w' hm=>⟨by rw [numR,if_pos (by omega)],hm.fr⟩)
 ·refine gGw ?_
  exact fin1 rfl rfl (fun w' hm=>⟨by rw [numR,if_neg (by omega)],hm.fr⟩)
def hdR (bs:List UInt8) (nm:ByteArray):Hd where
 bits:=numR (getV bs 4 4)
 flags:=getV bs 8 8
 size:=numR (getV bs 16 8)
 l1:=numR (getV bs 24 8)
 l1len:=numR (getV bs 32 4)
 order:=numR (getV bs 36 4)
 counts:=numR (getV bs 40 8)
 countsLen:=numR (getV bs 48 4)
 snaps:=numR (getV bs 52 4)
 snapsAt:=numR (getV bs 56 8)
 snapsLen:=numR (getV bs 64 4)
 bitmaps:=numR (getV bs 68 4)
 bitmapsAt:=numR (getV bs 72 8)
 bitmapsLen:=numR (getV bs 80 4)
 backing:=nm
def zmh (bs:List UInt8):Option Hd :=
 if bs.length<512 then none
 else if 64<getV bs 84 4 then none
 else if mayH (hdR bs (Str ((bs.drop 88).take (getV bs 84 4))))=true∧zbe (hdR bs (Str ((bs.drop 88).take (getV bs 84 4))))=bs.take 512 then some (hdR bs (Str ((bs.drop 88).take (getV bs 84 4))))
 else none
theorem zud (bs:List UInt8) (A:Option Addr) (c at_ n:Nat) (w:World) (hb:BytsIn w A bs) (hc:bs.length≤c) (h1:at_+n≤bs.length) (hn:n≤8) :
  Calls Tryz.prog 34 #[.slice (cutA A c at_ 1) n (c-at_)] w fun e w'=>e=.returned (.int .u64 (getV bs at_ n:Nat))∧Fr (fun _=>False) w w':=by
 have h:=zgI ((bs.drop at_).take n) (cutA A c at_ 1) (c-at_) w (BytsIn.sub hb c at_ n (by omega) hc) (by rw [List.length_take];omega)
 rw [show ((bs.drop at_).take n).length=n by rw [List.length_take,List.length_drop];omega] at h
 exact h
end Go.Proofs.YtlmgelmloddfgaaGreat
namespace Go.Proofs.YtlmgelmloddfgaaGreat.Eng
open Go Go.RowKit
abbrev CS:=Nat × Nat × Value
section flo
variable {cx:Cx} {mC:Mem} {ops:List Oper} {k:Env→Mem→Prop} {kp:List PanicEntry→Mem→Prop}
structure zqx (cx:Cx) (ops:List Oper) (kp:List PanicEntry→Mem→Prop) (Base:Env→Mem→Prop) (c:CS):Prop where
 o:∃ o,nth ops c.1=some o∧o.dst=some c.2.1∧o.guard=none∧∀ e m (K:Value→Mem→Prop),Base e m→K c.2.2 m→XO cx o.dst o.op o.type e m K kp
 st:∀ e m,Base e m→Base ((c.2.1,c.2.2)::e) m
def Got (l:List CS) (e:Env):Prop:=∀ c∈l,e.get c.2.1=some c.2.2
theorem Got.put {l:List CS} {e:Env} (h:Got l e) {d:Nat} {v:Value} (hd:∀ c∈l,c.2.1≠d):Got l ((d,v)::e):=fun c hc=>by
 rw [Env.get_cons,if_neg (fun x=>hd c hc x.symm)];exact h c hc
theorem zoX {Base:Env→Mem→Prop} {c:CS} (h:zqx cx ops kp Base c) {t more:Tr} {e:Env} {m:Mem} (hB:Base e m) (hC:SubM cx m mC) (h1:XTG cx mC ops k kp t ((c.2.1,c.2.2)::e) m) (h2:XTG cx mC ops k kp more e m) :
  XTG cx mC ops k kp (.alts c.1 t more) e m:=by
 show zdU cx mC ops kp c.1 (XTG cx mC ops k kp t) (XTG cx mC ops k kp more) e m
 obtain ⟨o,ho,hd,hg,hx⟩:=h.o
 unfold zdU
 rw [ho]
 have hgo:gOk ops e o.guard=true:=by rw [hg];rfl
 simp only [hgo]
 refine⟨hx e m _ hB ⟨hC,?_⟩,h2⟩
 rw [hd];exact h1
def trA (last:Tr):List CS→Tr
 | []=>last
 | c::r=>.alts c.1 (trA last r) .stop
def trB (z:Nat) (lastA lastB:Tr):List CS→Tr
 | []=>lastB
 | c::r=>.alts c.1 (trB z lastA lastB r) (.alts z (trA lastA (c::r)) .stop)
theorem zvo {Base:Env→Mem→Prop} {last:Tr} {m:Mem} (hC:SubM cx m mC):∀ (l done:List CS) (e:Env),(∀ c∈l,zqx cx ops kp Base c)→((done++l).map fun c=>c.2.1).Nodup→Base e m→Got done e →
  (∀ e,Base e m→Got (done++l) e→XTG cx mC ops k kp last e m)→XTG cx mC ops k kp (trA last l) e m
 | [],done,e,_,_,hB,hG,hend=>hend e hB (by rw [List.append_nil];exact hG)
 | c::r,done,e,hS,hN,hB,hG,hend=>by
  have hc:=hS c (List.mem_cons_self ..)
  have e1:done++c::r=(done++[c])++r:=by simp
  have hne:∀ x∈done,x.2.1≠c.2.1:=fun x hx he=>by
   rw [List.map_append] at hN
   exact (List.nodup_append.1 hN).2.2 _ (List.mem_map.2 ⟨x,hx,rfl⟩) _ (List.mem_map.2 ⟨c,List.mem_cons_self ..,rfl⟩) he
  refine zoX hc hB hC ?_ trivial
  refine zvo hC r (done++[c]) _ (fun x hx=>hS x (List.mem_cons_of_mem _ hx)) (e1 ▸ hN) (hc.st e m hB) ?_ (fun e' hB' hG'=>hend e' hB' (e1 ▸ hG'))
  intro x hx
  rcases List.mem_append.1 hx with hx|hx
  ·exact hG.put hne x hx
  ·rw [List.mem_singleton] at hx
   subst hx
   rw [Env.get_cons,if_pos rfl]
theorem zvn {BB:Env→Mem→Prop} {BA:Nat→Env→Mem→Prop} {z d t:Nat} {ti:TyI} {lastA lastB:Tr} {m:Mem} (hC:SubM cx m mC) (hz:∃ o,nth ops z=some o∧o.dst=some d∧o.op=.alloc t∧o.guard=none) (ht:cx.tab.get t=some ti)
  (hBA:∀ b e,BB e m→BA b ((d,.pointer (some ⟨b,0,none⟩))::e) (.blk b (.cells ti.zero.toArray t)::m)):∀ (l done:List CS) (e:Env),(∀ c∈l,zqx cx ops kp BB c)→(∀ b,∀ c∈l,zqx cx ops kp (BA b) c)→((done++l).map fun c=>c.2.1).Nodup→(∀ c∈done++l,c.2.1≠d)→BB e m→Got done e →
  (∀ e,BB e m→Got (done++l) e→XTG cx mC ops k kp lastB e m)→(∀ b e,BA b e (.blk b (.cells ti.zero.toArray t)::m)→Got (done++l) e→XTG cx mC ops k kp lastA e (.blk b (.cells ti.zero.toArray t)::m)) →
  XTG cx mC ops k kp (trB z lastA lastB l) e m
 | [],done,e,_,_,_,_,hB,hG,hend,_=>hend e hB (by rw [List.append_nil];exact hG)
 | c::r,done,e,hS,hSA,hN,hD,hB,hG,hend,hendA=>by
  have hc:=hS c (List.mem_cons_self ..)
  have e1:done++c::r=(done++[c])++r:=by simp
  have hne:∀ x∈done,x.2.1≠c.2.1:=fun x hx he=>by
   rw [List.map_append] at hN
   exact (List.nodup_append.1 hN).2.2 _ (List.mem_map.2 ⟨x,hx,rfl⟩) _ (List.mem_map.2 ⟨c,List.mem_cons_self ..,rfl⟩) he
  refine zoX hc hB hC ?_ ?_
  ·refine zvn hC hz ht hBA r (done++[c]) _ (fun x hx=>hS x (List.mem_cons_of_mem _ hx)) (fun b x hx=>hSA b x (List.mem_cons_of_mem _ hx)) (e1 ▸ hN) (e1 ▸ hD) (hc.st e m hB) ?_ (fun e' hB' hG'=>hend e' hB' (e1 ▸ hG')) (fun b e' hB' hG'=>hendA b e' hB' (e1 ▸ hG'))
   intro x hx
   rcases List.mem_append.1 hx with hx|hx
   ·exact hG.put hne x hx
   ·rw [List.mem_singleton] at hx
    subst hx
    rw [Env.get_cons,if_pos rfl]
  ·show zdU cx mC ops kp z (XTG cx mC ops k kp (trA lastA (c::r))) (XTG cx mC ops k kp .stop) e m
   obtain ⟨o,ho,hd,hop,hg⟩:=hz
   unfold zdU
   rw [ho]
   have hgo:gOk ops e o.guard=true:=by rw [hg];rfl
   simp only [hgo]
   refine⟨?_,trivial⟩
   rw [hop]
   unfold XO
   simp only [ht]
   intro b
   refine⟨fun w hw=>hC w hw.tail,?_⟩
   rw [hd]
   exact zvo (fun w hw=>hC w hw.tail) (c::r) done _ (hSA b) hN (hBA b e hB) (hG.put fun x hx=>hD x (List.mem_append_left _ hx)) (fun e' hB' hG'=>hendA b e' hB' hG')
end flo
end Go.Proofs.YtlmgelmloddfgaaGreat.Eng
namespace Go.Proofs.YtlmgelmloddfgaaGreat
open Go Go.RowKit Eng
def zn2:List Nat:=[0,16,21,23,25,27,29,31,33,35,37,39,41,43]
structure BRd (A:Option Addr) (n c:Nat) (nm:ByteArray) (rB:Nat) (e:Env):Prop where
 sl:∀ s∈zn2,e.get s=some (.slice A n c)
 fl:e.get 19=some (.slice (cutA A c 8 1) 8 (c-8))
 nm:e.get 49=some (.string nm)
 rb:e.get 2=some (.pointer (some ⟨rB,0,none⟩))
 ok:e.get 3=some (.bool false)
def zx0 (d:Nat):Bool:=(zn2++[19,49,2,3]).all fun s=>!(d == s)
theorem BRd.put {A:Option Addr} {n c:Nat} {nm:ByteArray} {rB:Nat} {e:Env} (h:BRd A n c nm rB e) {d:Nat} (hd:zx0 d=true) (v:Value):BRd A n c nm rB ((d,v)::e):=by
 have hne:∀ s∈zn2++[19,49,2,3],d≠s:=fun s hs he=>by
  unfold zx0 at hd
  rw [List.all_eq_true] at hd
  have:=hd s hs
  rw [he] at this
  simp at this
 refine⟨fun s hs=>?_,?_,?_,?_,?_⟩<;>rw [Env.get_cons]
 ·rw [if_neg (hne s (List.mem_append_left _ hs))];exact h.sl s hs
 ·rw [if_neg (hne 19 (by decide))];exact h.fl
 ·rw [if_neg (hne 49 (by decide))];exact h.nm
 ·rw [if_neg (hne 2 (by decide))];exact h.rb
 ·rw [if_neg (hne 3 (by decide))];exact h.ok
theorem zqC {cx:Cx} {d:Option Nat} {f ty:Nat} {args:Array Operand} {tys:Array TypeId} {e:Env} {m:Mem} {K:Value→Mem→Prop} {KP:List PanicEntry→Mem→Prop} {vs:List Value} (hvs:Env.evs e args.toList=some vs) (h:Eng.Enters cx.P f∧Cl cx m f vs K KP) :
  XO cx d (.call ⟨.value (.func f),args,tys⟩) ty e m K KP:=by
 show (match Env.ev e (.func f),Env.evs e args.toList with
  | some (.func (.func g) f' c'),some us=>Eng.Enters cx.P g∧Cl cx m g (f'.toList++us++c'.toList) K KP
  | _,_=>False)
 rw [hvs]
 simpa [Env.ev] using h
def csR (bs:List UInt8):List CS:=[(1,17,.int .i64 (numR (getV bs 4 4))),(4,20,.int .u64 (getV bs 8 8:Nat)),(6,22,.int .i64 (numR (getV bs 16 8))),(8,24,.int .i64 (numR (getV bs 24 8))),(10,26,.int .i64 (numR (getV bs 32 4))),(12,28,.int .i64 (numR (getV bs 36 4))),(14,30,.int .i64 (numR (getV bs 40 8))),(16,32,.int .i64 (numR (getV bs 48 4))),(18,34,.int .i64 (numR (getV bs 52 4))),(20,36,.int .i64 (numR (getV bs 56 8))),(22,38,.int .i64 (numR (getV bs 64 4))),(24,40,.int .i64 (numR (getV bs 68 4))),(26,42,.int .i64 (numR (getV bs 72 8))),(28,44,.int .i64 (numR (getV bs 80 4)))]
section
variable {bs:List UInt8} {A:Option Addr} {c:Nat} {nm:ByteArray} {rB:Nat} {w:World} {ops:List Oper} {kp:List PanicEntry→Mem→Prop}
theorem zaN {i d s at_ n ty:Nat} {tys:Array TypeId} {pos:String} {af:Array Edge} {Base:Env→Mem→Prop} (hF:∀ w',Fr (fun _=>False) w w'→BytsIn w' A bs) (hl:bs.length≤20000000) (hc:bs.length≤c) (h1:at_+n≤bs.length) (hn:1≤n∧n≤8)
  (hi:nth ops i=some ⟨some d,.call ⟨.value (.func 33),#[.tmp s,.const (.int .i64 (at_:Int)),.const (.int .i64 (n:Int))],tys⟩,ty,pos,af,none⟩)
  (hs:∀ e m,Base e m→e.get s=some (.slice A bs.length c)) (hst:∀ e m v,Base e m→Base ((d,v)::e) m):zqx (CX 66 [] w) ops kp Base (i,d,.int .i64 (numR (getV bs at_ n))):=by
 refine⟨⟨_,hi,rfl,rfl,fun e m K hB hK=>?_⟩,fun e m hB=>hst e m _ hB⟩
 refine zqC (vs:=[.slice A bs.length c,.int .i64 (at_:Int),.int .i64 (n:Int)]) ?_ ⟨zfx,zae _ (fun w' hm'=>zh8 bs A c at_ n w' (hF w' hm'.fr) hl hc h1 hn) hK⟩
 show Env.evs e [.tmp s,.const (.int .i64 (at_:Int)),.const (.int .i64 (n:Int))]=_
 simp only [Env.evs,Env.ev,hs e m hB]
theorem znR {i d s ty:Nat} {tys:Array TypeId} {pos:String} {af:Array Edge} {Base:Env→Mem→Prop} (hF:∀ w',Fr (fun _=>False) w w'→BytsIn w' A bs) (hc:bs.length≤c) (h1:8+8≤bs.length)
  (hi:nth ops i=some ⟨some d,.call ⟨.value (.func 34),#[.tmp s],tys⟩,ty,pos,af,none⟩)
  (hs:∀ e m,Base e m→e.get s=some (.slice (cutA A c 8 1) 8 (c-8))) (hst:∀ e m v,Base e m→Base ((d,v)::e) m):zqx (CX 66 [] w) ops kp Base (i,d,.int .u64 (getV bs 8 8:Nat)):=by
 refine⟨⟨_,hi,rfl,rfl,fun e m K hB hK=>?_⟩,fun e m hB=>hst e m _ hB⟩
 refine zqC (vs:=[.slice (cutA A c 8 1) 8 (c-8)]) ?_ ⟨zel,zae _ (fun w' hm'=>zud bs A c 8 8 w' (hF w' hm'.fr) hc h1 (by omega)) hK⟩
 show Env.evs e [.tmp s]=_
 simp only [Env.evs,Env.ev,hs e m hB]
theorem zuf {e:Env} (hB:BRd A bs.length c nm rB e) (hG:Got (csR bs) e):popV (CX 66 [] w) (some 50) (.build 34 #[(0,.tmp 17),(1,.tmp 20),(2,.tmp 22),(3,.tmp 24),(4,.tmp 26),(5,.tmp 28),(6,.tmp 30),(7,.tmp 32),(8,.tmp 34),(9,.tmp 36),(10,.tmp 38),(11,.tmp 40),(12,.tmp 42),(13,.tmp 44),(14,.tmp 49)]) e=some (.agg (hdR bs nm).cells.toArray,none):=by
 unfold Got csR at hG
 simp only [List.mem_cons,List.not_mem_nil,or_false,forall_eq_or_imp,forall_eq] at hG
 obtain ⟨g0,g1,g2,g3,g4,g5,g6,g7,g8,g9,g10,g11,g12,g13⟩:=hG
 have hps:zdR e [(0,.tmp 17),(1,.tmp 20),(2,.tmp 22),(3,.tmp 24),(4,.tmp 26),(5,.tmp 28),(6,.tmp 30),(7,.tmp 32),(8,.tmp 34),(9,.tmp 36),(10,.tmp 38),(11,.tmp 40),(12,.tmp 42),(13,.tmp 44),(14,.tmp 49)]=some [(0,.int .i64 (numR (getV bs 4 4))),(1,.int .u64 (getV bs 8 8:Nat)),(2,.int .i64 (numR (getV bs 16 8))),(3,.int .i64 (numR (getV bs 24 8))),(4,.int .i64 (numR (getV bs 32 4))),(5,.int .i64 (numR (getV bs 36 4))),(6,.int .i64 (numR (getV bs 40 8))),(7,.int .i64 (numR (getV bs 48 4))),(8,.int .i64 (numR (getV bs 52 4))),(9,.int .i64 (numR (getV bs 56 8))),(10,.int .i64 (numR (getV bs 64 4))),(11,.int .i64 (numR (getV bs 68 4))),(12,.int .i64 (numR (getV bs 72 8))),(13,.int .i64 (numR (getV bs 80 4))),(14,.string nm)]:=by
  simp only [zdR,Env.ev,g0,g1,g2,g3,g4,g5,g6,g7,g8,g9,g10,g11,g12,g13,hB.nm]
 unfold popV
 simp only [hps]
 show _=_
 kernel_rfl
abbrev mZ (rB:Nat):Res:=.blk rB (.cells hdZ.cells.toArray 34)
def kR (A:Option Addr) (c:Nat) (bs:List UInt8) (nm:ByteArray) (rB:Nat) (w:World):Env→Mem→Prop:=fun e m=>∃ g:Nat,True∧Env.sub [(5,.pointer (some ⟨g,0,none⟩)),(3,.bool false),(2,.pointer (some ⟨rB,0,none⟩)),(0,.slice A bs.length c)] e ∧
 SubM (CX 66 [] w) m [.blk g (.cells (hdR bs nm).cells.toArray 34),mZ rB]
theorem zn7 {e:Env} {bA t6:Nat} {p6:String} {a6:Array Edge} (h36:nth ops 36=some ⟨none,.store 34 (.tmp 5) (.tmp 50),t6,p6,a6,none⟩) (hB:BRd A bs.length c nm rB e) (h5:e.get 5=some (.pointer (some ⟨bA,0,none⟩))) (h50:e.get 50=some (.agg (hdR bs nm).cells.toArray)) :
  XTG (CX 66 [] w) [mZ rB] ops (kR A c bs nm rB w) kp (Tr.sq [36] .done) e [.blk bA (.cells hdZ.cells.toArray 34),mZ rB]:=by
 show zdU (CX 66 [] w) [mZ rB] ops kp 36 (XTG (CX 66 [] w) [mZ rB] ops (kR A c bs nm rB w) kp .done) (XTG (CX 66 [] w) [mZ rB] ops (kR A c bs nm rB w) kp .stop) e _
 unfold zdU
 rw [h36]
 refine⟨?_,trivial⟩
 show (match Env.ev e (.tmp 5),Env.ev e (.tmp 50) with
  | some p,some v=>RnU (CX 66 [] w) _ (Instr.storeAt 34 p v) _
  | _,_=>False)
 rw [show Env.ev e (.tmp 5)=_ from h5,show Env.ev e (.tmp 50)=_ from h50]
 refine zaT (cs':=(hdR bs nm).cells) zaa rfl (by repeat constructor) rfl rfl rfl (by kernel_rfl) ⟨SubM.sl,?_⟩
 exact⟨bA,trivial,⟨h5,hB.ok,hB.rb,hB.sl 0 (by decide),trivial⟩,SubM.refl _ _⟩
theorem zrn {e:Env} {m:Mem} {last:Tr} {t4:Nat} {p4:String} {a4:Array Edge} {k:Env→Mem→Prop} (h34:nth ops 34=some ⟨some 50,.build 34 #[(0,.tmp 17),(1,.tmp 20),(2,.tmp 22),(3,.tmp 24),(4,.tmp 26),(5,.tmp 28),(6,.tmp 30),(7,.tmp 32),(8,.tmp 34),(9,.tmp 36),(10,.tmp 38),(11,.tmp 40),(12,.tmp 42),(13,.tmp 44),(14,.tmp 49)],t4,p4,a4,none⟩) (hB:BRd A bs.length c nm rB e) (hG:Got (csR bs) e)
  (h:XTG (CX 66 [] w) [mZ rB] ops k kp last ((50,.agg (hdR bs nm).cells.toArray)::e) m):XTG (CX 66 [] w) [mZ rB] ops k kp (Tr.hs [34] last) e m:=by
 show zgw (CX 66 [] w) [mZ rB] ops 34 (XTG (CX 66 [] w) [mZ rB] ops k kp last) e m
 unfold zgw
 rw [h34]
 show zcM (CX 66 [] w) (some 50) (.build 34 #[(0,.tmp 17),(1,.tmp 20),(2,.tmp 22),(3,.tmp 24),(4,.tmp 26),(5,.tmp 28),(6,.tmp 30),(7,.tmp 32),(8,.tmp 34),(9,.tmp 36),(10,.tmp 38),(11,.tmp 40),(12,.tmp 42),(13,.tmp 44),(14,.tmp 49)]) e _
 unfold zcM
 rw [zuf hB hG]
 exact h
theorem zwz {e:Env} {t5 t6:Nat} {p5 p6:String} {a5 a6:Array Edge} (h35:nth ops 35=some ⟨some 5,.alloc 34,t5,p5,a5,none⟩) (h36:nth ops 36=some ⟨none,.store 34 (.tmp 5) (.tmp 50),t6,p6,a6,none⟩)
  (hB:BRd A bs.length c nm rB e) (h50:e.get 50=some (.agg (hdR bs nm).cells.toArray)):XTG (CX 66 [] w) [mZ rB] ops (kR A c bs nm rB w) kp (Tr.sq [35,36] .done) e [mZ rB]:=by
 show zdU (CX 66 [] w) [mZ rB] ops kp 35 (XTG (CX 66 [] w) [mZ rB] ops (kR A c bs nm rB w) kp (Tr.sq [36] .done)) (XTG (CX 66 [] w) [mZ rB] ops (kR A c bs nm rB w) kp .stop) e _
 unfold zdU
 rw [h35]
 refine⟨fun b=>⟨SubM.sl,?_⟩,trivial⟩
 exact zn7 h36 (hB.put rfl _) (by show Env.get ((5,_)::e) 5=_;rw [Env.get_cons,if_pos rfl]) (by show Env.get ((5,_)::e) 50=_;rw [Env.get_cons,if_neg (by decide)];exact h50)
end
attribute [local irreducible] Br Rn RnU Cl RdG CpG Ld Rd Lp Dr Oth Cut fin Fits Eng.Enters Md NA
attribute [local irreducible] Eng.trB
set_option maxHeartbeats 4000000 in
theorem zh7 (bs:List UInt8) (A:Option Addr) (c:Nat) (w:World) (hb:BytsIn w A bs) (hc:bs.length≤c) (hl:bs.length≤20000000) :
  Calls Tryz.prog 9 #[.slice A bs.length c] w fun e w'=>e=.returned (match zmh bs with
   | none=>.tuple #[.agg hdZ.cells.toArray,.bool false]
   | some h=>.tuple #[.agg h.cells.toArray,.bool true])∧Fr (fun _=>False) w w':=by
 have hF:∀ w',Fr (fun _=>False) w w'→BytsIn w' A bs:=fun w' hf=>Byts.in_ (BytsIn.byts (cx:=CX 17 [] w) (m:=[]) hb (fun _ h=>h)) ((MemOk.nil w _).same hf)
 refine enter (cx:=CX 66 [] w) [(0,.slice A bs.length c)] zaa Tryz.func9 rfl rfl rfl rfl (MemOk.nil w _) ?_
 refine gGw ?_;(repeat ((first|refine .mk fun Ap capp=>?_|intro _);(conv=>whnf);refine gG0 ?_))
 rename_i rB
 by_cases hlt:bs.length<512
 ·have eH:zmh bs=none:=if_pos hlt
  rw [eH]
  refine br_t (decide_eq_true (by omega)) ?_
  refine gGw ?_
  exact zbW rfl rfl (ldN (vs:=hdZ.cells) zaa (by repeat constructor) rfl rfl rfl rfl) rfl (fun w' hm=>⟨rfl,hm.fr⟩)
 have hpl:Pl A:=(BytsIn.byts (cx:=CX 54 [] w) (m:=[]) hb (fun _ h=>h)).plain (by omega)
 refine br_f (decide_eq_false (by omega)) ?_
 refine gGw ?_
 have hnm:=zgU bs 84 (k:=4) (by omega)
 refine⟨zfx,zae _ (fun w' hm'=>zh8 bs A c 84 4 w' (hF w' hm'.fr) hl hc (by omega) (by omega)) ?_⟩
 have hn4:∀ at_:Nat,getV bs at_ 4<72057594037927936:=fun at_=>znj (by rw [List.length_take];omega)
 have e84:numR (getV bs 84 4)=(getV bs 84 4:Nat):=by rw [numR,if_neg (by have:=hn4 84;omega)]
 rw [e84]
 refine gGw ?_
 refine br_d (fun h64=>?_) (fun h64=>?_)
 ·have eH:zmh bs=none:=by rw [zmh,if_neg hlt,if_pos (by omega)]
  rw [eH]
  refine gGw ?_
  exact zbW rfl rfl (ldN (vs:=hdZ.cells) zaa (by repeat constructor) rfl rfl rfl rfl) rfl (fun w' hm=>⟨rfl,hm.fr⟩)
 have eH:zmh bs=if mayH (hdR bs (Str ((bs.drop 88).take (getV bs 84 4))))=true∧zbe (hdR bs (Str ((bs.drop 88).take (getV bs 84 4))))=bs.take 512 then some (hdR bs (Str ((bs.drop 88).take (getV bs 84 4)))) else none:=by rw [zmh,if_neg hlt,if_neg (by omega)]
 rw [eH]
 clear eH
 refine gGw ?_
 obtain ⟨nm,hnmE⟩:∃ nm,nm=Str ((bs.drop 88).take (getV bs 84 4)):=⟨_,rfl⟩
 rw [← hnmE]
 refine zcd (γ:=Nat) (Tr.hs [0,2,3,5,7,9,11,13,15,17,19,21,23,25,27,29,30,31,32,33] (trB 35 (Tr.hs [34] (Tr.sq [36] .done)) (Tr.hs [34] (Tr.sq [35,36] .done)) (csR bs)))
  [mZ rB] zaa mixed (by kernel_rfl) rfl (fun _=>True)
  (fun g=>[(5,.pointer (some ⟨g,0,none⟩)),(3,.bool false),(2,.pointer (some ⟨rB,0,none⟩)),(0,.slice A bs.length c)])
  (fun g=>[.blk g (.cells (hdR bs nm).cells.toArray 34),mZ rB]) SubM.sl ?_ ?_
 ·refine gGw ?_
  refine And.intro ⟨by omega,by omega,by omega,.inr hpl⟩ ?_
  refine gGw ?_
  refine And.intro ⟨by omega,by omega,by omega,.inr hpl⟩ ?_
  refine gGw ?_
  rw [show (88+((getV bs 84 4:Nat):Int)).toNat-Int.toNat 88=((bs.drop 88).take (getV bs 84 4)).length by rw [List.length_take,List.length_drop];have:=h64;omega]
  refine⟨.string nm,by
   rw [hnmE]
   exact Rd.g (zcB (bs:=(bs.drop 88).take (getV bs 84 4)) zaa rfl rfl rfl rfl rfl rfl (BytsIn.byts (BytsIn.sub hb c 88 (getV bs 84 4) (by omega) hc) (fun _ h=>h)) _),?_⟩
  show XTG (CX 66 [] w) [mZ rB] _ (kR A c bs nm rB w) _ (trB 35 (Tr.hs [34] (Tr.sq [36] .done)) (Tr.hs [34] (Tr.sq [35,36] .done)) (csR bs)) _ [mZ rB]
  refine zvn (cx:=CX 66 [] w) (mC:=[mZ rB]) (z:=35) (lastA:=Tr.hs [34] (Tr.sq [36] .done)) (lastB:=Tr.hs [34] (Tr.sq [35,36] .done)) (k:=kR A c bs nm rB w) (BB:=fun e _=>BRd A bs.length c nm rB e) (BA:=fun b e _=>BRd A bs.length c nm rB e∧e.get 5=some (.pointer (some ⟨b,0,none⟩))) (d:=5) (t:=34) (SubM.refl _ _) ?_ rfl
   (fun b e h=>⟨h.put rfl _,by rw [Env.get_cons,if_pos rfl]⟩) (csR bs) [] _ ?_ ?_ ?_ ?_ ?_ ?_ ?_ ?_
  ·exact⟨_,rfl,rfl,rfl,rfl⟩
  ·skip
   intro x hx
   simp only [csR,List.mem_cons,List.not_mem_nil,or_false] at hx
   rcases hx with rfl|rfl|rfl|rfl|rfl|rfl|rfl|rfl|rfl|rfl|rfl|rfl|rfl|rfl
   ·exact zaN (s:=16) (at_:=4) (n:=4) hF hl hc (by omega) (by omega) (by rfl) (fun e m h=>h.sl 16 (by decide)) (fun e m v h=>h.put rfl v)
   ·exact znR hF hc (by omega) (s:=19) (by rfl) (fun e m h=>h.fl) (fun e m v h=>h.put rfl v)
   ·exact zaN (s:=21) (at_:=16) (n:=8) hF hl hc (by omega) (by omega) (by rfl) (fun e m h=>h.sl 21 (by decide)) (fun e m v h=>h.put rfl v)
   ·exact zaN (s:=23) (at_:=24) (n:=8) hF hl hc (by omega) (by omega) (by rfl) (fun e m h=>h.sl 23 (by decide)) (fun e m v h=>h.put rfl v)
   ·exact zaN (s:=25) (at_:=32) (n:=4) hF hl hc (by omega) (by omega) (by rfl) (fun e m h=>h.sl 25 (by decide)) (fun e m v h=>h.put rfl v)
   ·exact zaN (s:=27) (at_:=36) (n:=4) hF hl hc (by omega) (by omega) (by rfl) (fun e m h=>h.sl 27 (by decide)) (fun e m v h=>h.put rfl v)
   ·exact zaN (s:=29) (at_:=40) (n:=8) hF hl hc (by omega) (by omega) (by rfl) (fun e m h=>h.sl 29 (by decide)) (fun e m v h=>h.put rfl v)
   ·exact zaN (s:=31) (at_:=48) (n:=4) hF hl hc (by omega) (by omega) (by rfl) (fun e m h=>h.sl 31 (by decide)) (fun e m v h=>h.put rfl v)
   ·exact zaN (s:=33) (at_:=52) (n:=4) hF hl hc (by omega) (by omega) (by rfl) (fun e m h=>h.sl 33 (by decide)) (fun e m v h=>h.put rfl v)
   ·exact zaN (s:=35) (at_:=56) (n:=8) hF hl hc (by omega) (by omega) (by rfl) (fun e m h=>h.sl 35 (by decide)) (fun e m v h=>h.put rfl v)
   ·exact zaN (s:=37) (at_:=64) (n:=4) hF hl hc (by omega) (by omega) (by rfl) (fun e m h=>h.sl 37 (by decide)) (fun e m v h=>h.put rfl v)
   ·exact zaN (s:=39) (at_:=68) (n:=4) hF hl hc (by omega) (by omega) (by rfl) (fun e m h=>h.sl 39 (by decide)) (fun e m v h=>h.put rfl v)
   ·exact zaN (s:=41) (at_:=72) (n:=8) hF hl hc (by omega) (by omega) (by rfl) (fun e m h=>h.sl 41 (by decide)) (fun e m v h=>h.put rfl v)
   ·exact zaN (s:=43) (at_:=80) (n:=4) hF hl hc (by omega) (by omega) (by rfl) (fun e m h=>h.sl 43 (by decide)) (fun e m v h=>h.put rfl v)
  ·intro b
   intro x hx
   simp only [csR,List.mem_cons,List.not_mem_nil,or_false] at hx
   rcases hx with rfl|rfl|rfl|rfl|rfl|rfl|rfl|rfl|rfl|rfl|rfl|rfl|rfl|rfl
   ·exact zaN (s:=16) (at_:=4) (n:=4) hF hl hc (by omega) (by omega) (by rfl) (fun e m h=>h.1.sl 16 (by decide)) (fun e m v h=>⟨h.1.put rfl v,by rw [Env.get_cons,if_neg (by decide)];exact h.2⟩)
   ·exact znR hF hc (by omega) (s:=19) (by rfl) (fun e m h=>h.1.fl) (fun e m v h=>⟨h.1.put rfl v,by rw [Env.get_cons,if_neg (by decide)];exact h.2⟩)
   ·exact zaN (s:=21) (at_:=16) (n:=8) hF hl hc (by omega) (by omega) (by rfl) (fun e m h=>h.1.sl 21 (by decide)) (fun e m v h=>⟨h.1.put rfl v,by rw [Env.get_cons,if_neg (by decide)];exact h.2⟩)
   ·exact zaN (s:=23) (at_:=24) (n:=8) hF hl hc (by omega) (by omega) (by rfl) (fun e m h=>h.1.sl 23 (by decide)) (fun e m v h=>⟨h.1.put rfl v,by rw [Env.get_cons,if_neg (by decide)];exact h.2⟩)
   ·exact zaN (s:=25) (at_:=32) (n:=4) hF hl hc (by omega) (by omega) (by rfl) (fun e m h=>h.1.sl 25 (by decide)) (fun e m v h=>⟨h.1.put rfl v,by rw [Env.get_cons,if_neg (by decide)];exact h.2⟩)
   ·exact zaN (s:=27) (at_:=36) (n:=4) hF hl hc (by omega) (by omega) (by rfl) (fun e m h=>h.1.sl 27 (by decide)) (fun e m v h=>⟨h.1.put rfl v,by rw [Env.get_cons,if_neg (by decide)];exact h.2⟩)
   ·exact zaN (s:=29) (at_:=40) (n:=8) hF hl hc (by omega) (by omega) (by rfl) (fun e m h=>h.1.sl 29 (by decide)) (fun e m v h=>⟨h.1.put rfl v,by rw [Env.get_cons,if_neg (by decide)];exact h.2⟩)
   ·exact zaN (s:=31) (at_:=48) (n:=4) hF hl hc (by omega) (by omega) (by rfl) (fun e m h=>h.1.sl 31 (by decide)) (fun e m v h=>⟨h.1.put rfl v,by rw [Env.get_cons,if_neg (by decide)];exact h.2⟩)
   ·exact zaN (s:=33) (at_:=52) (n:=4) hF hl hc (by omega) (by omega) (by rfl) (fun e m h=>h.1.sl 33 (by decide)) (fun e m v h=>⟨h.1.put rfl v,by rw [Env.get_cons,if_neg (by decide)];exact h.2⟩)
   ·exact zaN (s:=35) (at_:=56) (n:=8) hF hl hc (by omega) (by omega) (by rfl) (fun e m h=>h.1.sl 35 (by decide)) (fun e m v h=>⟨h.1.put rfl v,by rw [Env.get_cons,if_neg (by decide)];exact h.2⟩)
   ·exact zaN (s:=37) (at_:=64) (n:=4) hF hl hc (by omega) (by omega) (by rfl) (fun e m h=>h.1.sl 37 (by decide)) (fun e m v h=>⟨h.1.put rfl v,by rw [Env.get_cons,if_neg (by decide)];exact h.2⟩)
   ·exact zaN (s:=39) (at_:=68) (n:=4) hF hl hc (by omega) (by omega) (by rfl) (fun e m h=>h.1.sl 39 (by decide)) (fun e m v h=>⟨h.1.put rfl v,by rw [Env.get_cons,if_neg (by decide)];exact h.2⟩)
   ·exact zaN (s:=41) (at_:=72) (n:=8) hF hl hc (by omega) (by omega) (by rfl) (fun e m h=>h.1.sl 41 (by decide)) (fun e m v h=>⟨h.1.put rfl v,by rw [Env.get_cons,if_neg (by decide)];exact h.2⟩)
   ·exact zaN (s:=43) (at_:=80) (n:=4) hF hl hc (by omega) (by omega) (by rfl) (fun e m h=>h.1.sl 43 (by decide)) (fun e m v h=>⟨h.1.put rfl v,by rw [Env.get_cons,if_neg (by decide)];exact h.2⟩)
  ·show ([17,20,22,24,26,28,30,32,34,36,38,40,42,44]:List Nat).Nodup
   decide
  ·intro x hx
   simp only [csR,List.nil_append,List.mem_cons,List.not_mem_nil,or_false] at hx
   rcases hx with rfl|rfl|rfl|rfl|rfl|rfl|rfl|rfl|rfl|rfl|rfl|rfl|rfl|rfl<;>(dsimp only;omega)
  ·refine⟨fun s hs=>?_,rfl,rfl,rfl,rfl⟩
   simp only [zn2,List.mem_cons,List.not_mem_nil,or_false] at hs
   rcases hs with rfl|rfl|rfl|rfl|rfl|rfl|rfl|rfl|rfl|rfl|rfl|rfl|rfl|rfl<;>rfl
  ·intro x hx
   cases hx
  ·exact fun e hB hG=>zrn (by rfl) hB hG (zwz (by rfl) (by rfl) (hB.put rfl _) (by rw [Env.get_cons,if_pos rfl]))
  ·exact fun b e hB hG=>zrn (by rfl) hB.1 hG (zn7 (by rfl) (hB.1.put rfl _) (by rw [Env.get_cons,if_neg (by decide)];exact hB.2) (by rw [Env.get_cons,if_pos rfl]))
 ·rintro bA -
  have hns:nm.size≤64:=by
   rw [hnmE]
   show ((bs.drop 88).take (getV bs 84 4)).toArray.size≤64
   rw [List.size_toArray,List.length_take];omega
  have hfl:0≤(hdR bs nm).flags:=by show 0≤((getV bs 8 8:Nat):Int);omega
  have hbk:(hdR bs nm).backing.size≤64:=hns
  have h5:(bs.take 512).length=512:=by rw [List.length_take];omega
  have hb5:BytsIn w (cutA A c 0 1) (bs.take 512):=BytsIn.sub hb c 0 512 (by omega) hc
  generalize hdR bs nm=H at hfl hbk ⊢
  refine gGw ?_
  refine⟨zm2,zae _ (fun w' _=>zuk H w' (by omega)) ?_⟩
  cases hmay:mayH H with
  | false =>
   rw [if_neg (fun h=>absurd h.1 (by decide))]
   refine gGw ?_
   refine zar zaa mixed (by kernel_rfl) rfl ?_;conv=>whnf
   refine gG0 ?_
   refine br_t rfl ?_
   refine gGw ?_
   refine br_t rfl ?_
   refine gGw ?_
   exact zbW rfl rfl (ldN (vs:=hdZ.cells) zaa (by repeat constructor) rfl rfl rfl rfl) rfl (fun w' hm=>⟨rfl,hm.fr⟩)
  | true =>
   have hk:=zgT hfl hmay
   have hlen:(zbe H).length=512:=by
    have e:zbe H=preB H 14++leB H.backing.size 4++H.backing.data.toList++List.replicate (424-H.backing.size) 0:=rfl
    rw [e,List.length_append,List.length_append,List.length_append,zgi,zad,List.length_replicate,Array.length_toList]
    have:H.backing.data.size=H.backing.size:=rfl
    omega
   refine gGw ?_
   refine zcd (γ:=Unit) (Tr.hs [0,1,2,3,6,7,8] (.sq [4,5] (.hs [9,10] .done))) [.blk bA (.cells H.cells.toArray 34),mZ rB] zaa mixed (by kernel_rfl) rfl (fun _=>True)
    (fun _=>[(63,.bool (!decide (Str (zbe H)=Str (bs.take 512)))),(5,.pointer (some ⟨bA,0,none⟩)),(3,.bool false),(2,.pointer (some ⟨rB,0,none⟩))]) (fun _=>[.blk bA (.cells H.cells.toArray 34),mZ rB]) SubM.sl ?_ ?_
   ·refine gGw ?_
    refine And.intro ⟨by omega,by omega,by omega,.inr hpl⟩ ?_
    refine gGw ?_
    refine⟨.string (Str (bs.take 512)),?_,?_⟩
    ·have h9:=zcB (cx:=CX 66 [] w) (m:=[.blk bA (.cells H.cells.toArray 34),mZ rB]) (s:=22) (d:=9) (bs:=bs.take 512) zaa rfl rfl rfl rfl rfl rfl (BytsIn.byts hb5 (fun _ h=>h)) c
     rw [h5] at h9
     exact Rd.g h9
    conv=>whnf
    refine⟨?_,trivial⟩
    refine⟨zfy,zac (m1:=[]) .nil (fun w' hm'=>zid H w' hk) ?_⟩
    rintro e m' ⟨gA,gc,rfl,rfl⟩
    refine gGs ?_
    conv=>whnf
    refine⟨?_,trivial⟩
    refine Rd.n (zie (bs:=zbe H) (t:=5) zaa rfl rfl rfl rfl rfl rfl .here hlen.symm) ?_
    refine gGs ?_
    refine gGw ?_
    exact⟨(),trivial,⟨rfl,rfl,rfl,rfl,trivial⟩,SubM.sl⟩
   ·rintro - -
    by_cases hC:zbe H=bs.take 512
    ·rw [if_pos ⟨rfl,hC⟩]
     rw [hC]
     refine gGw ?_
     refine br_f (by simp) ?_
     refine gGw ?_
     exact zbW rfl rfl (ldN (vs:=H.cells) zaa (by repeat constructor) rfl rfl rfl rfl) rfl (fun w' hm=>⟨rfl,hm.fr⟩)
    ·rw [if_neg (fun h=>hC h.2)]
     refine gGw ?_
     refine br_t (by rw [decide_eq_false (fun h=>hC (Str.inj.1 h))];rfl) ?_
     refine gGw ?_
     exact zbW rfl rfl (ldN (vs:=hdZ.cells) zaa (by repeat constructor) rfl rfl rfl rfl) rfl (fun w' hm=>⟨rfl,hm.fr⟩)
end Go.Proofs.YtlmgelmloddfgaaGreat
namespace Go.Proofs.YtlmgelmloddfgaaGreat
open Go Go.RowKit Eng
theorem zbl {bs:List UInt8} {a n N:Nat} (h:a+n≤N):getV (bs.take N) a n=getV bs a n:=by
 unfold getV
 rw [List.drop_take,List.take_take,Nat.min_eq_left (by omega)]
theorem zt0 {bs:List UInt8} {a n N:Nat} (h:a+n≤N):((bs.take N).drop a).take n=(bs.drop a).take n:=by
 rw [List.drop_take,List.take_take,Nat.min_eq_left (by omega)]
theorem zcG {x:Nat} (hx:x<18446744073709551616) (h:0≤i64w x∧i64w x≤4611686018427387904):numR x=i64w x:=by
 unfold i64w at h ⊢
 rw [IntKind.wrap_i64] at h ⊢
 unfold numR
 split<;>omega
theorem zcC {x:Nat} (h:0≤numR x):i64w x=numR x:=by
 unfold numR at h ⊢
 split at h
 ·omega
 ·rename_i hx
  rw [if_neg hx,zpW (by omega)]
theorem hdI_R {bs:List UInt8} {nm:ByteArray} (h:mayH (hdI bs nm)=true):hdI bs nm=hdR bs nm:=by
 have hf:0≤(hdI bs nm).flags:=by
  show 0≤IntKind.u64.wrap _
  rw [IntKind.wrap_u64];omega
 obtain ⟨k1,k2,k3,k4,k5,k6,k7,k8,k9,k10,k11,k12,k13,k14,_⟩:=zgT hf h
 have hv:∀ a n,n≤8→getV bs a n<18446744073709551616:=fun a n hn=>zgU bs a (k:=n) hn
 unfold hdI at k1 k3 k4 k5 k6 k7 k8 k9 k10 k11 k12 k13 k14 ⊢
 unfold hdR
 simp only at k1 k3 k4 k5 k6 k7 k8 k9 k10 k11 k12 k13 k14
 rw [znV (hv 8 8 (by omega)),zcG (hv 4 4 (by omega)) (by omega),zcG (hv 16 8 (by omega)) (by omega),zcG (hv 24 8 (by omega)) (by omega),zcG (hv 32 4 (by omega)) (by omega),zcG (hv 36 4 (by omega)) (by omega),zcG (hv 40 8 (by omega)) (by omega),zcG (hv 48 4 (by omega)) (by omega),
  zcG (hv 52 4 (by omega)) (by omega),zcG (hv 56 8 (by omega)) (by omega),zcG (hv 64 4 (by omega)) (by omega),zcG (hv 68 4 (by omega)) (by omega),zcG (hv 72 8 (by omega)) (by omega),zcG (hv 80 4 (by omega)) (by omega)]
theorem hdR_I {bs:List UInt8} {nm:ByteArray} (h:mayH (hdR bs nm)=true):hdI bs nm=hdR bs nm:=by
 have hf:0≤(hdR bs nm).flags:=by show 0≤((getV bs 8 8:Nat):Int);omega
 obtain ⟨k1,k2,k3,k4,k5,k6,k7,k8,k9,k10,k11,k12,k13,k14,_⟩:=zgT hf h
 unfold hdR at k1 k3 k4 k5 k6 k7 k8 k9 k10 k11 k12 k13 k14 ⊢
 unfold hdI
 simp only at k1 k3 k4 k5 k6 k7 k8 k9 k10 k11 k12 k13 k14
 rw [znV (zgU bs 8 (k:=8) (by omega)),zcC (by omega:0≤numR (getV bs 4 4)),zcC (by omega:0≤numR (getV bs 16 8)),zcC (by omega:0≤numR (getV bs 24 8)),zcC (by omega:0≤numR (getV bs 32 4)),zcC (by omega:0≤numR (getV bs 36 4)),zcC (by omega:0≤numR (getV bs 40 8)),
  zcC (by omega:0≤numR (getV bs 48 4)),zcC (by omega:0≤numR (getV bs 52 4)),zcC (by omega:0≤numR (getV bs 56 8)),zcC (by omega:0≤numR (getV bs 64 4)),zcC (by omega:0≤numR (getV bs 68 4)),zcC (by omega:0≤numR (getV bs 72 8)),zcC (by omega:0≤numR (getV bs 80 4))]
theorem zkL (bs:List UInt8) (nm:ByteArray):hdR (bs.take 512) nm=hdR bs nm:=by
 unfold hdR
 simp only [zbl (bs:=bs) (N:=512) (a:=4) (n:=4) (by omega),zbl (bs:=bs) (N:=512) (a:=8) (n:=8) (by omega),zbl (bs:=bs) (N:=512) (a:=16) (n:=8) (by omega),zbl (bs:=bs) (N:=512) (a:=24) (n:=8) (by omega),zbl (bs:=bs) (N:=512) (a:=32) (n:=4) (by omega),zbl (bs:=bs) (N:=512) (a:=36) (n:=4) (by omega),
  zbl (bs:=bs) (N:=512) (a:=40) (n:=8) (by omega),zbl (bs:=bs) (N:=512) (a:=48) (n:=4) (by omega),zbl (bs:=bs) (N:=512) (a:=52) (n:=4) (by omega),zbl (bs:=bs) (N:=512) (a:=56) (n:=8) (by omega),zbl (bs:=bs) (N:=512) (a:=64) (n:=4) (by omega),zbl (bs:=bs) (N:=512) (a:=68) (n:=4) (by omega),zbl (bs:=bs) (N:=512) (a:=72) (n:=8) (by omega),zbl (bs:=bs) (N:=512) (a:=80) (n:=4) (by omega)]
theorem ziE (h:Hd) {n:Nat} (hn:h.backing.size=n) (h64:n≤64):zg3 (((zbe h).drop (88+n)).take (64-n))=true:=by
 have e:zbe h=(preB h 14++leB h.backing.size 4++h.backing.data.toList)++List.replicate (424-h.backing.size) 0:=rfl
 have hl:(preB h 14++leB h.backing.size 4++h.backing.data.toList).length=88+n:=by
  rw [List.length_append,List.length_append,zgi,zad,Array.length_toList,← hn];rfl
 rw [e,List.drop_append,List.drop_of_length_le (by omega),hl,Nat.sub_self,List.drop_zero,List.nil_append,List.take_replicate]
 unfold zg3
 rw [List.all_eq_true]
 intro x hx
 rw [(List.mem_replicate.1 hx).2];rfl
theorem zkJ (bs:List UInt8):zmh bs=zb7 bs:=by
 unfold zmh zb7
 by_cases hlt:bs.length<512
 ·rw [if_pos hlt,if_pos hlt]
 rw [if_neg hlt,if_neg hlt]
 have e84:getV (bs.take 512) 84 4=getV bs 84 4:=zbl (by omega)
 by_cases h64:64<getV bs 84 4
 ·rw [if_pos h64]
  have ht:(zdX (bs.take 512) 84 64).2≠0:=by
   unfold zdX
   rw [e84,if_neg (fun h=>by omega)];decide
  rw [if_neg (fun h=>ht h.1)]
 rw [if_neg h64]
 have hnm:((bs.take 512).drop (84+4)).take (getV bs 84 4)=(bs.drop 88).take (getV bs 84 4):=zt0 (by omega)
 have hsz:(Str ((bs.drop 88).take (getV bs 84 4))).size=getV bs 84 4:=by
  rw [Str.size,List.length_take,List.length_drop];omega
 by_cases hz:zg3 (((bs.take 512).drop (84+4+getV bs 84 4)).take (64-getV bs 84 4))=true
 ·have ht:zdX (bs.take 512) 84 64=(Str ((bs.drop 88).take (getV bs 84 4)),0):=by
   unfold zdX
   rw [e84,if_pos ⟨by omega,hz⟩,hnm]
  rw [ht]
  simp only [true_and]
  by_cases hm:mayH (hdR bs (Str ((bs.drop 88).take (getV bs 84 4))))=true
  ·have e:hdI (bs.take 512) (Str ((bs.drop 88).take (getV bs 84 4)))=hdR bs (Str ((bs.drop 88).take (getV bs 84 4))):=by
    rw [← zkL] at hm
    rw [hdR_I hm,zkL]
   rw [e]
  ·rw [if_neg (fun h=>hm h.1),if_neg (fun h=>hm (by
    have:=h.1
    rw [hdI_R this,zkL] at this
    exact this))]
 ·have ht:(zdX (bs.take 512) 84 64).2≠0:=by
   unfold zdX
   rw [e84,if_neg (fun h=>hz h.2)];decide
  rw [if_neg (fun h=>hz (by
   rw [← h.2,show 84+4=88 from rfl]
   exact ziE _ hsz (by omega))),if_neg (fun h=>ht h.1)]
end Go.Proofs.YtlmgelmloddfgaaGreat
namespace Go.Proofs.YtlmgelmloddfgaaGreat
open Go Go.RowKit Eng
theorem zrh {P:Program} {t:Nat} {i:TyI} {n e:Nat} (h:i.ok P t) (hk:i.kind=.arr n e) {a:Addr} {vs:List Value} {w:World} (hl:vs.length=i.cells) (hc:∀ j v,vs[j]?=some v→w.cell? (a.add j)=some v) :
  (Instr.loadAt t (.pointer (some a))).run P w=.ok (.agg vs.toArray) w:=by
 obtain ⟨d,hd,hkd⟩:=h.desc
 rw [hk] at hkd
 subst hkd
 have:(isAgg t).run P w=.ok true w:=by simp [isAgg,run_underlying hd]
 have h2:=run_loadCells_list (P:=P) w a vs hc
 rw [hl] at h2
 simp [Instr.loadAt,Instr.sureAddr,loadVar,this,zba h,h2]
theorem ldA {cx:Cx} (ht:TabOk cx.P cx.tab) {m:Mem} {t:Nat} {i:TyI} {b t' n e:Nat} {cs:List Value} (hh:Has m (.blk b (.cells cs.toArray t'))) (hi:cx.tab.get t=some i) (hk:i.kind=.arr n e) (hl:cs.length=i.cells):Ld cx m t (.pointer (some ⟨b,0,none⟩)) (.agg cs.toArray):=by
 intro w hm
 refine zrh (ht _ _ hi) hk hl fun j v hj=>?_
 rw [Addr.add_lit,zaM (hm.ok _ hh.mem),Nat.zero_add]
 exact hj
theorem zav (l:List Value):zaX (.agg l.toArray)=l:=rfl
theorem zx3 {cx:Cx} {fn:Func} {R:Ending→World→Prop} {e:Env} {m:Mem} {t s:Tmp} {ty ty2:TypeId} (hr:fn.results=#[.cell t ty,.cell s ty2]) {u u' v v':Value} (hu:e.get t=some u) (hv:Ld cx m ty u v) (hu':e.get s=some u') (hv':Ld cx m ty2 u' v') (h:∀ w,MemOk cx.w0 cx.S m w→R (.returned (.tuple #[v,v'])) w):fin cx fn R .ret e m :=
 ⟨[v,v'],by rw [hr];exact⟨u,v,[v'],hu,hv,rfl,u',v',[],hu',hv',rfl,rfl⟩,h⟩
def upL (f:Nat→Int) (n i:Nat):List Int:=(List.range n).map fun k=>if k<i then f k else 0
theorem zfL (f:Nat→Int) (n i:Nat):(upL f n i).length=n:=by simp [upL]
theorem zhH (f:Nat→Int) (n i:Nat):(upL f n i).set i (f i)=upL f n (i+1):=by
 apply List.ext_getElem
 ·rw [List.length_set,zfL,zfL]
 ·intro j h1 h2
  rw [List.getElem_set]
  simp only [upL,List.getElem_map,List.getElem_range]
  by_cases h:i=j
  ·subst h;rw [if_pos rfl,if_pos (by omega)]
  ·rw [if_neg h]
   by_cases hj:j<i
   ·rw [if_pos hj,if_pos (by omega)]
   ·rw [if_neg hj,if_neg (by omega)]
theorem zqJ (f:Nat→Int) (n:Nat):upL f n n=(List.range n).map f:=by
 unfold upL
 apply List.map_congr_left
 intro k hk
 rw [if_pos (List.mem_range.1 hk)]
theorem zs0 (f:Nat→Int) (n:Nat):upL f n 0=List.replicate n 0:=by
 unfold upL
 apply List.ext_getElem
 ·simp
 ·intro j h1 h2
  rw [List.getElem_map,List.getElem_replicate,if_neg (by omega)]
def fixV (i:Nat):Int:=if 280≤i∨i<144 then 8 else if i<256 then 9 else 7
theorem zr9:upL fixV 288 288=fixL:=zqJ fixV 288
theorem zsb:upL (fun _=>5) 32 32=fixD:=by decide
theorem zuU:newE fixL=0:=by decide +kernel
theorem zuV:newE fixD=0:=by decide +kernel
attribute [local irreducible] Br Rn RnU Cl RdG CpG Ld Rd Lp Dr Oth Cut fin Fits Eng.Enters Md NA
theorem zlX:Eng.Enters Tryz.prog 201:=zab fun _ _=>by kernel_rfl
theorem zk1:Eng.Enters Tryz.prog 197:=zab fun _ _=>by kernel_rfl
theorem zkZ:Eng.Enters Tryz.prog 169:=zab fun _ _=>by kernel_rfl
theorem zrB (w:World):Ctr Tryz.prog 201 [] [] (fun e m'=>e=.returned (.agg (ordL.map (Value.int .i64)).toArray)∧m'=[]) w:=by
 refine enter (cx:=CXS 2 [] w (Foot [])) [] zaa Tryz.func201 rfl rfl rfl rfl (MemOk.nil w _) ?_
 refine gGw ?_;(repeat ((first|refine .mk fun Ap capp=>?_|intro _);(conv=>whnf);refine gG0 ?_))
 refine zw1 rfl rfl (ldA zaa (by repeat constructor) rfl rfl rfl) (fun w' hm=>⟨_,⟨rfl,rfl⟩,hm.sublist (List.nil_sublist _)⟩)
theorem zqg (w:World):Ctr Tryz.prog 197 [] [] (fun e m'=>e=.returned (.tuple #[.agg (fixL.map (Value.int .i64)).toArray,.agg (fixD.map (Value.int .i64)).toArray])∧m'=[]) w:=by
 refine enter (cx:=CXS 32 [] w (Foot [])) [] zaa Tryz.func197 rfl rfl rfl rfl (MemOk.nil w _) ?_
 refine gGw ?_;(repeat ((first|refine .mk fun Ap capp=>?_|intro _);(conv=>whnf);refine gG0 ?_))
 rename_i b0 b1
 refine lp zaa (γ:=Nat) (fun i=>i≤288) (fun i=>[(4,.int .i64 (i:Int)),(0,.pointer (some ⟨b0,0,none⟩)),(1,.pointer (some ⟨b1,0,none⟩))]) (fun i=>[.blk b0 (.cells ((upL fixV 288 i).map (Value.int .i64)).toArray 293),.blk b1 (.cells ((upL (fun _=>5) 32 0).map (Value.int .i64)).toArray 294)]) (fun i=>288-i) 0 (by omega) ⟨rfl,rfl,rfl,trivial⟩ (SubM.perm (List.Perm.swap _ _ _)) ?_
 rintro i hi
 dsimp only
 conv=>whnf
 refine br_d (fun hlt=>?_) (fun hge=>?_)
 ·have hl:=zfL fixV 288 i
  have hu:=zhH fixV 288 i
  have h5:∀ v:Int,v=fixV i→((upL fixV 288 i).set i 8).set i v=upL fixV 288 (i+1):=fun v h=>by rw [List.set_set,h,hu]
  have h6:fixV i=8→(upL fixV 288 i).set i 8=upL fixV 288 (i+1):=fun h=>by rw [← h,hu]
  have hfv:fixV i=if 280≤i∨i<144 then 8 else if i<256 then 9 else 7:=rfl
  generalize upL fixV 288 i=q at hl h5 h6 ⊢
  refine gGw ?_
  refine And.intro ⟨by omega,by omega,Pl.mk _ _⟩ ?_
  conv=>whnf
  refine zaT (b:=b0) (off:=0+i) (cs':=(q.set i 8).map (Value.int .i64)) zaa rfl (by repeat constructor) rfl rfl (Nat.ble_eq_true_of_le (show 0+i+1≤_ by rw [List.length_map,hl];omega)) (by rw [Nat.zero_add,List.map_set];rfl) ?_
  refine gGw ?_
  by_cases hc1:280≤i∨i<144
  ·have hor:(decide ((280:Int)≤i)||decide ((i:Int)<144))=true:=by
    rcases hc1 with h|h
    ·rw [decide_eq_true (show (280:Int)≤i by omega)];rfl
    ·rw [decide_eq_true (show (i:Int)<144 by omega),Bool.or_true]
   refine br_t hor ?_
   rw [if_pos hc1] at hfv
   rw [h6 hfv]
   refine gGw ?_
   exact⟨i+1,by omega,by omega,⟨rfl,rfl,rfl,trivial⟩,SubM.refl _ _⟩
  rw [if_neg hc1] at hfv
  refine br_f (by rw [decide_eq_false (by omega),decide_eq_false (by omega)];rfl) ?_
  refine gGw ?_
  refine br_d (fun hc2=>?_) (fun hc2=>?_)
  ·rw [if_pos (by omega)] at hfv
   refine gGw ?_
   refine And.intro ⟨by omega,by omega,Pl.mk _ _⟩ ?_
   conv=>whnf
   refine zaT (b:=b0) (off:=0+i) (cs':=(upL fixV 288 (i+1)).map (Value.int .i64)) zaa rfl (by repeat constructor) rfl rfl (Nat.ble_eq_true_of_le (show 0+i+1≤_ by rw [List.length_map,List.length_set,hl];omega)) (by rw [Nat.zero_add,← h5 9 hfv.symm,List.map_set (l:=q.set i 8)];rfl) ?_
   refine gGw ?_
   exact⟨i+1,by omega,by omega,⟨rfl,rfl,rfl,trivial⟩,SubM.refl _ _⟩
  ·rw [if_neg (by omega)] at hfv
   refine gGw ?_
   refine And.intro ⟨by omega,by omega,Pl.mk _ _⟩ ?_
   conv=>whnf
   refine zaT (b:=b0) (off:=0+i) (cs':=(upL fixV 288 (i+1)).map (Value.int .i64)) zaa rfl (by repeat constructor) rfl rfl (Nat.ble_eq_true_of_le (show 0+i+1≤_ by rw [List.length_map,List.length_set,hl];omega)) (by rw [Nat.zero_add,← h5 7 hfv.symm,List.map_set (l:=q.set i 8)];rfl) ?_
   refine gGw ?_
   exact⟨i+1,by omega,by omega,⟨rfl,rfl,rfl,trivial⟩,SubM.refl _ _⟩
 ·obtain rfl:i=288:=by omega
  rw [zr9]
  have hfl:fixL.length=288:=by decide
  generalize hq:fixL=q at hfl
  refine gGw ?_
  refine lp zaa (γ:=Nat) (fun i=>i≤32) (fun i=>[(24,.int .i64 (i:Int)),(0,.pointer (some ⟨b0,0,none⟩)),(1,.pointer (some ⟨b1,0,none⟩))]) (fun i=>[.blk b0 (.cells (q.map (Value.int .i64)).toArray 293),.blk b1 (.cells ((upL (fun _=>5) 32 i).map (Value.int .i64)).toArray 294)]) (fun i=>32-i) 0 (by omega) ⟨rfl,rfl,rfl,trivial⟩ (SubM.refl _ _) ?_
  clear hi hge
  rintro i hi
  dsimp only
  conv=>whnf
  refine br_d (fun hlt=>?_) (fun hge=>?_)
  ·have hl:=zfL (fun _=>5) 32 i
   have hu:=zhH (fun _=>5) 32 i
   refine gGw ?_
   refine And.intro ⟨by omega,by omega,Pl.mk _ _⟩ ?_
   conv=>whnf
   refine zaT (b:=b1) (off:=0+i) (cs':=(upL (fun _=>5) 32 (i+1)).map (Value.int .i64)) zaa rfl (by repeat constructor) rfl rfl (Nat.ble_eq_true_of_le (show 0+i+1≤_ by rw [List.length_map,hl];omega)) (by rw [Nat.zero_add,← hu,List.map_set];rfl) ?_
   refine gGw ?_
   exact⟨i+1,by omega,by omega,⟨rfl,rfl,rfl,trivial⟩,SubM.refl _ _⟩
  ·obtain rfl:i=32:=by omega
   rw [zsb]
   have hdl:fixD.length=32:=by decide
   generalize hr:fixD=r at hdl
   conv=>whnf
   refine zbc (γ:=Unit) (Tr.hs [0,1] (.sq [2,3] .done)) [.blk b0 (.cells (q.map (Value.int .i64)).toArray 293),.blk b1 (.cells (r.map (Value.int .i64)).toArray 294)] zaa mixed (by kernel_rfl) rfl (fun _=>True)
    (fun _=>[(0,.pointer (some ⟨b0,0,none⟩)),(1,.pointer (some ⟨b1,0,none⟩))]) (fun _=>[.blk b0 (.cells (q.map (Value.int .i64)).toArray 293),.blk b1 (.cells (r.map (Value.int .i64)).toArray 294)]) SubM.sl ?_ ?_
   ·refine gGw ?_
    refine⟨_,(ldA zaa (by repeat constructor) rfl rfl (by rw [List.length_map];exact hfl)).g,?_⟩
    conv=>whnf
    refine⟨_,(ldA zaa (by repeat constructor) rfl rfl (by rw [List.length_map];exact hdl)).g,?_⟩
    conv=>whnf
    refine⟨?_,trivial⟩
    conv=>whnf
    refine zaT (b:=b0) (off:=0) (cs':=q.map (Value.int .i64)) zaa rfl (by repeat constructor) (by rw [zav,List.length_map];exact hfl) (by rw [zav];exact zbt _ _) (Nat.ble_eq_true_of_le (by rw [zav];omega)) (by rw [zav];exact zb3 _ _ rfl) ?_
    conv=>whnf
    refine And.intro (SubM.refl _ _) ?_
    conv=>whnf
    refine⟨?_,trivial⟩
    conv=>whnf
    refine zaT (b:=b1) (off:=0) (cs':=r.map (Value.int .i64)) zaa rfl (by repeat constructor) (by rw [zav,List.length_map];exact hdl) (by rw [zav];exact zbt _ _) (Nat.ble_eq_true_of_le (by rw [zav];omega)) (by rw [zav];exact zb3 _ _ rfl) ?_
    conv=>whnf
    refine And.intro (SubM.refl _ _) ?_
    conv=>whnf
    exact⟨(),trivial,⟨rfl,rfl,trivial⟩,SubM.refl _ _⟩
   ·rintro ⟨⟩ -
    refine gGw ?_
    subst hq hr
    exact zx3 rfl rfl (ldA zaa (by repeat constructor) rfl rfl (by rw [List.length_map];exact hfl)) rfl (ldA zaa (by repeat constructor) rfl rfl (by rw [List.length_map];exact hdl)) (fun w' hm=>⟨_,⟨rfl,rfl⟩,hm.sublist (List.nil_sublist _)⟩)
theorem zvD {L:List Int} {n:Nat} (hn:L.length=n) (A:Option Addr) (c:Nat) (w:World) (hb:IntsIn .i64 w A L) (hc:newE L=0) :
  Ctr Tryz.prog 200 [.slice A n c] [] (fun e m'=>∃ d:Cd,d.L=L∧e=.returned (.tuple #[.pointer (some ⟨d.B,0,none⟩),.int .i64 0])∧m'=CdM d) w:=by
 subst hn
 exact zoE L A c w hb (zgS hc).1 (zgS hc).2
theorem zkS:fixL.length=288:=by simp [fixL]
theorem zkT:fixD.length=32:=by simp [fixD]
theorem zqf (s:Stm) (at_:Nat) (A:Option Addr) (c:Nat) (o:List Int) (w:World) (hs:s.Ok at_ o) (hm:MemOk w (Foot (StM s at_ A c o)) (StM s at_ A c o) w) :
  Ctr Tryz.prog 169 [.pointer (some ⟨s.B,0,none⟩)] (StM s at_ A c o) (StR s at_ (zoM s.q.bs s.most at_ o)) w:=by
 refine enter (cx:=CXS 20 [] w (Foot (StM s at_ A c o))) [(0,.pointer (some ⟨s.B,0,none⟩))] zaa Tryz.func169 rfl rfl rfl rfl hm ?_
 generalize hR:zoM s.q.bs s.most at_ o=R
 unfold zoM at hR
 have hfl:=zkS
 have hdl:=zkT
 have hfn:=zuU
 have hdn:=zuV
 refine gGw ?_
 refine⟨zk1,zac (m1:=[]) .nil (fun w' hm'=>zqg w') ?_⟩
 rintro e m' ⟨rfl,rfl⟩
 generalize fixL=L at hR hfl hfn ⊢
 generalize fixD=D at hR hdl hdn ⊢
 refine gGw ?_;(repeat ((first|refine .mk fun Ap capp=>?_|intro _);(conv=>whnf);refine gG0 ?_))
 rename_i bL bD
 refine zaT (b:=bL) (off:=0) (cs':=L.map (Value.int .i64)) zaa rfl (by repeat constructor) (by rw [zav,List.length_map];exact hfl) (by rw [zav];exact zbt _ _) (Nat.ble_eq_true_of_le (by rw [zav,List.length_map,hfl];decide)) (by rw [zav];exact zb3 _ _ (by rw [List.length_map,hfl];rfl)) ?_
 conv=>whnf
 refine zaT (b:=bD) (off:=0) (cs':=D.map (Value.int .i64)) zaa rfl (by repeat constructor) (by rw [zav,List.length_map];exact hdl) (by rw [zav];exact zbt _ _) (Nat.ble_eq_true_of_le (by rw [zav,List.length_map,hdl];decide)) (by rw [zav];exact zb3 _ _ (by rw [List.length_map,hdl];rfl)) ?_
 conv=>whnf
 refine zbc (γ:=Nat × List Int × Option Addr × Nat) (Tr.hs [0,1,6] (.sq [2] (.hs [3,4] (.sq [5,7] (.hs [8,9] (.sq [10,11] .done)))))) [] zaa mixed (by kernel_rfl) rfl
  (fun g=>R=.ok (g.1,g.2.1)∧at_≤g.1∧g.1≤8*s.q.bs.length∧(g.2.1.length:Int)≤s.most) (fun _=>[]) (fun g=>StM s g.1 g.2.2.1 g.2.2.2 g.2.1) (SubM.sel .nil) ?_ ?_
 ·refine gGw ?_
  refine And.intro ⟨by omega,by omega,by omega,Pl.mk _ _⟩ ?_
  refine gGw ?_
  refine And.intro ⟨by omega,by omega,by omega,Pl.mk _ _⟩ ?_
  refine gGw ?_
  refine⟨zeq,zcm (SubM.torow (b:=bL) (n:=288) (by repeat constructor) (by rw [List.length_map];exact hfl) rfl) (zac (m1:=[]) .nil (fun w' hm'=>zvD hfl (some ⟨bL,0,none⟩) 288 w' (rowI (hm'.ok _ (List.mem_cons_self ..))) hfn) ?_)⟩
  rintro e m' ⟨k,hk,rfl,rfl⟩
  refine gGt ?_
  refine⟨zdE,zac (m1:=[]) .nil (fun w' hm'=>zgl _ 0 w') ?_⟩
  rintro e m' ⟨rfl,rfl⟩
  rw [if_pos rfl]
  refine gGt ?_
  refine⟨zeq,zcm (SubM.torow (b:=bD) (n:=32) (by repeat constructor) (by rw [List.length_map];exact hdl) rfl) (zac (m1:=[]) .nil (fun w' hm'=>zvD hdl (some ⟨bD,0,none⟩) 32 w' (rowI (hm'.ok _ (List.mem_cons_self ..))) hdn) ?_)⟩
  rintro e m' ⟨d,hd,rfl,rfl⟩
  refine gGt ?_
  refine⟨zdE,zac (m1:=[]) .nil (fun w' hm'=>zgl _ 0 w') ?_⟩
  rintro e m' ⟨rfl,rfl⟩
  rw [if_pos rfl]
  refine gGt ?_
  refine⟨zfG,zac (m1:=CdM k++CdM d++StM s at_ A c o) (by repeat constructor) (fun w' hm'=>ziN s k d at_ A c o w' hs (by rw [hk];exact hfn) (by rw [hd];exact hdn) hm'.part) ?_⟩
  rw [hk,hd,hR]
  rintro e m' (⟨n,he,hn,rfl,rfl⟩|⟨a,o2,gA,gc,he,h2,h3,h4,rfl,rfl⟩)
  ·conv=>whnf
   exact zaq (fun w' hm=>⟨_,.inl ⟨n,he,hn,rfl,rfl⟩,hm.sublist (List.nil_sublist _)⟩)
  ·refine gGt ?_
   exact⟨(a,o2,gA,gc),⟨he,h2,h3,h4⟩,trivial,SubM.sl⟩
 ·rintro ⟨a,o2,gA,gc⟩ ⟨h1,h2,h3,h4⟩
  refine gGw ?_
  exact fin0 rfl (fun w' hm=>⟨_,.inr ⟨a,o2,gA,gc,h1,h2,h3,h4,rfl,rfl⟩,hm⟩) (.inr rfl)
end Go.Proofs.YtlmgelmloddfgaaGreat
namespace Go.Proofs.YtlmgelmloddfgaaGreat
open Go Go.RowKit Eng
theorem ziQ {L:List Int} {b:Bool} (h:zey L b=0):newE L=0:=by
 unfold zey at h
 split at h
 ·cases h
 ·exact h
theorem znw {L:List Int} {n:Nat} (hn:L.length=n) (none_:Bool) (A:Option Addr) (c:Nat) (w:World) (hb:IntsIn .i64 w A L) (hl:n≤100000) :
  Ctr Tryz.prog 203 [.slice A n c,.bool none_] [] (fun e m'=>(zey L none_=0∧∃ d:Cd,d.L=L∧e=.returned (.pointer (some ⟨d.B,0,none⟩))∧m'=CdM d)∨(zey L none_≠0∧e=.panicked (upP (zey L none_))∧m'=[])) w:=by
 subst hn
 exact zsv L none_ A c w hb hl
theorem zvA:∀ i,i<19→0≤ordL.getD i 0∧ordL.getD i 0<19:=by decide
theorem zrC (i:Nat) (h:i<19):nth (ordL.map (Value.int .i64)) (0+i)=some (.int .i64 (ordL.getD i 0)):=by
 rw [Nat.zero_add,zcr]
 exact zbm (by rw [show ordL.length=19 from rfl];exact h)
attribute [local irreducible] Br Rn RnU Cl RdG CpG Ld Rd Lp Dr Oth Cut fin Fits Eng.Enters Md NA
theorem znv:Eng.Enters Tryz.prog 170:=zab fun _ _=>by kernel_rfl
set_option maxHeartbeats 1000000 in
theorem zu5 (s:Stm) (at_:Nat) (A:Option Addr) (c:Nat) (o:List Int) (w:World) (hs:s.Ok at_ o) (hm:MemOk w (Foot (StM s at_ A c o)) (StM s at_ A c o) w) :
  Ctr Tryz.prog 170 [.pointer (some ⟨s.B,0,none⟩)] (StM s at_ A c o) (StR s at_ (zhB s.q.bs s.most at_ o)) w:=by
 obtain ⟨hl,ha,hmo,ho⟩:=hs
 refine enter (cx:=CXS 91 [] w (Foot (StM s at_ A c o))) [(0,.pointer (some ⟨s.B,0,none⟩))] zaa Tryz.func170 rfl rfl rfl rfl hm ?_
 generalize hR:zhB s.q.bs s.most at_ o=R
 unfold zhB at hR
 have hp1:=zep s.q.bs at_ (n:=5) (k:=5) (by omega)
 have hp2:=zep s.q.bs (at_+5) (n:=5) (k:=5) (by omega)
 have hp3:=zep s.q.bs (at_+5+5) (n:=4) (k:=4) (by omega)
 refine gGw ?_
 refine⟨za2,zac (m1:=RM s.q (at_)) (by repeat constructor) (fun w' hm'=>zbP s.q (at_) (5) w' hl (by omega) (by omega) hm'.part) ?_⟩
 rintro e m' ⟨rfl,rfl⟩
 by_cases h1:at_+5≤8*s.q.bs.length
 rotate_left
 ·rw [zbS h1] at hR
  simp only at hR
  rw [(zau h1).1,(zau h1).2.1,(zau h1).2.2]
  refine gGw ?_
  refine⟨zas,zac (m1:=[]) .nil (fun w' hm'=>zaE _ 120 w') ?_⟩
  rintro e m' ⟨rfl,rfl⟩
  rw [if_neg (by decide)]
  conv=>whnf
  exact zaq (fun w' hm=>⟨_,.inl ⟨120,hR.symm,by decide,rfl,rfl⟩,hm.sublist (List.nil_sublist _)⟩)
 rw [zbv h1] at hR
 simp only at hR
 rw [(zat h1).1,(zat h1).2.1,(zat h1).2.2]
 refine gGw ?_
 refine⟨zas,zac (m1:=[]) .nil (fun w' hm'=>zaE _ 0 w') ?_⟩
 rintro e m' ⟨rfl,rfl⟩
 rw [if_pos rfl]
 refine gGw ?_
 refine⟨za2,zac (m1:=RM s.q (at_+5)) (by repeat constructor) (fun w' hm'=>zbP s.q (at_+5) (5) w' hl (by omega) (by omega) hm'.part) ?_⟩
 rintro e m' ⟨rfl,rfl⟩
 by_cases h2:at_+5+5≤8*s.q.bs.length
 rotate_left
 ·rw [zbS h2] at hR
  simp only at hR
  rw [(zau h2).1,(zau h2).2.1,(zau h2).2.2]
  refine gGw ?_
  refine⟨zas,zac (m1:=[]) .nil (fun w' hm'=>zaE _ 120 w') ?_⟩
  rintro e m' ⟨rfl,rfl⟩
  rw [if_neg (by decide)]
  conv=>whnf
  exact zaq (fun w' hm=>⟨_,.inl ⟨120,hR.symm,by decide,rfl,rfl⟩,hm.sublist (List.nil_sublist _)⟩)
 rw [zbv h2] at hR
 simp only at hR
 rw [(zat h2).1,(zat h2).2.1,(zat h2).2.2]
 refine gGw ?_
 refine⟨zas,zac (m1:=[]) .nil (fun w' hm'=>zaE _ 0 w') ?_⟩
 rintro e m' ⟨rfl,rfl⟩
 rw [if_pos rfl]
 refine gGw ?_
 refine⟨za2,zac (m1:=RM s.q (at_+5+5)) (by repeat constructor) (fun w' hm'=>zbP s.q (at_+5+5) (4) w' hl (by omega) (by omega) hm'.part) ?_⟩
 rintro e m' ⟨rfl,rfl⟩
 by_cases h3:at_+5+5+4≤8*s.q.bs.length
 rotate_left
 ·rw [zbS h3] at hR
  simp only at hR
  rw [(zau h3).1,(zau h3).2.1,(zau h3).2.2]
  refine gGw ?_
  refine⟨zas,zac (m1:=[]) .nil (fun w' hm'=>zaE _ 120 w') ?_⟩
  rintro e m' ⟨rfl,rfl⟩
  rw [if_neg (by decide)]
  conv=>whnf
  exact zaq (fun w' hm=>⟨_,.inl ⟨120,hR.symm,by decide,rfl,rfl⟩,hm.sublist (List.nil_sublist _)⟩)
 rw [zbv h3] at hR
 simp only at hR
 rw [(zat h3).1,(zat h3).2.1,(zat h3).2.2]
 refine gGw ?_
 refine⟨zas,zac (m1:=[]) .nil (fun w' hm'=>zaE _ 0 w') ?_⟩
 rintro e m' ⟨rfl,rfl⟩
 rw [if_pos rfl]
 refine gGw ?_
 generalize zbU s.q.bs at_ 5=a at hR hp1 ⊢
 generalize zbU s.q.bs (at_+5) 5=b at hR hp2 ⊢
 generalize zbU s.q.bs (at_+5+5) 4=cn at hR hp3 ⊢
 by_cases hbig:286<a+257∨30<b+1
 ·have hor:(decide ((286:Int)<(a:Int)+257)||decide ((30:Int)<(b:Int)+1))=true:=by
   rcases hbig with h|h
   ·rw [decide_eq_true (show (286:Int)<(a:Int)+257 by omega)];rfl
   ·rw [decide_eq_true (show (30:Int)<(b:Int)+1 by omega),Bool.or_true]
  rw [if_pos hbig] at hR
  refine br_t hor ?_
  refine gGw ?_
  exact zaq (fun w' hm=>⟨_,.inl ⟨151,hR.symm,by decide,rfl,rfl⟩,hm.sublist (List.nil_sublist _)⟩)
 rw [if_neg hbig] at hR
 refine br_f (by rw [decide_eq_false (by omega),decide_eq_false (by omega)];rfl) ?_
 refine gGw ?_;(repeat ((first|refine .mk fun Ap capp=>?_|intro _);(conv=>whnf);refine gG0 ?_))
 refine⟨zlX,zac (m1:=[]) .nil (fun w' hm'=>zrB w') ?_⟩
 rintro e m' ⟨rfl,rfl⟩
 refine gGw ?_;(repeat ((first|refine .mk fun Ap capp=>?_|intro _);(conv=>whnf);refine gG0 ?_))
 rename_i b5 b6
 have e4:(cn:Int)+4=((cn+4:Nat):Int):=by omega
 rw [e4]
 refine And.intro ⟨by omega,by omega,by omega,Pl.mk _ _⟩ ?_
 refine gGw ?_
 refine lp zaa (γ:=Nat × Nat × List Int) (fun g=>g.1≤cn+4∧at_+14≤g.2.1∧g.2.1≤8*s.q.bs.length∧g.2.2.length=19∧dynK s.q.bs s.most (a+257) (b+1) o (zrO s.q.bs (cn+4-g.1) g.1 g.2.1 g.2.2)=R)
  (fun g=>[(52,.int .i64 (g.1:Int)),(51,.int .i64 ((cn+4:Nat):Int)),(50,.slice (some ⟨b6,0,none⟩) (cn+4) 19),(0,.pointer (some ⟨s.B,0,none⟩)),(2,.int .i64 ((a:Int)+257)),(3,.int .i64 ((b:Int)+1)),(5,.pointer (some ⟨b5,0,none⟩))])
  (fun g=>.blk b5 (.cells (g.2.2.map (Value.int .i64)).toArray 302)::.blk b6 (.cells (ordL.map (Value.int .i64)).toArray 302)::StM s g.2.1 A c o) (fun g=>cn+4-g.1) (0,at_+5+5+4,List.replicate 19 0) ⟨by simp only;omega,by simp only;omega,h3,rfl,hR⟩ ⟨rfl,rfl,rfl,rfl,rfl,rfl,rfl,trivial⟩ SubM.sl ?_
 clear hR
 rintro ⟨i,a0,l⟩ ⟨hi,hat,ha0,hll,hR⟩
 simp only at hi hat ha0 hll hR
 dsimp only
 conv=>whnf
 refine br_d (fun hlt=>?_) (fun hge=>?_)
 ·have hob:=zvA i (by omega)
  have hon:=zrC i (by omega)
  rw [show cn+4-i=(cn+4-(i+1))+1 by omega,zrO] at hR
  have hp:=zep s.q.bs a0 (n:=3) (k:=3) (by omega)
  refine gGw ?_
  refine And.intro ⟨by omega,by omega,Pl.mk _ _⟩ ?_
  conv=>whnf
  refine zaj (ld1 (off:=0+i) zaa (by repeat constructor) rfl rfl hon) ?_
  refine gGw ?_
  generalize ordL.getD i 0=oi at hob hR ⊢
  refine⟨za2,zac (m1:=RM s.q (a0)) (by repeat constructor) (fun w' hm'=>zbP s.q (a0) (3) w' hl (by omega) (by omega) hm'.part) ?_⟩
  rintro e m' ⟨rfl,rfl⟩
  by_cases h4:a0+3≤8*s.q.bs.length
  rotate_left
  ·rw [zbS h4] at hR
   simp only at hR
   rw [(zau h4).1,(zau h4).2.1,(zau h4).2.2]
   refine gGw ?_
   refine⟨zas,zac (m1:=[]) .nil (fun w' hm'=>zaE _ 120 w') ?_⟩
   rintro e m' ⟨rfl,rfl⟩
   rw [if_neg (by decide)]
   conv=>whnf
   exact zaq (fun w' hm=>⟨_,.inl ⟨120,hR.symm,by decide,rfl,rfl⟩,hm.sublist (List.nil_sublist _)⟩)
  rw [zbv h4] at hR
  simp only at hR
  rw [(zat h4).1,(zat h4).2.1,(zat h4).2.2]
  refine gGw ?_
  refine⟨zas,zac (m1:=[]) .nil (fun w' hm'=>zaE _ 0 w') ?_⟩
  rintro e m' ⟨rfl,rfl⟩
  rw [if_pos rfl]
  refine gGw ?_
  generalize zbU s.q.bs a0 3=m at hR hp ⊢
  refine And.intro ⟨by omega,by omega,Pl.mk _ _⟩ ?_
  conv=>whnf
  refine zaT (b:=b5) (off:=0+oi.toNat) (cs':=(l.set oi.toNat (m:Int)).map (Value.int .i64)) zaa rfl (by repeat constructor) rfl rfl (Nat.ble_eq_true_of_le (show 0+oi.toNat+1≤_ by rw [List.length_map,hll];omega)) (by rw [Nat.zero_add,List.map_set];rfl) ?_
  refine gGw ?_
  exact⟨(i+1,a0+3,l.set oi.toNat (m:Int)),⟨by simp only;omega,by simp only;omega,h4,by simp only [List.length_set];exact hll,hR⟩,by simp only;omega,⟨rfl,rfl,rfl,rfl,rfl,rfl,rfl,trivial⟩,SubM.sl⟩
 ·obtain rfl:i=cn+4:=by omega
  rw [Nat.sub_self,zrO,dynK] at hR
  refine gGw ?_
  refine And.intro ⟨by omega,by omega,by omega,Pl.mk _ _⟩ ?_
  refine gGw ?_
  refine⟨ze5,zcm (SubM.torow (b:=b5) (n:=19) (by repeat constructor) (by rw [List.length_map];exact hll) rfl) (zac (m1:=[]) .nil (fun w' hm'=>znw hll false (some ⟨b5,0,none⟩) 19 w' (rowI (hm'.ok _ (List.mem_cons_self ..))) (by omega)) ?_)⟩
  rintro e m' (⟨hc,q,hq,rfl,rfl⟩|⟨hc,rfl,rfl⟩)
  rotate_left
  ·rw [if_neg hc] at hR
   conv=>whnf
   exact zaq (fun w' hm=>⟨_,.inl ⟨_,hR.symm,hc,rfl,rfl⟩,hm.sublist (List.nil_sublist _)⟩)
  rw [if_pos hc] at hR
  have hqn:newE q.L=0:=by rw [hq];exact ziQ hc
  subst hq
  have e5:((a:Int)+257)+((b:Int)+1)=((a+257+(b+1):Nat):Int):=by omega
  have e6:(a:Int)+257=((a+257:Nat):Int):=by omega
  refine gGw ?_
  rw [e5]
  refine⟨znt,zac (m1:=CdM q++StM s a0 A c o) (by repeat constructor) (fun w' hm'=>(zu3 s q (a+257+(b+1)) a0 A c o w' ⟨hl,ha0,hmo,ho⟩ hqn (by omega) hm'.part).ex) ?_⟩
  rintro e m' ⟨(⟨n,he,hn,rfl,rfl⟩|⟨a5,r,rA,rc,he,h5,h6,hrl,rfl,rfl⟩),w9,hok⟩
  ·rw [he] at hR
   simp only at hR
   conv=>whnf
   exact zaq (fun w' hm=>⟨_,.inl ⟨n,hR.symm,hn,rfl,rfl⟩,hm.sublist (List.nil_sublist _)⟩)
  rw [he] at hR
  simp only at hR
  have hr9:=hok _ (List.mem_cons_self ..)
  have hpl:Pl rA:=zfw hr9 (by rw [List.length_map];omega)
  have hcap:r.length≤rc:=zeO hr9
  refine gGw ?_
  refine And.intro ⟨by omega,by omega,hpl⟩ ?_
  conv=>whnf
  refine zaj (ldR zaa (by repeat constructor) rfl rfl (zbm (xs:=r) (j:=256) (by omega))) ?_
  refine gGw ?_
  by_cases h0:r.getD 256 0=0
  ·rw [if_pos h0] at hR
   refine br_t (decide_eq_true h0) ?_
   refine gGw ?_
   exact zaq (fun w' hm=>⟨_,.inl ⟨151,hR.symm,by decide,rfl,rfl⟩,hm.sublist (List.nil_sublist _)⟩)
  rw [if_neg h0] at hR
  refine br_f (decide_eq_false h0) ?_
  refine gGw ?_
  rw [e6]
  generalize a+257=ka at hR hrl e6 ⊢
  have hk1:(r.take ka).length=ka:=by rw [List.length_take];omega
  have hk2:(r.drop ka).length=r.length-ka:=List.length_drop
  refine And.intro ⟨by omega,by omega,by omega,.inr hpl⟩ ?_
  refine gGw ?_
  refine⟨ze5,zac (m1:=[]) .nil (fun w' hm'=>znw hk1 false (cutA rA rc 0 1) rc w' (IntsIn.sub (rowI (hm'.ok (IR rA rc r.length r) (by simp))) rc 0 ka (by omega) hcap) (by omega)) ?_⟩
  rintro e m' (⟨hc1,k,hk,rfl,rfl⟩|⟨hc1,rfl,rfl⟩)
  rotate_left
  ·rw [if_neg hc1] at hR
   conv=>whnf
   exact zaq (fun w' hm=>⟨_,.inl ⟨_,hR.symm,hc1,rfl,rfl⟩,hm.sublist (List.nil_sublist _)⟩)
  rw [if_pos hc1] at hR
  refine gGw ?_
  refine And.intro ⟨by omega,by omega,by omega,.inr hpl⟩ ?_
  refine gGw ?_
  refine⟨ze5,zac (m1:=[]) .nil (fun w' hm'=>znw hk2 true (cutA rA rc ka 1) (rc-ka) w' (by
   have h:=IntsIn.sub (k:=.i64) (rowI (hm'.ok (IR rA rc r.length r) (by simp))) rc ka (r.length-ka) (by omega) hcap
   rwa [List.take_of_length_le (by rw [hk2];exact Nat.le_refl _)] at h) (by omega)) ?_⟩
  rintro e m' (⟨hc2,d,hd,rfl,rfl⟩|⟨hc2,rfl,rfl⟩)
  rotate_left
  ·rw [if_neg hc2] at hR
   conv=>whnf
   exact zaq (fun w' hm=>⟨_,.inl ⟨_,hR.symm,hc2,rfl,rfl⟩,hm.sublist (List.nil_sublist _)⟩)
  rw [if_pos hc2] at hR
  refine gGw ?_
  refine⟨zfG,zac (m1:=CdM k++CdM d++StM s a5 A c o) (by repeat constructor) (fun w' hm'=>ziN s k d a5 A c o w' ⟨hl,h6,hmo,ho⟩ (by rw [hk];exact ziQ hc1) (by rw [hd];exact ziQ hc2) hm'.part) ?_⟩
  rw [hk,hd,hR]
  rintro e m' (⟨n,he2,hn,rfl,rfl⟩|⟨a6,o2,gA,gc,he2,h7,h8,h9,rfl,rfl⟩)
  ·conv=>whnf
   exact zaq (fun w' hm=>⟨_,.inl ⟨n,he2,hn,rfl,rfl⟩,hm.sublist (List.nil_sublist _)⟩)
  ·refine gGw ?_
   exact fin0 rfl (fun w' hm=>⟨_,.inr ⟨a6,o2,gA,gc,he2,by omega,h8,h9,rfl,rfl⟩,hm.sl⟩) (.inr rfl)
end Go.Proofs.YtlmgelmloddfgaaGreat
namespace Go.Proofs.YtlmgelmloddfgaaGreat.Eng
open Go Go.RowKit
theorem zjI {cx:Cx} (e0:Env) (ht:TabOk cx.P cx.tab) {f:FuncId} {fn:Func} {c:Code} (hf:cx.P.funcs[f]?=some fn) {id d d2:Nat} {ty ty2:Nat} {pos pos2:String} {after2:Array Edge} {tys:Array TypeId} (hb:fn.body=some (.seq (.region id #[⟨some d,.call ⟨.builtin .recover,#[],tys⟩,ty,pos,#[],none⟩,⟨some d2,.assign (.tmp d),ty2,pos2,after2,none⟩] false) c)) (hn:fn.ntmps=cx.n) (he0:zfP 0 e0=true) (hl:Nat.ble e0.length cx.n=true) (hd:Nat.blt d cx.n=true) (hd2:Nat.blt d2 cx.n=true) {m:Mem} {w:World} (hm:MemOk cx.w0 cx.S m w)
  {R:Ending→World→Prop} {u:FrameMode} (h:XC cx c (fin cx fn R) ((d2,(recV u).1)::(d,(recV u).1)::e0) m) (hD:cx.df=[]:=by rfl):CallsD cx.P f (e0.map (·.2)).toArray u w fun e u' w'=>u'=(recV u).2∧R e w':=by
 have he0':=zd1 he0
 generalize hargs:e0.map (·.2)=args at he0'
 subst he0'
 refine callsD_of_wpS hf hb fun c₀ cs hu=>?_
 have he:EnvOk cx.n cx.df (zhi 0 args) { tmps:=args.toArray++Array.replicate (fn.ntmps-args.toArray.size) undef,defers:=[] }:=by
  refine⟨hD.symm,?_,?_⟩
  ·have hle:=Nat.le_of_ble_eq_true hl
   have hlen:args.length≤cx.n:=by rw [← hargs];simpa using hle
   simp;omega
  ·intro t v hv
   obtain ⟨_,h2⟩:=zec _ _ _ _ hv
   simp at h2
   have h3:(args.toArray++Array.replicate (fn.ntmps-args.toArray.size) undef)[t]?=some v:=by
    rw [Array.getElem?_append_left (by simpa using (List.getElem?_eq_some_iff.1 h2).1)]
    simpa using h2
   rw [Array.getD_eq_getD_getElem?,h3]
   rfl
 have hd':(some d).all (fun i=>decide (i<cx.n))=true:=by
  have:d<cx.n:=Nat.le_of_ble_eq_true hd
  simp [this]
 have hd2':(some d2).all (fun i=>decide (i<cx.n))=true:=by
  have:d2<cx.n:=Nat.le_of_ble_eq_true hd2
  simp [this]
 have rest:∀ a,EnvOk cx.n cx.df ((d2,(recV u).1)::(d,(recV u).1)::zhi 0 args) a→c.wpS cx.P (bodyPostS cx.P fn c₀ cs fun e u' w'=>u'=(recV u).2∧R e w') a ({ c₀ with mode:=(recV u).2 }::cs) w:=by
  intro a ha
  refine wpS_of_wp (wp_mono (zg2 ht c _ _ m _ w ha hm h) ?_)
  rintro ex a' w' ⟨e',m',he',hm',hk⟩
  cases ex with
  | normal=>obtain ⟨vs,h1,h2⟩:=hk;exact⟨he'.1.trans hD,_,rfl,_,zcA he' hm' h1,rfl,h2 w' hm'⟩
  | ret=>obtain ⟨vs,h1,h2⟩:=hk;exact⟨he'.1.trans hD,_,rfl,_,zcA he' hm' h1,rfl,h2 w' hm'⟩
  | panic ch=>exact⟨he'.1.trans hD,_,rfl,rfl,hk w' hm'⟩
  | exit id=>exact hk.elim
  | goto l=>exact hk.elim
  | outgrown=>exact hk.elim
 have last:∀ a,EnvOk cx.n cx.df ((d,(recV u).1)::zhi 0 args) a→wpOpsS cx.P #[⟨some d,.call ⟨.builtin .recover,#[],tys⟩,ty,pos,#[],none⟩,⟨some d2,.assign (.tmp d),ty2,pos2,after2,none⟩] (Exit.thenS (c.wpS cx.P (bodyPostS cx.P fn c₀ cs fun e u' w'=>u'=(recV u).2∧R e w')) (bodyPostS cx.P fn c₀ cs fun e u' w'=>u'=(recV u).2∧R e w')) [1] a ({ c₀ with mode:=(recV u).2 }::cs) w:=by
  intro a ha
  have hev:a.eval (.tmp d)=(recV u).1:=ha.ev (x:=.tmp d) (by simp [Env.ev,Env.get])
  have hrun2:(execOp a.eval ⟨some d2,.assign (.tmp d),ty2,pos2,after2,none⟩).run cx.P w=.ok (.value (a.eval (.tmp d))) w:=rfl
  simp only [wpOpsS,List.getElem?_toArray,List.getElem?_cons_succ,List.getElem?_cons_zero,Region.wanted,if_true,hrun2,Oper.upon]
  rw [hev]
  exact rest _ (ha.put hd2' _)
 refine wpS_seq (wpS_region ?_)
 have hr:=zm3 c₀ cs
 rw [hu] at hr
 generalize ha:({ tmps:=args.toArray++Array.replicate (fn.ntmps-args.toArray.size) undef,defers:=[] }:Act)=a at he
 show wpOpsS _ _ _ [0,1] _ _ _
 have hrun:(execOp a.eval ⟨some d,.call ⟨.builtin .recover,#[],tys⟩,ty,pos,#[],none⟩).run cx.P w=.ok .recover w:=rfl
 simp only [wpOpsS,List.getElem?_toArray,List.getElem?_cons_zero,Region.wanted,if_true,hrun]
 cases hrec:recoverD (c₀::cs) with
 | none =>
  rw [hrec] at hr
  simp only [Prod.mk.injEq] at hr
  simp only [Exit.thenS]
  rw [hr.2,hr.1]
  exact last _ (he.put hd' _)
 | some p =>
  obtain ⟨v,cs'⟩:=p
  rw [hrec] at hr
  simp only [Prod.mk.injEq] at hr
  simp only [Exit.thenS]
  rw [hr.2,hr.1]
  exact last _ (he.put hd' _)
end Go.Proofs.YtlmgelmloddfgaaGreat.Eng
namespace Go.Proofs.YtlmgelmloddfgaaGreat
open Go Go.RowKit Eng
theorem zw5 (ox:Nat) (w:World):(zdS .neq 20 (.tmp ox) (.const .nilIface) .nilIface .nilIface).run Tryz.prog w=.ok (.bool false) w:=by kernel_rfl
theorem zw6 (ox:Operand) (n:Int) (w:World):(zdS .neq 20 ox (.const .nilIface) (.iface 28 (.int .i64 n)) .nilIface).run Tryz.prog w=.ok (.bool true) w:=by kernel_rfl
theorem zxj (n:Int) (w:World):(Instr.typeAssert (.iface 28 (.int .i64 n)) 20 28 false).run Tryz.prog w=.ok (.int .i64 n) w:=by kernel_rfl
theorem zk0 {cx:Cx} {fn:Func} {R:Ending→World→Prop} {e:Env} {m:Mem} {t s:Tmp} {ty ty2:TypeId} (hr:fn.results=#[.cell t ty,.cell s ty2]) {u u' v v':Value} (hu:e.get t=some u) (hv:Ld cx m ty u v) (hu':e.get s=some u') (hv':Ld cx m ty2 u' v') (h:∀ w,MemOk cx.w0 cx.S m w→R (.returned (.tuple #[v,v'])) w):DEnd cx fn R e m .returning :=
 ⟨[v,v'],by rw [hr];exact⟨u,v,[v'],hu,hv,rfl,u',v',[],hu',hv',rfl,rfl⟩,h⟩
theorem zxF (b k:Nat):pl (some ⟨b,0,none⟩) (mulC (Int.toNat (k:Int)) ty262.cells)=some ⟨b,0+k,none⟩:=by
 rw [zcD,Int.toNat_natCast,show ty262.cells=1 from rfl,Nat.mul_one];rfl
theorem ld_fn {cx:Cx} (ht:TabOk cx.P cx.tab) (hi:cx.tab.get 262=some ty262) {m:Mem} {b k t':Nat} {cs:List Value} {v:Value} (hh:Has m (.blk b (.cells cs.toArray t'))) (hv:nth cs k=some v):Ld cx m 262 (.pointer (pl (some ⟨b,0,none⟩) (mulC (Int.toNat (k:Int)) ty262.cells))) v:=by
 rw [zxF]
 exact ld1 ht hh hi rfl (by rw [Nat.zero_add];exact hv)
attribute [local irreducible] Br Rn RnU Cl RdG CpG Ld Rd Lp Dr Oth Cut fin Fits Eng.Enters Md NA
attribute [local irreducible] finD WD
abbrev ErM (E:Nat) (n:Int):Mem:=[.blk E (.cells #[.int .i64 n] 28)]
theorem zdH:Eng.Enters Tryz.prog 167:=zab fun _ _=>by kernel_rfl
theorem znx:Eng.Enters Tryz.prog 135:=zab fun _ _=>by kernel_rfl
theorem zsw (E:Nat) (n:Int) (w:World) (hm:MemOk w (Foot (ErM E n)) (ErM E n) w):CtrD Tryz.prog 167 [.pointer (some ⟨E,0,none⟩)] .returning (ErM E n) (fun e u' m'=>e=.returned (.tuple #[])∧u'=.returning∧m'=ErM E n) w:=by
 refine (zjI (cx:=CXS 7 [] w (Foot (ErM E n))) (R:=fun e w'=>∃ m',(e=.returned (.tuple #[])∧m'=ErM E n)∧MemOk w (Foot (ErM E n)) m' w') [(0,.pointer (some ⟨E,0,none⟩))] zaa Tryz.func167 rfl rfl rfl rfl rfl rfl hm ?_).mono (fun e u' w' hh=>?_)
 ·refine gGw ?_
  refine Rd.n (zco fun w=>zw5 _ w) ?_
  refine gGw ?_
  refine br_f rfl ?_
  refine gGw ?_
  refine fin0 rfl (fun w' hm=>?_) (.inr rfl)
  exact⟨_,⟨rfl,rfl⟩,hm.sl⟩
 ·obtain ⟨h1,m',⟨h2,h3⟩,h4⟩:=hh
  exact⟨m',⟨h2,h1,h3⟩,h4⟩
theorem ziO (E:Nat) (n0 n:Int) (w:World) (hm:MemOk w (Foot (ErM E n0)) (ErM E n0) w):CtrD Tryz.prog 167 [.pointer (some ⟨E,0,none⟩)] (.panicking (upP n)) (ErM E n0) (fun e u' m'=>e=.returned (.tuple #[])∧settle u'=.returning∧m'=ErM E n) w:=by
 refine (zjI (cx:=CXS 7 [] w (Foot (ErM E n0))) (R:=fun e w'=>∃ m',(e=.returned (.tuple #[])∧m'=ErM E n)∧MemOk w (Foot (ErM E n0)) m' w') [(0,.pointer (some ⟨E,0,none⟩))] zaa Tryz.func167 rfl rfl rfl rfl rfl rfl hm ?_).mono (fun e u' w' hh=>?_)
 ·refine gGw ?_
  refine Rd.n (zco fun w=>zw6 _ n w) ?_
  refine gGw ?_
  refine br_t rfl ?_
  refine gGw ?_
  refine Rd.n (zco fun w=>zxj n w) ?_
  refine gGw ?_
  refine fin0 rfl (fun w' hm=>?_) (.inr rfl)
  exact⟨_,⟨rfl,rfl⟩,hm.sl⟩
 ·obtain ⟨h1,m',⟨h2,h3⟩,h4⟩:=hh
  exact⟨m',⟨h2,by rw [h1];rfl,h3⟩,h4⟩
theorem zxa (s:Stm) (at_:Nat) (A:Option Addr) (c:Nat) (o:List Int) (w:World) (hm:MemOk w (Foot (StM s at_ A c o)) (StM s at_ A c o) w):Ctr Tryz.prog 171 [.pointer (some ⟨s.B,0,none⟩)] (StM s at_ A c o) (StR s at_ (.error 150)) w:=by
 refine enter (cx:=CXS 3 [] w (Foot (StM s at_ A c o))) [(0,.pointer (some ⟨s.B,0,none⟩))] zaa Tryz.func171 rfl rfl rfl rfl hm ?_
 refine gGw ?_
 exact zaq (fun w' hm=>⟨_,.inl ⟨150,rfl,by decide,rfl,rfl⟩,hm.sublist (List.nil_sublist _)⟩)
theorem zmp (k:Nat) (h:k<4):Eng.Enters Tryz.prog (168+k):=by
 rcases show k=0∨k=1∨k=2∨k=3 by omega with rfl|rfl|rfl|rfl
 ·exact zi9
 ·exact zkZ
 ·exact znv
 ·exact zkW
theorem zss (s:Stm) (k at_:Nat) (A:Option Addr) (c:Nat) (o:List Int) (w:World) (h:k<4) (hs:s.Ok at_ o) (hm:MemOk w (Foot (StM s at_ A c o)) (StM s at_ A c o) w):Ctr Tryz.prog (168+k) [.pointer (some ⟨s.B,0,none⟩)] (StM s at_ A c o) (StR s at_ (zuM s.q.bs s.most k at_ o)) w:=by
 rcases show k=0∨k=1∨k=2∨k=3 by omega with rfl|rfl|rfl|rfl
 ·exact zns s at_ A c o w hs hm
 ·exact zqf s at_ A c o w hs hm
 ·exact zu5 s at_ A c o w hs hm
 ·exact zxa s at_ A c o w hm
def fnC:List Value:=[.func (.func 168) #[] #[],.func (.func 169) #[] #[],.func (.func 170) #[] #[],.func (.func 171) #[] #[]]
theorem zx1 (k:Nat) (h:k<4):nth fnC k=some (.func (.func (168+k)) #[] #[]):=by
 rcases show k=0∨k=1∨k=2∨k=3 by omega with rfl|rfl|rfl|rfl<;>rfl
def BlkR (s:Stm) (at_:Nat) (R:Except Int (Bool × Nat × List Int)) (e:Ending) (m':Mem):Prop :=
 (∃ n,R=.error n∧n≠0∧∃ (a b c d:Int) (l:Bool),e=.returned (.tuple #[.agg #[.int .i64 a,.bool l,.int .i64 b,.int .i64 c,.int .i64 d],.int .i64 n])∧m'=[]) ∨
 ∃ l a o A c,R=.ok (l,a,o)∧at_<a∧a≤8*s.q.bs.length∧(o.length:Int)≤s.most∧(∃ (a b c d:Int),e=.returned (.tuple #[.agg #[.int .i64 a,.bool l,.int .i64 b,.int .i64 c,.int .i64 d],.int .i64 0]))∧m'=StM s a A c o
set_option maxHeartbeats 1000000 in
theorem zu6 (s:Stm) (at_:Nat) (A:Option Addr) (c:Nat) (o:List Int) (w:World) (hs:s.Ok at_ o) (hm:MemOk w (Foot (StM s at_ A c o)) (StM s at_ A c o) w) :
  Ctr Tryz.prog 135 [.pointer (some ⟨s.B,0,none⟩)] (StM s at_ A c o) (BlkR s at_ (zoV s.q.bs s.most at_ o)) w:=by
 have hs0:=hs
 obtain ⟨hl,ha,hmo,ho⟩:=hs
 generalize hR:zoV s.q.bs s.most at_ o=R
 have hR1:¬ at_+1≤8*s.q.bs.length→R=.error 120:=fun h=>hR.symm.trans (zqp h)
 have hR2:at_+1≤8*s.q.bs.length→¬ at_+1+2≤8*s.q.bs.length→R=.error 120:=fun h h2=>hR.symm.trans (zqo h h2)
 have hR3:∀ n,at_+1≤8*s.q.bs.length→at_+1+2≤8*s.q.bs.length→zuM s.q.bs s.most (zbU s.q.bs (at_+1) 2) (at_+1+2) o=.error n→R=.error n:=fun n h h2 h3=>hR.symm.trans (zsD h h2 h3)
 have hR4:∀ a3 o2,at_+1≤8*s.q.bs.length→at_+1+2≤8*s.q.bs.length→zuM s.q.bs s.most (zbU s.q.bs (at_+1) 2) (at_+1+2) o=.ok (a3,o2)→R=.ok (decide (zbU s.q.bs at_ 1=1),a3,o2):=fun a3 o2 h h2 h3=>hR.symm.trans (zsC h h2 h3)
 clear hR
 refine zw8 (cx:=CXS 61 [] w (Foot (StM s at_ A c o))) [(0,.pointer (some ⟨s.B,0,none⟩))] zaa Tryz.func135 rfl rfl rfl rfl hm ?_
 refine zxs (cx:=CXS 61 [] w (Foot (StM s at_ A c o))) zaa ?_
 conv=>whnf
 intro bB
 conv=>whnf
 intro eB
 conv=>whnf
 refine zsW (cx:=CXS 61 [] w (Foot (StM s at_ A c o))) zaa 1 rfl rfl ?_
 refine gGw ?_
 refine⟨_,_,_,_,rfl,rfl,?_⟩
 refine wd_of (cx:=⟨Tryz.prog,61,w,Foot (StM s at_ A c o),tab,[],[],[],[{ target:=.fn (.func 167) #[.pointer (some ⟨eB,0,none⟩)],args:=#[] }]⟩) zaa ?_
 refine gGw ?_;(repeat ((first|refine .mk fun Ap capp=>?_|intro _);(conv=>whnf);refine gG0 ?_))
 rename_i tB
 refine⟨ziU,zcm (m1:=.blk tB (.cells fnC.toArray 263)::.blk eB (.cells [.int .i64 0].toArray 28)::.blk bB (.cells [.int .i64 0,.bool false,.int .i64 0,.int .i64 0,.int .i64 0].toArray 226)::StM s at_ A c o) (SubM.refl _ _) (zac (m1:=RM s.q at_) (by repeat constructor) (fun w' hm'=>zsJ s.q at_ w' hm'.part) ?_)⟩
 rintro e m' ⟨rfl,rfl⟩
 refine gGw ?_
 refine⟨za2,zac (m1:=RM s.q (at_)) (by repeat constructor) (fun w' hm'=>zbP s.q (at_) (1) w' hl (by omega) (by omega) hm'.part) ?_⟩
 rintro e m' ⟨rfl,rfl⟩
 by_cases h1:at_+1≤8*s.q.bs.length
 rotate_left
 ·rw [(zau h1).1,(zau h1).2.1,(zau h1).2.2]
  refine gGw ?_
  refine⟨zas,zac (m1:=[]) .nil (fun w' hm'=>zaE _ 120 w') ?_⟩
  rintro e m' ⟨rfl,rfl⟩
  rw [if_neg (by decide)]
  conv=>whnf
  refine zsj (zfk (m1:=ErM eB 0) rfl (by simp) zdH rfl (by repeat constructor) (fun w' hm'=>ziO eB 0 (120) w' hm'.part) ?_)
  rintro en u' m1 ⟨rfl,hu,rfl⟩
  show DEnd _ _ _ _ _ (settle u')
  rw [hu]
  exact zk0 rfl rfl (ldN zaa (by repeat constructor) rfl rfl rfl rfl) rfl (ld1 zaa (by repeat constructor) rfl rfl rfl) (fun w' hm'=>⟨[],.inl ⟨120,(hR1 h1),by decide,_,_,_,_,_,rfl,rfl⟩,hm'.sublist (List.nil_sublist _)⟩)
 rw [(zat h1).1,(zat h1).2.1,(zat h1).2.2]
 refine gGw ?_
 refine⟨zas,zac (m1:=[]) .nil (fun w' hm'=>zaE _ 0 w') ?_⟩
 rintro e m' ⟨rfl,rfl⟩
 rw [if_pos rfl]
 refine gGw ?_
 refine⟨za2,zac (m1:=RM s.q (at_+1)) (by repeat constructor) (fun w' hm'=>zbP s.q (at_+1) (2) w' hl (by omega) (by omega) hm'.part) ?_⟩
 rintro e m' ⟨rfl,rfl⟩
 by_cases h2:at_+1+2≤8*s.q.bs.length
 rotate_left
 ·rw [(zau h2).1,(zau h2).2.1,(zau h2).2.2]
  refine gGw ?_
  refine⟨zas,zac (m1:=[]) .nil (fun w' hm'=>zaE _ 120 w') ?_⟩
  rintro e m' ⟨rfl,rfl⟩
  rw [if_neg (by decide)]
  conv=>whnf
  refine zsj (zfk (m1:=ErM eB 0) rfl (by simp) zdH rfl (by repeat constructor) (fun w' hm'=>ziO eB 0 (120) w' hm'.part) ?_)
  rintro en u' m1 ⟨rfl,hu,rfl⟩
  show DEnd _ _ _ _ _ (settle u')
  rw [hu]
  exact zk0 rfl rfl (ldN zaa (by repeat constructor) rfl rfl rfl rfl) rfl (ld1 zaa (by repeat constructor) rfl rfl rfl) (fun w' hm'=>⟨[],.inl ⟨120,(hR2 h1 h2),by decide,_,_,_,_,_,rfl,rfl⟩,hm'.sublist (List.nil_sublist _)⟩)
 rw [(zat h2).1,(zat h2).2.1,(zat h2).2.2]
 refine gGw ?_
 refine⟨zas,zac (m1:=[]) .nil (fun w' hm'=>zaE _ 0 w') ?_⟩
 rintro e m' ⟨rfl,rfl⟩
 rw [if_pos rfl]
 refine gGw ?_
 have hk4:zbU s.q.bs (at_+1) 2<4:=zhw s.q.bs (at_+1) 2
 generalize zbU s.q.bs (at_+1) 2=kd at hR3 hR4 hk4 ⊢
 generalize zbU s.q.bs at_ 1=la at hR4 ⊢
 refine And.intro ⟨by omega,by omega,Pl.mk _ _⟩ ?_
 conv=>whnf
 refine zaj (ld_fn (cs:=fnC) (v:=.func (.func (168+kd)) #[] #[]) zaa rfl (by repeat constructor) (zx1 kd hk4)) ?_
 refine gGw ?_
 refine⟨zmp kd hk4,zac (m1:=StM s (at_+1+2) A c o) (by repeat constructor) (fun w' hm'=>zss s kd (at_+1+2) A c o w' hk4 ⟨hl,h2,hmo,ho⟩ hm'.part) ?_⟩
 rintro e m' (⟨n,he,hn,rfl,rfl⟩|⟨a3,o2,gA,gc,he,h5,h6,h7,rfl,rfl⟩)
 ·have hRe:=hR3 n h1 h2 he
  conv=>whnf
  refine zsj (zfk (m1:=ErM eB 0) rfl (by simp) zdH rfl (by repeat constructor) (fun w' hm'=>ziO eB 0 (n) w' hm'.part) ?_)
  rintro en u' m1 ⟨rfl,hu,rfl⟩
  show DEnd _ _ _ _ _ (settle u')
  rw [hu]
  exact zk0 rfl rfl (ldN zaa (by repeat constructor) rfl rfl rfl rfl) rfl (ld1 zaa (by repeat constructor) rfl rfl rfl) (fun w' hm'=>⟨[],.inl ⟨n,hRe,hn,_,_,_,_,_,rfl,rfl⟩,hm'.sublist (List.nil_sublist _)⟩)
 have hRe:=hR4 a3 o2 h1 h2 he
 clear hR1 hR2 hR3 hR4
 rw [show decide (la=1)=decide ((la:Int)=1) from decide_eq_decide.2 (by omega)] at hRe
 refine gGw ?_
 refine ziM (γ:=Int) 19 (Tr.hs [0,1,2,3,4,5,7,8,9,10,11,12,13,14] (.sq [6,15,16,17,18,19] .done)) [.blk s.B (.cells (stC s gA gc o2).toArray 231)] zaa mixed (by kernel_rfl) rfl
  (fun _=>True) (fun _=>[(2,.pointer (some ⟨bB,0,none⟩)),(3,.pointer (some ⟨eB,0,none⟩))])
  (fun k=>.blk bB (.cells [.int .i64 k,.bool (decide ((la:Int)=1)),.int .i64 (at_:Int),.int .i64 (a3:Int),.int .i64 ((o2.length:Int)-o.length)].toArray 226)::.blk eB (.cells [.int .i64 0].toArray 28)::StM s a3 gA gc o2) SubM.sl ?_ ?_
 ·refine gGw ?_
  refine⟨ziU,zac (m1:=RM s.q a3) (by repeat constructor) (fun w' hm'=>zsJ s.q a3 w' hm'.part) ?_⟩
  rintro e m' ⟨rfl,rfl⟩
  refine gGt ?_
  exact⟨(kd:Int),trivial,⟨rfl,rfl,trivial⟩,SubM.sl⟩
 ·rintro k -
  refine gGw ?_
  refine zx2 (.inl rfl) (zfk (m1:=ErM eB 0) rfl (by simp) zdH rfl (by repeat constructor) (fun w' hm'=>zsw eB 0 w' hm'.part) ?_)
  rintro en u' m1 ⟨rfl,rfl,rfl⟩
  exact zk0 rfl rfl (ldN zaa (by repeat constructor) rfl rfl rfl rfl) rfl (ld1 zaa (by repeat constructor) rfl rfl rfl) (fun w' hm'=>⟨StM s a3 gA gc o2,.inr ⟨_,a3,o2,gA,gc,hRe,by omega,h6,h7,⟨k,at_,a3,(o2.length:Int)-o.length,rfl⟩,rfl⟩,hm'.sel (by repeat constructor)⟩)
end Go.Proofs.YtlmgelmloddfgaaGreat
namespace Go.Proofs.YtlmgelmloddfgaaGreat
open Go Go.RowKit Eng
attribute [local irreducible] Br Rn RnU Cl RdG CpG Ld Rd Lp Dr Oth Cut fin Fits Eng.Enters Md NA
theorem zmo:Eng.Enters Tryz.prog 134:=zab fun _ _=>by kernel_rfl
theorem zsr (A:Option Addr) (c:Nat) (bs:List UInt8) (most:Int) (w:World) (hb:BytsIn w A bs) (hn:bs.length≤20000000) (hmo:0≤most∧most≤1048576) :
  Ctr Tryz.prog 134 [.slice A bs.length c,.int .i64 most] [] (fun e m'=>∃ s:Stm,s.q.bs=bs∧s.most=most∧e=.returned (.tuple #[.pointer (some ⟨s.B,0,none⟩),.int .i64 0])∧m'=StM s 0 none 0 []) w:=by
 have hF:∀ w',Fr (Foot []) w w'→BytsIn w' A bs:=fun w' hf=>Byts.in_ (BytsIn.byts (cx:=CX 0 [] w) (m:=[]) hb (fun _ h=>h)) ((MemOk.nil w _).same (hf.mono (fun k _ ⟨r,hr,_⟩=>by cases hr)))
 refine enter (cx:=CXS 17 [] w (Foot [])) [(0,.slice A bs.length c),(1,.int .i64 most)] zaa Tryz.func134 rfl rfl rfl rfl (MemOk.nil w _) ?_
 refine gGw ?_
 refine br_f (by rw [decide_eq_false (by omega),decide_eq_false (by omega)];rfl) ?_
 refine gGw ?_
 refine⟨zhn,zac (m1:=[]) .nil (fun w' hm'=>zkB A c bs w' (hF w' hm'.fr) hn) ?_⟩
 rintro e m' ⟨q,hq,rfl,rfl⟩
 refine gGw ?_;(repeat ((first|refine .mk fun Ap capp=>?_|intro _);(conv=>whnf);refine gG0 ?_))
 rename_i sB
 exact fin2 rfl rfl rfl (fun w' hm=>⟨_,⟨⟨sB,q,most⟩,hq,rfl,rfl,rfl⟩,(SubM.row0 (cx:=CXS 17 [] w (Foot [])) (SubM.refl _ _) 5 1 w' hm).sel (by repeat constructor)⟩)
set_option maxHeartbeats 1000000 in
theorem zje:zlc zdK:=by
 intro A c bs most w hb hn hmo
 have hF:∀ w',Fr (Foot []) w w'→BytsIn w' A bs:=fun w' hf=>Byts.in_ (BytsIn.byts (cx:=CX 0 [] w) (m:=[]) hb (fun _ h=>h)) ((MemOk.nil w _).same (hf.mono (fun k _ ⟨r,hr,_⟩=>by cases hr)))
 refine enter (cx:=CXS 43 [] w (Foot [])) [(0,.slice A bs.length c),(1,.int .i64 most)] zaa Tryz.func95 rfl rfl rfl rfl (MemOk.nil w _) ?_
 have hU:∀ R,zgA bs most (zfr bs) 0 []=R→zdK bs most=match R with
  | .error _=>true
  | .ok (_,o)=>!decide ((o.length:Int)=most):=fun R h=>by rw [← h];rfl
 generalize hR:zgA bs most (zfr bs) 0 []=R at hU
 replace hU:=hU R rfl
 refine gGw ?_
 refine⟨zmo,zac (m1:=[]) .nil (fun w' hm'=>zsr A c bs most w' (hF w' hm'.fr) hn hmo) ?_⟩
 rintro e m' ⟨s,hsb,hsm,rfl,rfl⟩
 subst hsb hsm
 refine gGw ?_
 refine br_n (br_t rfl ?_)
 refine gGw ?_
 refine lp zaa (γ:=Nat × Nat × Option Addr × Nat × List Int) (fun g=>8*s.q.bs.length<g.1+g.2.1∧s.Ok g.2.1 g.2.2.2.2∧zgA s.q.bs s.most g.1 g.2.1 g.2.2.2.2=R)
  (fun g=>[(7,.pointer (some ⟨s.B,0,none⟩))]) (fun g=>StM s g.2.1 g.2.2.1 g.2.2.2.1 g.2.2.2.2) (fun g=>g.1) (zfr s.q.bs,0,none,0,[]) ⟨by simp only [zfr];omega,⟨hn,Nat.zero_le _,hmo,hmo.1⟩,hR⟩ ⟨rfl,trivial⟩ SubM.sl ?_
 clear hR
 rintro ⟨f,a0,gA,gc,o⟩ ⟨hf,hok,hR⟩
 simp only at hf hok hR
 have ha0:=hok.at_
 obtain ⟨f,rfl⟩:∃ f',f=f'+1:=⟨f-1,by omega⟩
 rw [zgA] at hR
 dsimp only
 refine gGw ?_
 refine⟨znx,zac (m1:=StM s a0 gA gc o) (by repeat constructor) (fun w' hm'=>zu6 s a0 gA gc o w' hok hm'.part) ?_⟩
 generalize zoV s.q.bs s.most a0 o=B at hR
 rintro e m' (⟨n,he,hne,b1,b2,b3,b4,bl,rfl,rfl⟩|⟨l,a1,o1,hA,hc,he,h1,h2,h3,⟨b1,b2,b3,b4,rfl⟩,rfl⟩)
 ·subst he
  simp only at hR
  refine gGw ?_;(repeat ((first|refine .mk fun Ap capp=>?_|intro _);(conv=>whnf);refine gG0 ?_))
  refine br_n (br_f (decide_eq_false hne) ?_)
  refine gGw ?_
  exact fin3 rfl rfl rfl rfl (fun w' hm=>⟨_,⟨⟨_,_,_,_,_,rfl,by rw [hU,← hR,decide_eq_false hne];rfl⟩,rfl⟩,hm.sublist (List.nil_sublist _)⟩)
 ·subst he
  simp only at hR
  refine gGw ?_;(repeat ((first|refine .mk fun Ap capp=>?_|intro _);(conv=>whnf);refine gG0 ?_))
  refine br_n (br_t rfl ?_)
  refine gGw ?_
  cases l with
  | true =>
   rw [if_pos rfl] at hR
   refine br_t rfl ?_
   conv=>whnf
   refine zbc (γ:=Int) (Tr.hs [0,1,2,3,4,5,6,7] (.sq [8] (.hs [9,10,11,12,13] .done))) [.blk s.B (.cells (stC s hA hc o1).toArray 231)] zaa mixed (by kernel_rfl) rfl (fun _=>True)
    (fun k=>[(4,.slice hA o1.length hc),(5,.int .i64 k),(6,.int .i64 0)]) (fun _=>[]) SubM.sl ?_ ?_
   ·refine gGw ?_
    refine⟨ziU,zac (m1:=RM s.q a1) (by repeat constructor) (fun w' hm'=>zsJ s.q a1 w' hm'.part) ?_⟩
    rintro e m' ⟨rfl,rfl⟩
    refine gGt ?_
    exact⟨_,trivial,⟨rfl,rfl,rfl,trivial⟩,SubM.sel .nil⟩
   ·rintro k -
    refine gGw ?_
    exact fin3 rfl rfl rfl rfl (fun w' hm=>⟨_,⟨⟨_,_,_,_,_,rfl,by rw [hU,← hR];rfl⟩,rfl⟩,hm⟩)
  | false =>
   rw [if_neg (by decide)] at hR
   refine br_f rfl ?_
   refine gGw ?_
   exact⟨(f,a1,hA,hc,o1),⟨by simp only;omega,⟨hn,h2,hmo,h3⟩,hR⟩,by simp only;omega,⟨rfl,trivial⟩,SubM.sl⟩
end Go.Proofs.YtlmgelmloddfgaaGreat
