/- Part of a proof: contracts of the functions that the law reaches. No statement of the seat is proved here. -/
import Derived.Test.YtlmgelmloddfgaaGreatCdM9
import Derived.Laws.IdiomStrings
set_option linter.unusedVariables false
set_option linter.unusedSimpArgs false
set_option linter.unusedSectionVars false
set_option maxRecDepth 100000
namespace Go.Proofs.YtlmgelmloddfgaaGreat
open Go Go.RowKit Eng
attribute [local irreducible] Br Rn RnU Cl RdG CpG Ld Rd Lp Dr Oth Cut fin Fits Eng.Enters Md NA
theorem zi9:Eng.Enters Tryz.prog 168:=zab fun _ _=>by kernel_rfl
theorem zns (s:Stm) (at_:Nat) (A:Option Addr) (c:Nat) (o:List Int) (w:World) (hs:s.Ok at_ o) (hm:MemOk w (Foot (StM s at_ A c o)) (StM s at_ A c o) w) :
  Ctr Tryz.prog 168 [.pointer (some ⟨s.B,0,none⟩)] (StM s at_ A c o) (StR s at_ (zj6 s.q.bs s.most at_ o)) w:=by
 obtain ⟨hl,ha,hmo,ho⟩:=hs
 refine enter (cx:=CXS 62 [] w (Foot (StM s at_ A c o))) [(0,.pointer (some ⟨s.B,0,none⟩))] zaa Tryz.func168 rfl rfl rfl rfl hm ?_
 have ha1:zb8 at_≤8*s.q.bs.length∧at_≤zb8 at_∧zb8 at_%8=0:=by unfold zb8;omega
 generalize hR:zj6 s.q.bs s.most at_ o=R
 unfold zj6 at hR
 refine gGw ?_
 refine⟨zmw,zac (m1:=RM s.q at_) (by repeat constructor) (fun w' hm'=>zsN s.q at_ w' hl ha hm'.part) ?_⟩
 rintro e m' ⟨rfl,rfl⟩
 generalize zb8 at_=a0 at hR ha1
 refine gGw ?_
 refine⟨za2,zac (m1:=RM s.q (a0)) (by repeat constructor) (fun w' hm'=>zbP s.q (a0) (16) w' hl (by omega) (by omega) hm'.part) ?_⟩
 rintro e m' ⟨rfl,rfl⟩
 by_cases h1:a0+16≤8*s.q.bs.length
 rotate_left
 ·rw [zbS h1] at hR
  simp only at hR
  rw [(zau h1).1,(zau h1).2.1,(zau h1).2.2]
  refine gGw ?_
  refine⟨zas,zac (m1:=[]) .nil (fun w' hm'=>zaE _ 120 w') ?_⟩
  rintro e m' ⟨rfl,rfl⟩
  rw [if_neg (by decide)]
  conv=>whnf
  exact zaq (fun w' hm=>⟨_,.inl ⟨120,hR.symm,by decide,rfl,rfl⟩,hm.sublist (List.nil_sublist _)⟩)
 rw [zbv h1] at hR
 simp only at hR
 rw [(zat h1).1,(zat h1).2.1,(zat h1).2.2]
 refine gGw ?_
 refine⟨zas,zac (m1:=[]) .nil (fun w' hm'=>zaE _ 0 w') ?_⟩
 rintro e m' ⟨rfl,rfl⟩
 rw [if_pos rfl]
 refine gGw ?_
 refine⟨za2,zac (m1:=RM s.q (a0+16)) (by repeat constructor) (fun w' hm'=>zbP s.q (a0+16) (16) w' hl (by omega) (by omega) hm'.part) ?_⟩
 rintro e m' ⟨rfl,rfl⟩
 by_cases h2:a0+16+16≤8*s.q.bs.length
 rotate_left
 ·rw [zbS h2] at hR
  simp only at hR
  rw [(zau h2).1,(zau h2).2.1,(zau h2).2.2]
  refine gGw ?_
  refine⟨zas,zac (m1:=[]) .nil (fun w' hm'=>zaE _ 120 w') ?_⟩
  rintro e m' ⟨rfl,rfl⟩
  rw [if_neg (by decide)]
  conv=>whnf
  exact zaq (fun w' hm=>⟨_,.inl ⟨120,hR.symm,by decide,rfl,rfl⟩,hm.sublist (List.nil_sublist _)⟩)
 rw [zbv h2] at hR
 simp only at hR
 rw [(zat h2).1,(zat h2).2.1,(zat h2).2.2]
 refine gGw ?_
 refine⟨zas,zac (m1:=[]) .nil (fun w' hm'=>zaE _ 0 w') ?_⟩
 rintro e m' ⟨rfl,rfl⟩
 rw [if_pos rfl]
 refine gGw ?_
 have hn1:=zhw s.q.bs a0 16
 generalize zbU s.q.bs (a0+16) 16=m1 at hR ⊢
 generalize zbU s.q.bs a0 16=n1 at hR hn1 ⊢
 have hraw:rawB s.q (a0+16+16) n1↔n1≤(8*s.q.bs.length-(a0+16+16))/8:=by unfold rawB;omega
 by_cases hx:Go.bits .xor .u64 (n1:Int) (m1:Int)=65535
 rotate_left
 ·rw [if_neg hx] at hR
  refine br_n (br_f (decide_eq_false hx) ?_)
  refine gGw ?_
  exact zaq (fun w' hm=>⟨_,.inl ⟨150,hR.symm,by decide,rfl,rfl⟩,hm.sublist (List.nil_sublist _)⟩)
 rw [if_pos hx] at hR
 refine br_n (br_t (decide_eq_true hx) ?_)
 conv=>whnf
 refine zar zaa mixed (by kernel_rfl) rfl ?_
 refine gGw ?_
 refine br_d (fun hgt=>?_) (fun hle=>?_)
 ·rw [if_pos (by omega)] at hR
  refine gGw ?_
  exact zaq (fun w' hm=>⟨_,.inl ⟨141,hR.symm,by decide,rfl,rfl⟩,hm.sublist (List.nil_sublist _)⟩)
 rw [if_neg (by omega)] at hR
 conv=>whnf
 refine ziM (γ:=Option Addr × Nat) 18 (Tr.hs [0,1,2,3,4,5,6,7,8,9,10] (.sq [11] (.hs [12,13] (.sq [14,15,16,17,18] .done)))) [.blk s.B (.cells (stC s A c o).toArray 231)] zaa mixed (by kernel_rfl) rfl
  (fun _=>n1≤(8*s.q.bs.length-(a0+16+16))/8) (fun _=>[]) (fun g=>StM s (a0+16+16+8*n1) g.1 g.2 (o++zah ((s.q.bs.drop ((a0+16+16)/8)).take n1))) SubM.sl ?_ ?_
 ·refine gGw ?_
  refine⟨zpH,zac (m1:=RM s.q (a0+16+16)) (by repeat constructor) (fun w' hm'=>zwE s.q (a0+16+16) n1 w' hl (by omega) (by omega) hm'.part) ?_⟩
  rintro e m' hr
  unfold RawR at hr
  by_cases hrb:n1≤(8*s.q.bs.length-(a0+16+16))/8
  ·rw [if_pos (hraw.2 hrb)] at hr
   obtain ⟨rA,rc,rfl,rfl⟩:=hr
   have hyl:(zah ((s.q.bs.drop ((a0+16+16)/8)).take n1)).length=n1:=by rw [zag,List.length_take,List.length_drop];omega
   generalize zah ((s.q.bs.drop ((a0+16+16)/8)).take n1)=ys at hyl ⊢
   generalize a0+16+16+8*n1=a3
   subst hyl
   refine gGt ?_
   refine⟨zhd,zac (m1:=[]) .nil (fun w' hm'=>zl2 _ 0 w') ?_⟩
   rintro e m' ⟨rfl,rfl⟩
   rw [if_pos rfl]
   conv=>whnf
   refine gGs ?_
   conv=>whnf
   refine⟨?_,trivial⟩
   conv=>whnf
   refine zgL (k:=.u8) (ys:=ys) zaa rfl rfl rfl rfl rfl rfl (by repeat constructor) (fun w' hm'=>rowI (hm'.ok (.row rA rc ys.length 5 1 (ys.map (.int .u8))) (by simp))) (by omega) (fun A1 c1=>?_)
   refine gGt ?_
   refine⟨(A1,c1),hrb,trivial,?_⟩
   rw [zmJ]
   exact SubM.sl
  ·rw [if_neg (fun h=>hrb (hraw.1 h))] at hr
   obtain ⟨rfl,rfl⟩:=hr
   rw [if_neg hrb] at hR
   refine gGt ?_
   refine⟨zhd,zac (m1:=[]) .nil (fun w' hm'=>zl2 _ 120 w') ?_⟩
   rintro e m' ⟨rfl,rfl⟩
   rw [if_neg (by decide)]
   conv=>whnf
   exact zaq (fun w' hm=>⟨_,.inl ⟨120,hR.symm,by decide,rfl,rfl⟩,hm.sublist (List.nil_sublist _)⟩)
 ·rintro ⟨gA,gc⟩ hrb
  rw [if_pos hrb] at hR
  refine gGw ?_
  refine fin0 rfl (fun w' hm=>⟨_,.inr ⟨_,_,gA,gc,hR.symm,by omega,by omega,?_,rfl,rfl⟩,hm⟩) (.inr rfl)
  rw [List.length_append,zag,List.length_take,List.length_drop]
  omega
end Go.Proofs.YtlmgelmloddfgaaGreat
namespace Go.Proofs.YtlmgelmloddfgaaGreat
open Go Go.RowKit Eng
theorem zfA {x:Int} (h:0≤x):∃ n:Nat,x=(n:Int):=⟨x.toNat,(Int.toNat_of_nonneg h).symm⟩
theorem zep (bs:List UInt8) (a:Nat) {n k:Nat} (h:n≤k):zbU bs a n<2 ^ k:=Nat.lt_of_lt_of_le (zhw bs a n) (Nat.pow_le_pow_right (by omega) h)
attribute [local irreducible] Br Rn RnU Cl RdG CpG Ld Rd Lp Dr Oth Cut fin Fits Eng.Enters Md NA
theorem zkY:Eng.Enters Tryz.prog 217:=zab fun _ _=>by kernel_rfl
set_option maxHeartbeats 1000000 in
theorem zqe (s:Stm) (d:Cd) (x:Int) (at_:Nat) (A:Option Addr) (c:Nat) (o:List Int) (w:World) (hs:s.Ok at_ o) (hd:newE d.L=0) (hx:257≤x∧x≤285) (hm:MemOk w (Foot (CdM d++StM s at_ A c o)) (CdM d++StM s at_ A c o) w) :
  Ctr Tryz.prog 217 [.pointer (some ⟨s.B,0,none⟩),.int .i64 x,.pointer (some ⟨d.B,0,none⟩)] (CdM d++StM s at_ A c o) (StP (CdM d) s at_ (zou s.q.bs d.L s.most x at_ o)) w:=by
 obtain ⟨hl,ha,hmo,ho⟩:=hs
 refine enter (cx:=CXS 118 [] w (Foot (CdM d++StM s at_ A c o))) [(0,.pointer (some ⟨s.B,0,none⟩)),(1,.int .i64 x),(2,.pointer (some ⟨d.B,0,none⟩))] zaa Tryz.func217 rfl rfl rfl rfl hm ?_
 generalize hR:zou s.q.bs d.L s.most x at_ o=R
 unfold zou at hR
 refine gGw ?_
 refine⟨zlY,zac (m1:=[]) .nil (fun w' hm'=>zrG x w' hx) ?_⟩
 rintro e m' ⟨rfl,rfl⟩
 have hk:=zxS (x-257).toNat (by omega)
 have hk2:=zxR (x-257).toNat (by omega)
 generalize lFir.getD (x-257).toNat 0=fi at hk hR ⊢
 obtain ⟨wd,hwd⟩:=zfA hk2.1
 rw [hwd] at hR hk2
 rw [hwd]
 rw [Int.toNat_natCast] at hR
 have hb1:=zep s.q.bs at_ (n:=wd) (k:=5) (by omega)
 refine gGw ?_
 refine⟨za2,zac (m1:=RM s.q (at_)) (by repeat constructor) (fun w' hm'=>zbP s.q (at_) (wd) w' hl (by omega) (by omega) hm'.part) ?_⟩
 rintro e m' ⟨rfl,rfl⟩
 by_cases h1:at_+wd≤8*s.q.bs.length
 rotate_left
 ·rw [zbS h1] at hR
  simp only at hR
  rw [(zau h1).1,(zau h1).2.1,(zau h1).2.2]
  refine gGw ?_
  refine⟨zas,zac (m1:=[]) .nil (fun w' hm'=>zaE _ 120 w') ?_⟩
  rintro e m' ⟨rfl,rfl⟩
  rw [if_neg (by decide)]
  conv=>whnf
  exact zaq (fun w' hm=>⟨_,.inl ⟨120,hR.symm,by decide,rfl,rfl⟩,hm.sublist (List.nil_sublist _)⟩)
 rw [zbv h1] at hR
 simp only at hR
 rw [(zat h1).1,(zat h1).2.1,(zat h1).2.2]
 refine gGw ?_
 refine⟨zas,zac (m1:=[]) .nil (fun w' hm'=>zaE _ 0 w') ?_⟩
 rintro e m' ⟨rfl,rfl⟩
 rw [if_pos rfl]
 refine gGw ?_
 generalize zbU s.q.bs at_ wd=more at hR hb1 ⊢
 by_cases hsp:x=284∧more=31
 ·rw [if_pos hsp] at hR
  refine br_t (by rw [decide_eq_true hsp.1,decide_eq_true (show (more:Int)=31 by omega)];rfl) ?_
  refine gGw ?_
  exact zaq (fun w' hm=>⟨_,.inl ⟨152,hR.symm,by decide,rfl,rfl⟩,hm.sublist (List.nil_sublist _)⟩)
 rw [if_neg hsp] at hR
 refine br_f (by rw [← Bool.decide_and];exact decide_eq_false (fun h=>hsp ⟨h.1,by omega⟩)) ?_
 refine gGw ?_
 refine⟨zeZ,zac (m1:=CdM d++RM s.q (at_+wd)) (by repeat constructor) (fun w' hm'=>ziy d s.q (at_+wd) w' hl (by omega) hd hm'.part) ?_⟩
 rintro e m' ⟨rfl,rfl⟩
 rw [zq0]
 rcases h2:symE d.L s.q.bs (at_+wd) with n|⟨y,a2⟩
 ·rw [h2] at hR
  simp only at hR
  have hn:=zmF h2
  have he:=zmG h2
  rw [he]
  refine gGw ?_
  refine⟨zck,zac (m1:=[]) .nil (fun w' hm'=>zd5 _ n w') ?_⟩
  rintro e m' ⟨rfl,rfl⟩
  rw [if_neg hn]
  conv=>whnf
  exact zaq (fun w' hm=>⟨_,.inl ⟨n,hR.symm,hn,rfl,rfl⟩,hm.sublist (List.nil_sublist _)⟩)
 rw [h2] at hR
 simp only at hR
 have h2b:=zmE (by omega) h2
 obtain ⟨h21,h22,h23⟩:=zmH h2
 rw [h21,h22,h23]
 refine gGw ?_
 refine⟨zck,zac (m1:=[]) .nil (fun w' hm'=>zd5 _ 0 w') ?_⟩
 rintro e m' ⟨rfl,rfl⟩
 rw [if_pos rfl]
 refine gGw ?_
 by_cases hy:29<y
 ·rw [if_pos hy] at hR
  refine br_t (decide_eq_true hy) ?_
  refine gGw ?_
  exact zaq (fun w' hm=>⟨_,.inl ⟨152,hR.symm,by decide,rfl,rfl⟩,hm.sublist (List.nil_sublist _)⟩)
 rw [if_neg hy] at hR
 refine br_f (decide_eq_false hy) ?_
 refine gGw ?_
 refine⟨zkz,zac (m1:=[]) .nil (fun w' hm'=>zpJ y w' (by omega)) ?_⟩
 rintro e m' ⟨rfl,rfl⟩
 have hj:=zyb y.toNat (by omega)
 have hj2:=zya y.toNat (by omega)
 generalize dFir.getD y.toNat 0=di at hj hR ⊢
 obtain ⟨we,hwe⟩:=zfA hj2.1
 rw [hwe] at hR hj2
 rw [hwe]
 rw [Int.toNat_natCast] at hR
 have hb2:=zep s.q.bs a2 (n:=we) (k:=13) (by omega)
 refine gGw ?_
 refine⟨za2,zac (m1:=RM s.q (a2)) (by repeat constructor) (fun w' hm'=>zbP s.q (a2) (we) w' hl (by omega) (by omega) hm'.part) ?_⟩
 rintro e m' ⟨rfl,rfl⟩
 by_cases h3:a2+we≤8*s.q.bs.length
 rotate_left
 ·rw [zbS h3] at hR
  simp only at hR
  rw [(zau h3).1,(zau h3).2.1,(zau h3).2.2]
  refine gGw ?_
  refine⟨zas,zac (m1:=[]) .nil (fun w' hm'=>zaE _ 120 w') ?_⟩
  rintro e m' ⟨rfl,rfl⟩
  rw [if_neg (by decide)]
  conv=>whnf
  exact zaq (fun w' hm=>⟨_,.inl ⟨120,hR.symm,by decide,rfl,rfl⟩,hm.sublist (List.nil_sublist _)⟩)
 rw [zbv h3] at hR
 simp only at hR
 rw [(zat h3).1,(zat h3).2.1,(zat h3).2.2]
 refine gGw ?_
 refine⟨zas,zac (m1:=[]) .nil (fun w' hm'=>zaE _ 0 w') ?_⟩
 rintro e m' ⟨rfl,rfl⟩
 rw [if_pos rfl]
 refine gGw ?_
 generalize zbU s.q.bs a2 we=m2 at hR hb2 ⊢
 refine br_d (fun hfar=>?_) (fun hfar=>?_)
 ·rw [if_pos (by omega)] at hR
  refine gGw ?_
  exact zaq (fun w' hm=>⟨_,.inl ⟨140,hR.symm,by decide,rfl,rfl⟩,hm.sublist (List.nil_sublist _)⟩)
 rw [if_neg (by omega)] at hR
 conv=>whnf
 refine zar zaa mixed (by kernel_rfl) rfl ?_
 refine gGw ?_
 refine br_d (fun hlg=>?_) (fun hlg=>?_)
 ·rw [if_pos (by omega)] at hR
  refine gGw ?_
  exact zaq (fun w' hm=>⟨_,.inl ⟨141,hR.symm,by decide,rfl,rfl⟩,hm.sublist (List.nil_sublist _)⟩)
 rw [if_neg (by omega)] at hR
 refine gGw ?_
 obtain ⟨fa,hfa⟩:=zfA (x:=di+(m2:Int)) (by omega)
 obtain ⟨n,hn⟩:=zfA (x:=fi+(more:Int)) (by omega)
 rw [hfa,hn] at hR
 rw [hfa,hn]
 rw [Int.toNat_natCast,Int.toNat_natCast] at hR
 have hfl:1≤fa∧fa≤o.length:=by omega
 have hnl:(o.length:Int)+n≤s.most:=by omega
 have hat:at_≤a2+we:=by omega
 clear hsp hfar hlg hfa hn hwd hwe
 generalize a2+we=a3 at h3 hat hR ⊢
 refine lp zaa (γ:=Nat × Option Addr × Nat) (fun g=>g.1≤n) (fun g=>[(93,.int .i64 (g.1:Int)),(92,.int .i64 (n:Int)),(12,.int .i64 (fa:Int)),(0,.pointer (some ⟨s.B,0,none⟩))]) (fun g=>CdM d++StM s a3 g.2.1 g.2.2 (cpy fa o g.1)) (fun g=>n-g.1) (0,A,c) (by simp) ⟨rfl,rfl,rfl,rfl,trivial⟩ SubM.sl ?_
 rintro ⟨i,gA,gc⟩ hi
 simp only at hi
 dsimp only
 conv=>whnf
 refine br_d (fun hlt=>?_) (fun hge=>?_)
 ·have hcl:=zny fa o i
  have eS:cpy fa o (i+1)=cpy fa o i++[(cpy fa o i).getD ((cpy fa o i).length-fa) 0]:=rfl
  have ej:((cpy fa o i).length:Int)-(fa:Int)=(((cpy fa o i).length-fa:Nat):Int):=by omega
  generalize cpy fa o i=p at hcl eS ej ⊢
  have hjs:=zxu (xs:=p) (j:=p.length-fa) (by omega)
  conv=>whnf
  refine dr_w (fun ⟨w9,hw9⟩=>?_)
  have hpl:Pl gA:=zc0 (hw9.ok (.row gA gc p.length 5 1 (p.map (.int .u8))) (by simp)) (by omega)
  refine ziM (γ:=Option Addr × Nat) 22 (Tr.hs [0,1,2,3,4,5,6,7,8,9,10,11,12,13,14,15,16] (.sq [17,18,19,20,21,22] .done)) [.blk s.B (.cells (stC s gA gc p).toArray 231)] zaa mixed (by kernel_rfl) rfl
   (fun _=>True) (fun _=>[(93,.int .i64 (i:Int)),(92,.int .i64 (n:Int)),(12,.int .i64 (fa:Int)),(0,.pointer (some ⟨s.B,0,none⟩))]) (fun g=>CdM d++StM s a3 g.1 g.2 (cpy fa o (i+1))) SubM.sl ?_ ?_
  ·refine gGw ?_
   rw [ej]
   refine And.intro ⟨by omega,by omega,hpl⟩ ?_
   conv=>whnf
   refine⟨?_,trivial⟩
   refine zaj (ldR zaa (by repeat constructor) rfl rfl hjs) ?_
   refine gGt ?_;(repeat ((first|refine .mk fun Ap capp=>?_|intro _);(conv=>whnf);refine gGS ?_))
   refine⟨(Ap,capp),trivial,⟨rfl,rfl,rfl,rfl,trivial⟩,?_⟩
   rw [eS,zmJ]
   exact SubM.sl
  ·rintro ⟨hA,hc⟩ -
   refine gGw ?_
   exact⟨(i+1,hA,hc),by simp only;omega,by simp only;omega,⟨rfl,rfl,rfl,rfl,trivial⟩,SubM.refl _ _⟩
 ·obtain rfl:i=n:=by omega
  have hcl:=zny fa o i
  refine gGw ?_
  exact fin0 rfl (fun w' hm=>⟨_,.inr ⟨_,_,gA,gc,hR.symm,hat,h3,by omega,rfl,rfl⟩,hm⟩) (.inr rfl)
end Go.Proofs.YtlmgelmloddfgaaGreat
namespace Go.Proofs.YtlmgelmloddfgaaGreat
open Go Go.RowKit Eng
attribute [local irreducible] Br Rn RnU Cl RdG CpG Ld Rd Lp Dr Oth Cut fin Fits Eng.Enters Md NA
theorem zfG:Eng.Enters Tryz.prog 198:=zab fun _ _=>by kernel_rfl
set_option maxHeartbeats 1000000 in
theorem ziN (s:Stm) (k d:Cd) (at_:Nat) (A:Option Addr) (c:Nat) (o:List Int) (w:World) (hs:s.Ok at_ o) (hk:newE k.L=0) (hd:newE d.L=0) (hm:MemOk w (Foot (CdM k++CdM d++StM s at_ A c o)) (CdM k++CdM d++StM s at_ A c o) w) :
  Ctr Tryz.prog 198 [.pointer (some ⟨s.B,0,none⟩),.pointer (some ⟨k.B,0,none⟩),.pointer (some ⟨d.B,0,none⟩)] (CdM k++CdM d++StM s at_ A c o) (StP (CdM k++CdM d) s at_ (zeU s.q.bs k.L d.L s.most (zfr s.q.bs) at_ o)) w:=by
 obtain ⟨hl,ha,hmo,ho⟩:=hs
 refine enter (cx:=CXS 53 [] w (Foot (CdM k++CdM d++StM s at_ A c o))) [(0,.pointer (some ⟨s.B,0,none⟩)),(1,.pointer (some ⟨k.B,0,none⟩)),(2,.pointer (some ⟨d.B,0,none⟩))] zaa Tryz.func198 rfl rfl rfl rfl hm ?_
 generalize hR:zeU s.q.bs k.L d.L s.most (zfr s.q.bs) at_ o=R
 conv=>whnf
 refine lp zaa (γ:=Nat × Nat × Option Addr × Nat × List Int) (fun g=>8*s.q.bs.length<g.1+g.2.1∧g.2.1≤8*s.q.bs.length∧at_≤g.2.1∧(g.2.2.2.2.length:Int)≤s.most∧zeU s.q.bs k.L d.L s.most g.1 g.2.1 g.2.2.2.2=R)
  (fun g=>[(0,.pointer (some ⟨s.B,0,none⟩)),(1,.pointer (some ⟨k.B,0,none⟩)),(2,.pointer (some ⟨d.B,0,none⟩))]) (fun g=>CdM k++CdM d++StM s g.2.1 g.2.2.1 g.2.2.2.1 g.2.2.2.2) (fun g=>g.1) (zfr s.q.bs,at_,A,c,o) ⟨by simp only [zfr];omega,ha,Nat.le_refl _,ho,hR⟩ ⟨rfl,rfl,rfl,trivial⟩ (SubM.refl _ _) ?_
 clear hR
 rintro ⟨f,a0,gA,gc,p⟩ ⟨hf,ha0,hat,hp,hR⟩
 simp only at hf ha0 hat hp hR
 obtain ⟨f,rfl⟩:∃ f',f=f'+1:=⟨f-1,by omega⟩
 rw [zeU] at hR
 dsimp only
 refine gGw ?_
 refine⟨zeZ,zac (m1:=CdM k++RM s.q (a0)) (by repeat constructor) (fun w' hm'=>ziy k s.q (a0) w' hl (by omega) hk hm'.part) ?_⟩
 rintro e m' ⟨rfl,rfl⟩
 rw [zq0]
 rcases h1:symE k.L s.q.bs (a0) with n|⟨x,a1⟩
 ·rw [h1] at hR
  simp only at hR
  have hn:=zmF h1
  have he:=zmG h1
  rw [he]
  refine gGw ?_
  refine⟨zck,zac (m1:=[]) .nil (fun w' hm'=>zd5 _ n w') ?_⟩
  rintro e m' ⟨rfl,rfl⟩
  rw [if_neg hn]
  conv=>whnf
  exact zaq (fun w' hm=>⟨_,.inl ⟨n,hR.symm,hn,rfl,rfl⟩,hm.sublist (List.nil_sublist _)⟩)
 rw [h1] at hR
 simp only at hR
 have h1b:=zmE (by omega) h1
 obtain ⟨h11,h12,h13⟩:=zmH h1
 rw [h11,h12,h13]
 refine gGw ?_
 refine⟨zck,zac (m1:=[]) .nil (fun w' hm'=>zd5 _ 0 w') ?_⟩
 rintro e m' ⟨rfl,rfl⟩
 rw [if_pos rfl]
 refine gGw ?_
 by_cases h256:x=256
 ·rw [if_pos h256] at hR
  refine br_t (decide_eq_true h256) ?_
  refine gGw ?_
  exact fin0 rfl (fun w' hm=>⟨_,.inr ⟨_,_,gA,gc,hR.symm,by omega,by omega,hp,rfl,rfl⟩,hm.sl⟩) (.inl rfl)
 rw [if_neg h256] at hR
 refine br_f (decide_eq_false h256) ?_
 refine gGw ?_
 by_cases h285:285<x
 ·rw [if_pos h285] at hR
  refine br_t (decide_eq_true h285) ?_
  refine gGw ?_
  exact zaq (fun w' hm=>⟨_,.inl ⟨152,hR.symm,by decide,rfl,rfl⟩,hm.sublist (List.nil_sublist _)⟩)
 rw [if_neg h285] at hR
 refine br_f (decide_eq_false h285) ?_
 refine gGw ?_
 by_cases hgt:256<x
 ·rw [if_pos hgt] at hR
  refine br_t (decide_eq_true hgt) ?_
  refine gGw ?_
  refine⟨zkY,zac (m1:=CdM d++StM s a1 gA gc p) (by repeat constructor) (fun w' hm'=>zqe s d x a1 gA gc p w' ⟨hl,by omega,hmo,hp⟩ hd (by omega) hm'.part) ?_⟩
  rintro e m' (⟨n,he,hn,rfl,rfl⟩|⟨a2,p2,hA,hc,he,ha2,ha3,hp2,rfl,rfl⟩)
  ·rw [he] at hR
   simp only at hR
   conv=>whnf
   exact zaq (fun w' hm=>⟨_,.inl ⟨n,hR.symm,hn,rfl,rfl⟩,hm.sublist (List.nil_sublist _)⟩)
  ·rw [he] at hR
   simp only at hR
   refine gGw ?_
   exact⟨(f,a2,hA,hc,p2),⟨by simp only;omega,ha3,by simp only;omega,hp2,hR⟩,by simp only;omega,⟨rfl,rfl,rfl,trivial⟩,SubM.sl⟩
 rw [if_neg hgt] at hR
 refine br_f (decide_eq_false hgt) ?_
 conv=>whnf
 refine zar zaa mixed (by kernel_rfl) rfl ?_
 refine gGw ?_
 refine br_d (fun hlg=>?_) (fun hlg=>?_)
 ·rw [if_pos (by omega)] at hR
  refine gGw ?_
  exact zaq (fun w' hm=>⟨_,.inl ⟨141,hR.symm,by decide,rfl,rfl⟩,hm.sublist (List.nil_sublist _)⟩)
 rw [if_neg (by omega)] at hR
 have hw8:IntKind.u8.wrap x=x:=by rw [IntKind.wrap_u8];omega
 refine gGw ?_;(repeat ((first|refine .mk fun Ap capp=>?_|intro _);(conv=>whnf);refine gG0 ?_))
 refine⟨(f,a1,Ap,capp,p++[x]),⟨by simp only;omega,by simp only;omega,by simp only;omega,by simp only [List.length_append,List.length_cons,List.length_nil];omega,hR⟩,by simp only;omega,⟨rfl,rfl,rfl,trivial⟩,?_⟩
 show SubM _ _ (CdM k++CdM d++StM s a1 Ap capp (p++[x]))
 rw [zmJ]
 exact SubM.sl
end Go.Proofs.YtlmgelmloddfgaaGreat
namespace Go.Proofs.YtlmgelmloddfgaaGreat
open Go Go.RowKit Eng
attribute [local irreducible] Br Rn RnU Cl RdG CpG Ld Rd Lp Dr Oth Cut fin Fits Eng.Enters Md NA
theorem zl3:Eng.Enters Tryz.prog 258:=zab fun _ _=>by kernel_rfl
theorem zpN:Eng.Enters Tryz.prog 239:=zab fun _ _=>by kernel_rfl
theorem zeo:Eng.Enters Tryz.prog 222:=zab fun _ _=>by kernel_rfl
theorem zrJ (y:Nat) (w:World) (hy:y<1048576):Ctr Tryz.prog 258 [.int .u64 1,.int .u64 (y:Int)] [] (fun e m'=>e=.returned (.tuple #[.int .u64 0,.int .u64 (y:Int)])∧m'=[]) w:=by
 refine enter (cx:=CXS 51 [] w (Foot [])) [(0,.int .u64 1),(1,.int .u64 (y:Int))] zaa Tryz.func258 rfl rfl rfl rfl (MemOk.nil w _) ?_
 have e1:Go.bits .and .u64 1 4294967295=1:=by decide
 have e2:Go.bits .and .u64 (y:Int) 4294967295=y:=by
  have h:=bits_mask .u64 64 (by decide) wraps_u64 32 (by omega) (y:Int) (by omega) (by omega)
  rw [show (2:Int) ^ 32-1=4294967295 by decide,show (2:Int) ^ 32=4294967296 by decide] at h
  rw [h];omega
 have e3:(y:Int)/2 ^ Int.toNat 32=0:=by rw [show (2:Int) ^ Int.toNat 32=4294967296 by decide];omega
 have e4:(1:Int)/2 ^ Int.toNat 32=0:=by decide
 have e5:Go.bits .and .u64 0 4294967295=0:=by decide
 have e6:(0:Int)/2 ^ Int.toNat 32=0:=by decide
 refine gGw ?_
 rw [e1,e2,e3,e4,Int.one_mul]
 refine And.intro (zak (by omega)) ?_
 refine gGw ?_
 rw [e3,Int.zero_mul,show (0:Int)+0=0 from rfl,e5]
 refine And.intro (zak (by omega)) ?_
 refine gGw ?_
 have e7:(0*0+0/2 ^ Int.toNat 32+(0+1*0)/2 ^ Int.toNat 32:Int)=0:=by decide
 refine fin2 rfl rfl rfl (fun w' hm=>⟨_,⟨?_,rfl⟩,hm⟩)
 rw [e7,Int.one_mul]
theorem mul_one (y:Nat) (w:World) (hy:y<1048576):Ctr Tryz.prog 239 [.int .u64 1,.int .u64 (y:Int)] [] (fun e m'=>e=.returned (.tuple #[.int .u64 0,.int .u64 (y:Int)])∧m'=[]) w:=by
 refine enter (cx:=CXS 30 [] w (Foot [])) [(0,.int .u64 1),(1,.int .u64 (y:Int))] zaa Tryz.func239 rfl rfl rfl rfl (MemOk.nil w _) ?_
 conv=>whnf
 refine br_f rfl ?_
 refine gGw ?_
 refine⟨zl3,zac (m1:=[]) .nil (fun w' hm'=>zrJ y w' hy) ?_⟩
 rintro e m' ⟨rfl,rfl⟩
 refine gGw ?_
 exact fin2 rfl rfl rfl (fun w' hm=>⟨_,⟨rfl,rfl⟩,hm⟩)
def repL (v:Int) (n k:Nat):List Int:=List.replicate k v++List.replicate (n-k) 0
theorem zul {v:Int} {n k:Nat} (h:k≤n):(repL v n k).length=n:=by simp [repL];omega
theorem zum (v:Int) (n:Nat):repL v n n=List.replicate n v:=by simp [repL]
theorem zoc {v:Int} {n k j:Nat} (hj:k+j≤n):(repL v n k).take k++List.replicate j v++(repL v n k).drop (k+j)=repL v n (k+j):=by
 unfold repL
 have h1:(List.replicate k v++List.replicate (n-k) (0:Int)).take k=List.replicate k v:=by
  rw [List.take_append_of_le_length (by simp),List.take_of_length_le (by simp)]
 have h2:(List.replicate k v++List.replicate (n-k) (0:Int)).drop (k+j)=List.replicate (n-(k+j)) 0:=by
  rw [List.drop_append,List.drop_of_length_le (by simp),List.nil_append,List.length_replicate,List.drop_replicate]
  congr 1;omega
 rw [h1,h2,List.replicate_append_replicate]
theorem zxE {w:World} {A:Option Addr} {xs:List Int} {j:Nat} (h:IntsIn .i64 w A xs) (hj:j≤xs.length):IntsIn .i64 w A (xs.take j):=by
 intro h0
 rw [List.length_take] at h0
 obtain ⟨b,o,rfl,hi⟩:=h (by omega)
 refine⟨b,o,rfl,fun i hi2=>?_⟩
 rw [List.length_take] at hi2
 rw [hi i (by omega)]
 congr 2
 rw [List.getD,List.getD,List.getElem?_take,if_pos (by omega)]
theorem zgN (v:Int) (n:Nat) (A:Option Addr) (c:Nat) (w:World) (hb:IntsIn .i64 w A [v]) (hn:1≤n∧n≤1000) :
  Ctr Tryz.prog 222 [.slice A 1 c,.int .i64 (n:Int)] [] (fun e m'=>∃ rA rc,e=.returned (.slice rA n rc)∧m'=[IR rA rc n (List.replicate n v)]) w:=by
 have hF:∀ w',Fr (Foot []) w w'→IntsIn .i64 w' A [v]:=fun w' hf=>Ints.in_ (IntsIn.ints (cx:=CX 0 [] w) (m:=[]) hb (fun _ h=>h)) ((MemOk.nil w _).same (hf.mono (fun k _ ⟨r,hr,_⟩=>by cases hr)))
 refine enter (cx:=CXS 48 [] w (Foot [])) [(0,.slice A 1 c),(1,.int .i64 (n:Int))] zaa Tryz.func222 rfl rfl rfl rfl (MemOk.nil w _) ?_
 refine gGw ?_
 refine br_f (decide_eq_false (by omega)) ?_
 refine gGw ?_
 refine⟨zpN,zac (m1:=[]) .nil (fun w' hm'=>mul_one n w' (by omega)) ?_⟩
 rintro e m' ⟨rfl,rfl⟩
 refine gGw ?_
 refine br_f (by rw [decide_eq_false (by omega),decide_eq_false (by omega)];rfl) ?_
 refine gGw ?_
 refine zc6 zaa rfl rfl rfl rfl rfl (by omega) (by rw [Int.toNat_natCast];show 8*_≤_;omega) (by omega) (fun rB=>?_)
 rw [Int.toNat_natCast]
 refine gGw ?_
 refine zhv (k:=.i64) (ys:=[v]) zaa rfl rfl rfl rfl (by repeat constructor) (by rfl:some (⟨rB,0,none⟩:Addr)=pl (some ⟨rB,0,none⟩) 0) (fun w' hm'=>hF w' hm'.fr) (by show 0+Nat.min 1 n≤n;rw [Nat.zero_add];exact Nat.min_le_right _ _) ?_
 rw [show Nat.min [v].length n=1 from Nat.min_eq_left hn.1]
 refine gGw ?_
 have e0:zbu 0 (([v].take 1).map (Value.int .i64)) (List.replicate n (.int .i64 0))=(repL v n 1).map (Value.int .i64):=by
  have:=zhW [v] (List.replicate n 0) 0 (by simp;omega)
  rw [List.map_replicate] at this
  rw [show [v].take 1=[v] from rfl,this]
  have h2:=zoc (v:=v) (n:=n) (k:=0) (j:=1) (by omega)
  rw [show repL v n 0=List.replicate n 0 by simp [repL],Nat.zero_add] at h2
  rw [← h2];rfl
 refine lp zaa (γ:=Nat) (fun k=>1≤k∧k≤n) (fun k=>[(8,.int .i64 (k:Int)),(7,.slice (some ⟨rB,0,none⟩) n n)]) (fun k=>[IR (some ⟨rB,0,none⟩) n n (repL v n k)]) (fun k=>n-k) 1 (by omega) ⟨rfl,rfl,trivial⟩ (SubM.row e0 rfl (List.Sublist.refl _)) ?_
 rintro k ⟨hk1,hkn⟩
 dsimp only
 have hrl:=zul (v:=v) hkn
 refine gGw ?_
 refine br_d (fun hlt=>?_) (fun hge=>?_)
 ·conv=>whnf
  refine zbc (γ:=Unit) (Tr.hs [0,1,2,3,4,5,6] (.sq [7] (.hs [8,9] .done))) [] zaa mixed (by kernel_rfl) rfl (fun _=>True) (fun _=>[(8,.int .i64 ((k:Int)+(min k (n-k):Nat))),(7,.slice (some ⟨rB,0,none⟩) n n)]) (fun _=>[IR (some ⟨rB,0,none⟩) n n (repL v n (k+min k (n-k)))]) (SubM.sel .nil) ?_ ?_
  ·refine gGw ?_
   refine And.intro ⟨by omega,by omega,by omega,.inr (Pl.mk _ _)⟩ ?_
   refine gGw ?_
   refine And.intro ⟨by omega,by omega,by omega,.inr (Pl.mk _ _)⟩ ?_
   refine gGw ?_
   rw [Int.toNat_natCast,Int.toNat_natCast]
   have hc1:cutA (some ⟨rB,0,none⟩) n k ty3.cells=pl (some ⟨rB,0,none⟩) k:=by
    show cutA (some ⟨rB,0,none⟩) n k 1=_
    unfold cutA
    rw [if_neg (by omega),zcD,Nat.mul_one]
   have hc2:cutA (some ⟨rB,0,none⟩) n (Int.toNat 0) ty3.cells=some ⟨rB,0,none⟩:=by
    show cutA (some ⟨rB,0,none⟩) n 0 1=_
    unfold cutA
    rw [if_neg (by omega)];rfl
   have hpre:(repL v n k).take k=List.replicate k v:=by
    unfold repL;rw [List.take_append_of_le_length (by simp),List.take_of_length_le (by simp)]
   have hset:=zoc (v:=v) (n:=n) (k:=k) (j:=min k (n-k)) (by omega)
   have hml:Nat.min (List.replicate k v).length (n-k)=min k (n-k):=by rw [List.length_replicate]
   have e8:zbu k (((List.replicate k v).take (min k (n-k))).map (Value.int .i64)) ((repL v n k).map (Value.int .i64))=(repL v n (k+min k (n-k))).map (Value.int .i64):=by
    have h3:=zhW ((List.replicate k v).take (min k (n-k))) (repL v n k) k (by rw [List.length_take,List.length_replicate,hrl];omega)
    rw [h3,List.take_replicate,List.length_replicate]
    rw [show min (min k (n-k)) k=min k (n-k) by omega,hset]
   rw [hc1,hc2]
   have hlk:k-Int.toNat 0=(List.replicate k v).length:=by rw [List.length_replicate];rfl
   rw [hlk]
   refine zhv (k:=.i64) (ys:=List.replicate k v) zaa rfl rfl rfl rfl (by repeat constructor) rfl (fun w' hm'=>hpre ▸ zxE (rowI (hm'.ok (IR (some ⟨rB,0,none⟩) n n (repL v n k)) (by simp))) (by omega)) (by rw [hml];omega) ?_
   rw [hml,e8]
   refine gGt ?_
   exact⟨(),trivial,⟨rfl,rfl,trivial⟩,SubM.sl⟩
  ·rintro ⟨⟩ -
   refine gGw ?_
   exact⟨k+min k (n-k),by omega,by omega,⟨congrArg (fun x=>some (Value.int .i64 x)) (Int.natCast_add ..).symm,rfl,trivial⟩,SubM.refl _ _⟩
 ·obtain rfl:k=n:=by omega
  rw [zum]
  refine gGw ?_
  exact fin1 rfl rfl (fun w' hm=>⟨_,⟨_,_,rfl,rfl⟩,hm⟩)
end Go.Proofs.YtlmgelmloddfgaaGreat
namespace Go.Proofs.YtlmgelmloddfgaaGreat.Eng
open Go Go.RowKit
theorem lp_w {cx:Cx} {γ:Type} (ht:TabOk cx.P cx.tab) {c:Code} {k:Exit→Env→Mem→Prop} {e:Env} {m:Mem} (I:γ→Prop) (E:γ→Env) (M:γ→Mem) (μ:γ→Nat) (g0:γ) (h0:I g0) (he0:Env.sub (E g0) e) (hm0:SubM cx m (M g0))
  (round:∀ g,I g→(∃ w,MemOk cx.w0 cx.S (M g) w)→XC cx c (fun ex e m=>match ex with
   | .normal=>∃ g',I g'∧μ g'<μ g∧Env.sub (E g') e∧SubM cx m (M g')
   | ex=>k ex e m) (E g) (M g)):Lp cx c k e m:=by
 intro a w he hm
 refine wp_loop (fun a w=>∃ g,I g∧EnvOk cx.n cx.df (E g) a∧MemOk cx.w0 cx.S (M g) w) (fun a w=>Classical.epsilon fun n=>∃ g,I g∧EnvOk cx.n cx.df (E g) a∧MemOk cx.w0 cx.S (M g) w∧μ g=n∧∀ g',I g'→EnvOk cx.n cx.df (E g') a→MemOk cx.w0 cx.S (M g') w→n≤μ g') ⟨g0,h0,he.sub he0,hm0 w hm⟩ ?_
 have least:∀ a w,(∃ g,I g∧EnvOk cx.n cx.df (E g) a∧MemOk cx.w0 cx.S (M g) w)→∃ n g,I g∧EnvOk cx.n cx.df (E g) a∧MemOk cx.w0 cx.S (M g) w∧μ g=n∧∀ g',I g'→EnvOk cx.n cx.df (E g') a→MemOk cx.w0 cx.S (M g') w→n≤μ g':=by
  intro a w ⟨g,h1,h2,h3⟩
  have:∀ n,∀ g,μ g=n→I g→EnvOk cx.n cx.df (E g) a→MemOk cx.w0 cx.S (M g) w→∃ n g,I g∧EnvOk cx.n cx.df (E g) a∧MemOk cx.w0 cx.S (M g) w∧μ g=n∧∀ g',I g'→EnvOk cx.n cx.df (E g') a→MemOk cx.w0 cx.S (M g') w→n≤μ g':=by
   intro n
   induction n using Nat.strongRecOn with
   | _ n ih =>
    intro g hn h1 h2 h3
    by_cases hall:∀ g',I g'→EnvOk cx.n cx.df (E g') a→MemOk cx.w0 cx.S (M g') w→n≤μ g'
    ·exact⟨n,g,h1,h2,h3,hn,hall⟩
    ·simp only [Classical.not_forall] at hall
     obtain ⟨g',k1,k2,k3,k4⟩:=hall
     exact ih (μ g') (by omega) g' rfl k1 k2 k3
  exact this _ g rfl h1 h2 h3
 intro a w hI
 have hsp:=Classical.epsilon_spec (least a w hI)
 obtain ⟨g,h1,h2,h3,h4,_⟩:=hsp
 refine wp_mono (zg2 ht c _ (E g) (M g) a w h2 h3 (round g h1 ⟨w,h3⟩)) ?_
 rintro ex a' w' ⟨e',m',he',hm',hk⟩
 cases ex with
 | normal =>
  obtain ⟨g',q1,q2,q3,q4⟩:=hk
  have hI':∃ g,I g∧EnvOk cx.n cx.df (E g) a'∧MemOk cx.w0 cx.S (M g) w':=⟨g',q1,he'.sub q3,q4 w' hm'⟩
  refine⟨hI',?_⟩
  have hsp':=Classical.epsilon_spec (least a' w' hI')
  obtain ⟨g2,_,_,_,_,r5⟩:=hsp'
  have:=r5 g' q1 (he'.sub q3) (q4 w' hm')
  show _<_
  omega
 | exit id=>exact⟨e',m',he',hm',hk⟩
 | goto l=>exact⟨e',m',he',hm',hk⟩
 | ret=>exact⟨e',m',he',hm',hk⟩
 | panic ch=>exact⟨e',m',he',hm',hk⟩
 | outgrown=>exact⟨e',m',he',hm',hk⟩
end Go.Proofs.YtlmgelmloddfgaaGreat.Eng
namespace Go.Proofs.YtlmgelmloddfgaaGreat
open Go Go.RowKit Eng
theorem zen {cx:Cx} {nn:Nat} {m m':Mem} {t e ty:Nat} {i ti:TyI} {A:Option Addr} {cap n:Nat} {xs:List Value} {p:Option Addr} {c:Nat} {k:IntKind} {ys:List Int} {K:Value→Mem→Prop} (hl:ys.length=nn) (ht:TabOk cx.P cx.tab)
  (hi:cx.tab.get t=some i) (hk:i.kind=.slice e) (hti:cx.tab.get e=some ti) (hz:ti.zero.length=ti.cells) (hs:ti.cells=1) (hp:(Nat.ble 1 ti.cells&&Nat.ble ti.bytes 4096)=true)
  (hu:Out m (.row A cap n e 1 xs) m') (hy:∀ w,MemOk cx.w0 cx.S m w→IntsIn k w p ys)
  (hb:n+nn≤34359738368) (hK:∀ A' cap',K (.slice A' (n+nn) cap') (.row A' cap' (n+nn) e 1 (xs++ys.map (.int k))::m')) :
  Rn cx m (Builtin.append_ #[t,t] ty #[.slice A n cap,.slice p nn c]) K:=by
 subst hl
 exact zgL ht hi hk hti hz hs hp hu hy hb hK
def RowR (s:Stm) (d:Cd) (at_:Nat) (A:Option Addr) (c:Nat) (o:List Int) (n:Nat) (R:DRes) (e:Ending) (m':Mem):Prop :=
 (∃ n,R=.error n∧n≠0∧e=.panicked (upP n)∧m'=[]) ∨
 ∃ a r rA rc,R=.ok (a,r)∧at_≤a∧a≤8*s.q.bs.length∧r.length=n∧e=.returned (.slice rA r.length rc)∧m'=IR rA rc r.length r::(CdM d++StM s a A c o)
attribute [local irreducible] Br Rn RnU Cl RdG CpG Ld Rd Lp Dr Oth Cut fin Fits Eng.Enters Md NA
theorem znt:Eng.Enters Tryz.prog 202:=zab fun _ _=>by kernel_rfl
set_option maxHeartbeats 1000000 in
theorem zu3 (s:Stm) (d:Cd) (n at_:Nat) (A:Option Addr) (c:Nat) (o:List Int) (w:World) (hs:s.Ok at_ o) (hd:newE d.L=0) (hn:n≤400) (hm:MemOk w (Foot (CdM d++StM s at_ A c o)) (CdM d++StM s at_ A c o) w) :
  Ctr Tryz.prog 202 [.pointer (some ⟨s.B,0,none⟩),.pointer (some ⟨d.B,0,none⟩),.int .i64 (n:Int)] (CdM d++StM s at_ A c o) (RowR s d at_ A c o n (rowF s.q.bs d.L n (zfr s.q.bs) at_ [])) w:=by
 obtain ⟨hl,ha,hmo,ho⟩:=hs
 refine enter (cx:=CXS 89 [] w (Foot (CdM d++StM s at_ A c o))) [(0,.pointer (some ⟨s.B,0,none⟩)),(1,.pointer (some ⟨d.B,0,none⟩)),(2,.int .i64 (n:Int))] zaa Tryz.func202 rfl rfl rfl rfl hm ?_
 generalize hR:rowF s.q.bs d.L n (zfr s.q.bs) at_ []=R
 refine gGw ?_
 refine zdh zaa ?_
 refine gGw ?_
 refine lp_w zaa (γ:=Nat × Nat × Option Addr × Nat × List Int) (fun g=>8*s.q.bs.length<g.1+g.2.1∧g.2.1≤8*s.q.bs.length∧at_≤g.2.1∧g.2.2.2.2.length≤n∧rowF s.q.bs d.L n g.1 g.2.1 g.2.2.2.2=R)
  (fun g=>[(0,.pointer (some ⟨s.B,0,none⟩)),(1,.pointer (some ⟨d.B,0,none⟩)),(2,.int .i64 (n:Int)),(7,.slice g.2.2.1 g.2.2.2.2.length g.2.2.2.1)]) (fun g=>IR g.2.2.1 g.2.2.2.1 g.2.2.2.2.length g.2.2.2.2::(CdM d++StM s g.2.1 A c o)) (fun g=>g.1) (zfr s.q.bs,at_,none,0,[]) ⟨by simp only [zfr];omega,ha,Nat.le_refl _,Nat.zero_le _,hR⟩ ⟨rfl,rfl,rfl,rfl,trivial⟩ (SubM.row0 (SubM.refl _ _) _ _) ?_
 clear hR
 rintro ⟨f,a0,gA,gc,r⟩ ⟨hf,ha0,hat,hrn,hR⟩ ⟨w9,hw9⟩
 simp only at hf ha0 hat hrn hR hw9
 obtain ⟨f,rfl⟩:∃ f',f=f'+1:=⟨f-1,by omega⟩
 rw [rowF] at hR
 dsimp only
 refine gGw ?_
 by_cases hen:r.length=n
 ·rw [if_pos hen] at hR
  refine br_t (decide_eq_true (by omega)) ?_
  refine gGw ?_
  exact fin1 rfl rfl (fun w' hm=>⟨_,.inr ⟨_,_,gA,gc,hR.symm,hat,ha0,hen,rfl,rfl⟩,hm⟩)
 rw [if_neg hen] at hR
 refine br_f (decide_eq_false (by omega)) ?_
 refine gGw ?_
 refine⟨zeZ,zac (m1:=CdM d++RM s.q (a0)) (by repeat constructor) (fun w' hm'=>ziy d s.q (a0) w' hl (by omega) hd hm'.part) ?_⟩
 rintro e m' ⟨rfl,rfl⟩
 rw [zq0]
 rcases h1:symE d.L s.q.bs (a0) with n|⟨x,a1⟩
 ·rw [h1] at hR
  simp only at hR
  have hn:=zmF h1
  have he:=zmG h1
  rw [he]
  refine gGw ?_
  refine⟨zck,zac (m1:=[]) .nil (fun w' hm'=>zd5 _ n w') ?_⟩
  rintro e m' ⟨rfl,rfl⟩
  rw [if_neg hn]
  conv=>whnf
  exact zaq (fun w' hm=>⟨_,.inl ⟨n,hR.symm,hn,rfl,rfl⟩,hm.sublist (List.nil_sublist _)⟩)
 rw [h1] at hR
 simp only at hR
 have h1b:=zmE (by omega) h1
 obtain ⟨h11,h12,h13⟩:=zmH h1
 rw [h11,h12,h13]
 refine gGw ?_
 refine⟨zck,zac (m1:=[]) .nil (fun w' hm'=>zd5 _ 0 w') ?_⟩
 rintro e m' ⟨rfl,rfl⟩
 rw [if_pos rfl]
 refine gGw ?_
 by_cases h16:x=16
 ·rw [if_pos h16] at hR
  refine br_t (decide_eq_true h16) ?_
  have hb:=zep s.q.bs a1 (n:=2) (k:=2) (by omega)
  refine gGw ?_
  refine⟨za2,zac (m1:=RM s.q (a1)) (by repeat constructor) (fun w' hm'=>zbP s.q (a1) (2) w' hl (by omega) (by omega) hm'.part) ?_⟩
  rintro e m' ⟨rfl,rfl⟩
  by_cases h2:a1+2≤8*s.q.bs.length
  rotate_left
  ·rw [zbS h2] at hR
   simp only at hR
   rw [(zau h2).1,(zau h2).2.1,(zau h2).2.2]
   refine gGw ?_
   refine⟨zas,zac (m1:=[]) .nil (fun w' hm'=>zaE _ 120 w') ?_⟩
   rintro e m' ⟨rfl,rfl⟩
   rw [if_neg (by decide)]
   conv=>whnf
   exact zaq (fun w' hm=>⟨_,.inl ⟨120,hR.symm,by decide,rfl,rfl⟩,hm.sublist (List.nil_sublist _)⟩)
  rw [zbv h2] at hR
  simp only at hR
  rw [(zat h2).1,(zat h2).2.1,(zat h2).2.2]
  refine gGw ?_
  refine⟨zas,zac (m1:=[]) .nil (fun w' hm'=>zaE _ 0 w') ?_⟩
  rintro e m' ⟨rfl,rfl⟩
  rw [if_pos rfl]
  refine gGw ?_
  generalize zbU s.q.bs a1 2=m at hR hb ⊢
  by_cases h0:r.length=0
  ·rw [if_pos h0] at hR
   refine br_t (decide_eq_true (by omega)) ?_
   refine gGw ?_
   exact zaq (fun w' hm=>⟨_,.inl ⟨151,hR.symm,by decide,rfl,rfl⟩,hm.sublist (List.nil_sublist _)⟩)
  rw [if_neg h0] at hR
  refine br_f (decide_eq_false (by omega)) ?_
  refine gGw ?_
  have hpl:Pl gA:=zc0 (hw9.ok (IR gA gc r.length r) (List.mem_cons_self ..)) (by omega)
  have ej:(r.length:Int)-1=((r.length-1:Nat):Int):=by omega
  rw [ej]
  refine And.intro ⟨by omega,by omega,hpl⟩ ?_
  conv=>whnf
  refine zaj (ldR zaa (by repeat constructor) rfl rfl (zbm (xs:=r) (j:=r.length-1) (by omega))) ?_
  refine gGw ?_
  generalize r.getD (r.length-1) 0=v at hR ⊢
  have ec:(3:Int)+(m:Int)=((3+m:Nat):Int):=by omega
  rw [ec]
  by_cases hlg:n<3+m+r.length
  ·rw [if_pos hlg] at hR
   refine br_t (decide_eq_true (by omega)) ?_
   refine gGw ?_
   exact zaq (fun w' hm=>⟨_,.inl ⟨151,hR.symm,by decide,rfl,rfl⟩,hm.sublist (List.nil_sublist _)⟩)
  rw [if_neg hlg] at hR
  refine br_f (decide_eq_false (by omega)) ?_
  refine gGw ?_;(repeat ((first|refine .mk fun Ap capp=>?_|intro _);(conv=>whnf);refine gG0 ?_))
  refine⟨zeo,zcm (SubM.torow (n:=1) (by repeat constructor) rfl rfl) (zac (m1:=[]) .nil (fun w' hm'=>zgN (v) (3+m) _ _ w' (rowI (xs:=[v]) (hm'.ok _ (List.mem_cons_self ..))) (by omega)) ?_)⟩
  rintro e m' ⟨rA,rc,rfl,rfl⟩
  conv=>whnf
  refine zen (k:=.i64) (ys:=List.replicate (3+m) (v)) List.length_replicate zaa rfl rfl rfl rfl rfl rfl (by repeat constructor) (fun w' hm'=>rowI (hm'.ok (IR rA rc (3+m) (List.replicate (3+m) (v))) (by simp))) (by omega) (fun A1 c1=>?_)
  refine gGw ?_
  have el:(r++List.replicate (3+m) (v)).length=r.length+(3+m):=by rw [List.length_append,List.length_replicate]
  refine⟨(f,a1+2,A1,c1,r++List.replicate (3+m) (v)),⟨by simp only;omega,by simp only;omega,by simp only;omega,by simp only [el];omega,hR⟩,by simp only;omega,⟨rfl,rfl,rfl,congrArg (fun z=>some (Value.slice A1 z c1)) el.symm,trivial⟩,?_⟩
  show SubM _ _ (.row A1 c1 (r++List.replicate (3+m) (v)).length 3 1 ((r++List.replicate (3+m) (v)).map (.int .i64))::(CdM d++StM s (a1+2) A c o))
  rw [el,List.map_append]
  exact SubM.sl
 rw [if_neg h16] at hR
 refine br_f (decide_eq_false h16) ?_
 refine gGw ?_
 by_cases h17:x=17
 ·rw [if_pos h17] at hR
  refine br_t (decide_eq_true h17) ?_
  have hb:=zep s.q.bs a1 (n:=3) (k:=3) (by omega)
  refine gGw ?_
  refine⟨za2,zac (m1:=RM s.q (a1)) (by repeat constructor) (fun w' hm'=>zbP s.q (a1) (3) w' hl (by omega) (by omega) hm'.part) ?_⟩
  rintro e m' ⟨rfl,rfl⟩
  by_cases h2:a1+3≤8*s.q.bs.length
  rotate_left
  ·rw [zbS h2] at hR
   simp only at hR
   rw [(zau h2).1,(zau h2).2.1,(zau h2).2.2]
   refine gGw ?_
   refine⟨zas,zac (m1:=[]) .nil (fun w' hm'=>zaE _ 120 w') ?_⟩
   rintro e m' ⟨rfl,rfl⟩
   rw [if_neg (by decide)]
   conv=>whnf
   exact zaq (fun w' hm=>⟨_,.inl ⟨120,hR.symm,by decide,rfl,rfl⟩,hm.sublist (List.nil_sublist _)⟩)
  rw [zbv h2] at hR
  simp only at hR
  rw [(zat h2).1,(zat h2).2.1,(zat h2).2.2]
  refine gGw ?_
  refine⟨zas,zac (m1:=[]) .nil (fun w' hm'=>zaE _ 0 w') ?_⟩
  rintro e m' ⟨rfl,rfl⟩
  rw [if_pos rfl]
  refine gGw ?_
  generalize zbU s.q.bs a1 3=m at hR hb ⊢
  have ec:(3:Int)+(m:Int)=((3+m:Nat):Int):=by omega
  rw [ec]
  by_cases hlg:n<3+m+r.length
  ·rw [if_pos hlg] at hR
   refine br_t (decide_eq_true (by omega)) ?_
   refine gGw ?_
   exact zaq (fun w' hm=>⟨_,.inl ⟨151,hR.symm,by decide,rfl,rfl⟩,hm.sublist (List.nil_sublist _)⟩)
  rw [if_neg hlg] at hR
  refine br_f (decide_eq_false (by omega)) ?_
  refine gGw ?_;(repeat ((first|refine .mk fun Ap capp=>?_|intro _);(conv=>whnf);refine gG0 ?_))
  refine⟨zeo,zcm (SubM.torow (n:=1) (by repeat constructor) rfl rfl) (zac (m1:=[]) .nil (fun w' hm'=>zgN (0) (3+m) _ _ w' (rowI (xs:=[0]) (hm'.ok _ (List.mem_cons_self ..))) (by omega)) ?_)⟩
  rintro e m' ⟨rA,rc,rfl,rfl⟩
  conv=>whnf
  refine zen (k:=.i64) (ys:=List.replicate (3+m) (0)) List.length_replicate zaa rfl rfl rfl rfl rfl rfl (by repeat constructor) (fun w' hm'=>rowI (hm'.ok (IR rA rc (3+m) (List.replicate (3+m) (0))) (by simp))) (by omega) (fun A1 c1=>?_)
  refine gGw ?_
  have el:(r++List.replicate (3+m) (0)).length=r.length+(3+m):=by rw [List.length_append,List.length_replicate]
  refine⟨(f,a1+3,A1,c1,r++List.replicate (3+m) (0)),⟨by simp only;omega,by simp only;omega,by simp only;omega,by simp only [el];omega,hR⟩,by simp only;omega,⟨rfl,rfl,rfl,congrArg (fun z=>some (Value.slice A1 z c1)) el.symm,trivial⟩,?_⟩
  show SubM _ _ (.row A1 c1 (r++List.replicate (3+m) (0)).length 3 1 ((r++List.replicate (3+m) (0)).map (.int .i64))::(CdM d++StM s (a1+3) A c o))
  rw [el,List.map_append]
  exact SubM.sl
 rw [if_neg h17] at hR
 refine br_f (decide_eq_false h17) ?_
 refine gGw ?_
 by_cases h18:x=18
 ·rw [if_pos h18] at hR
  refine br_t (decide_eq_true h18) ?_
  have hb:=zep s.q.bs a1 (n:=7) (k:=7) (by omega)
  refine gGw ?_
  refine⟨za2,zac (m1:=RM s.q (a1)) (by repeat constructor) (fun w' hm'=>zbP s.q (a1) (7) w' hl (by omega) (by omega) hm'.part) ?_⟩
  rintro e m' ⟨rfl,rfl⟩
  by_cases h2:a1+7≤8*s.q.bs.length
  rotate_left
  ·rw [zbS h2] at hR
   simp only at hR
   rw [(zau h2).1,(zau h2).2.1,(zau h2).2.2]
   refine gGw ?_
   refine⟨zas,zac (m1:=[]) .nil (fun w' hm'=>zaE _ 120 w') ?_⟩
   rintro e m' ⟨rfl,rfl⟩
   rw [if_neg (by decide)]
   conv=>whnf
   exact zaq (fun w' hm=>⟨_,.inl ⟨120,hR.symm,by decide,rfl,rfl⟩,hm.sublist (List.nil_sublist _)⟩)
  rw [zbv h2] at hR
  simp only at hR
  rw [(zat h2).1,(zat h2).2.1,(zat h2).2.2]
  refine gGw ?_
  refine⟨zas,zac (m1:=[]) .nil (fun w' hm'=>zaE _ 0 w') ?_⟩
  rintro e m' ⟨rfl,rfl⟩
  rw [if_pos rfl]
  refine gGw ?_
  generalize zbU s.q.bs a1 7=m at hR hb ⊢
  have ec:(11:Int)+(m:Int)=((11+m:Nat):Int):=by omega
  rw [ec]
  by_cases hlg:n<11+m+r.length
  ·rw [if_pos hlg] at hR
   refine br_t (decide_eq_true (by omega)) ?_
   refine gGw ?_
   exact zaq (fun w' hm=>⟨_,.inl ⟨151,hR.symm,by decide,rfl,rfl⟩,hm.sublist (List.nil_sublist _)⟩)
  rw [if_neg hlg] at hR
  refine br_f (decide_eq_false (by omega)) ?_
  refine gGw ?_;(repeat ((first|refine .mk fun Ap capp=>?_|intro _);(conv=>whnf);refine gG0 ?_))
  refine⟨zeo,zcm (SubM.torow (n:=1) (by repeat constructor) rfl rfl) (zac (m1:=[]) .nil (fun w' hm'=>zgN (0) (11+m) _ _ w' (rowI (xs:=[0]) (hm'.ok _ (List.mem_cons_self ..))) (by omega)) ?_)⟩
  rintro e m' ⟨rA,rc,rfl,rfl⟩
  conv=>whnf
  refine zen (k:=.i64) (ys:=List.replicate (11+m) (0)) List.length_replicate zaa rfl rfl rfl rfl rfl rfl (by repeat constructor) (fun w' hm'=>rowI (hm'.ok (IR rA rc (11+m) (List.replicate (11+m) (0))) (by simp))) (by omega) (fun A1 c1=>?_)
  refine gGw ?_
  have el:(r++List.replicate (11+m) (0)).length=r.length+(11+m):=by rw [List.length_append,List.length_replicate]
  refine⟨(f,a1+7,A1,c1,r++List.replicate (11+m) (0)),⟨by simp only;omega,by simp only;omega,by simp only;omega,by simp only [el];omega,hR⟩,by simp only;omega,⟨rfl,rfl,rfl,congrArg (fun z=>some (Value.slice A1 z c1)) el.symm,trivial⟩,?_⟩
  show SubM _ _ (.row A1 c1 (r++List.replicate (11+m) (0)).length 3 1 ((r++List.replicate (11+m) (0)).map (.int .i64))::(CdM d++StM s (a1+7) A c o))
  rw [el,List.map_append]
  exact SubM.sl
 rw [if_neg h18] at hR
 refine br_f (decide_eq_false h18) ?_
 refine gGw ?_;(repeat ((first|refine .mk fun Ap capp=>?_|intro _);(conv=>whnf);refine gG0 ?_))
 have el:(r++[x]).length=r.length+1:=by rw [List.length_append];rfl
 refine⟨(f,a1,Ap,capp,r++[x]),⟨by simp only;omega,by simp only;omega,by simp only;omega,by simp only [el];omega,hR⟩,by simp only;omega,⟨rfl,rfl,rfl,congrArg (fun z=>some (Value.slice Ap z capp)) el.symm,trivial⟩,?_⟩
 show SubM _ _ (.row Ap capp (r++[x]).length 3 1 ((r++[x]).map (.int .i64))::(CdM d++StM s a1 A c o))
 rw [el,List.map_append]
 exact SubM.sl
end Go.Proofs.YtlmgelmloddfgaaGreat
namespace Go.Proofs.YtlmgelmloddfgaaGreat
open Go Go.RowKit Eng
attribute [local irreducible] Br Rn RnU Cl RdG CpG Ld Rd Lp Dr Oth Cut fin Fits Eng.Enters Md NA
theorem zai:Eng.Enters Tryz.prog 208:=zab fun _ _=>by kernel_rfl
theorem zbk:Eng.Enters Tryz.prog 207:=zab fun _ _=>by kernel_rfl
theorem zap (x:Int) (n:Nat) (w:World) (hx:0≤x∧x<9223372036854775808) (hn:1≤n∧n≤8) (hf:x.toNat<256 ^ n) :
  Ctr Tryz.prog 208 [.int .i64 x,.int .i64 (n:Int)] [] (fun e m'=>∃ A c,e=.returned (.slice A n c)∧m'=[BR8 A c n (leB x.toNat n)]) w:=by
 refine enter (cx:=CXS 14 [] w (Foot [])) [(0,.int .i64 x),(1,.int .i64 (n:Int))] zaa Tryz.func208 rfl rfl rfl rfl (MemOk.nil w _) ?_
 obtain ⟨y,rfl⟩:∃ y:Nat,x=(y:Int):=⟨x.toNat,(Int.toNat_of_nonneg hx.1).symm⟩
 rw [Int.toNat_natCast] at hf ⊢
 refine gGw ?_
 refine zc6 zaa rfl rfl rfl rfl rfl (by omega) (by rw [Int.toNat_natCast];show 1*_≤_;omega) (by omega) (fun rB=>?_)
 rw [Int.toNat_natCast,zgx]
 refine gGw ?_
 refine⟨zfK,zac (m1:=[BR8 (some ⟨rB,0,none⟩) n n (List.replicate n 0)]) (by repeat constructor) (fun w' hm'=>zvi (bs:=List.replicate n 0) (a:=0) (n:=n) (l:=n) (List.length_replicate ..) (some ⟨rB,0,none⟩) n y w' (by omega) hn (by omega) hf hm'.part) ?_⟩
 rintro e m' ⟨rfl,rfl⟩
 have hset:setB (List.replicate n 0) 0 (leB y n)=leB y n:=by
  have:=zfc [] (List.replicate n 0) (leB y n)
  rw [List.nil_append,List.nil_append,zad,List.drop_replicate,Nat.sub_self,List.replicate_zero,List.append_nil] at this
  exact this
 rw [hset]
 refine gGw ?_
 exact fin1 rfl rfl (fun w' hm=>⟨_,⟨_,_,rfl,rfl⟩,hm.sl⟩)
structure Prt where
 A:Option Addr
 c:Nat
 bs:List UInt8
def Prt.val (p:Prt):Value:=.slice p.A p.bs.length p.c
def prtB (L:List Prt):List UInt8:=L.flatMap Prt.bs
theorem zm6 {L:List Prt} (h:∀ p∈L,p.bs.length≤1000000):(prtB L).length≤L.length*1000000:=by
 unfold prtB
 induction L with
 | nil=>simp
 | cons p t ih =>
  have h1:=h p (List.mem_cons_self ..)
  have h2:=ih (fun q hq=>h q (List.mem_cons_of_mem _ hq))
  rw [List.flatMap_cons,List.length_append,List.length_cons,Nat.succ_mul];omega
theorem zct (L:List Prt) (fB c:Nat) (w:World) (hL:L.length≤100) (hb:∀ p∈L,p.bs.length≤1000000) (hc:∀ i p,L[i]?=some p→w.cell? ⟨fB,i,none⟩=some p.val) (hp:∀ p∈L,BytsIn w p.A p.bs) :
  Ctr Tryz.prog 207 [.slice (some ⟨fB,0,none⟩) L.length c] [] (fun e m'=>∃ A d,e=.returned (.slice A (prtB L).length d)∧m'=[BR8 A d (prtB L).length (prtB L)]) w:=by
 have hF:∀ p∈L,∀ w',Fr (Foot []) w w'→BytsIn w' p.A p.bs:=fun p hp0 w' hf=>Byts.in_ (BytsIn.byts (cx:=CX 17 [] w) (m:=[]) (hp p hp0) (fun _ h=>h)) ((MemOk.nil w _).same (hf.mono (fun k _ ⟨r,hr,_⟩=>by cases hr)))
 refine enter (cx:=CXS 17 [] w (Foot [])) [(0,.slice (some ⟨fB,0,none⟩) L.length c)] zaa Tryz.func207 rfl rfl rfl rfl (MemOk.nil w _) ?_
 refine gGw ?_
 refine lp zaa (γ:=Nat × Option Addr × Nat) (fun g=>g.1≤L.length) (fun g=>[(8,.int .i64 (g.1:Int)),(7,.int .i64 (L.length:Int)),(6,.slice (some ⟨fB,0,none⟩) L.length c),(3,.slice g.2.1 (prtB (L.take g.1)).length g.2.2)]) (fun g=>[BR8 g.2.1 g.2.2 (prtB (L.take g.1)).length (prtB (L.take g.1))]) (fun g=>L.length-g.1) (0,none,0) (by simp) ⟨rfl,rfl,rfl,rfl,trivial⟩ (SubM.row0 (SubM.refl _ _) _ _) ?_
 rintro ⟨i,gA,gc⟩ hi
 simp only at hi
 dsimp only
 conv=>whnf
 refine br_d (fun hlt=>?_) (fun hge=>?_)
 ·have hi':i<L.length:=by omega
  have hpi:=List.getElem?_eq_getElem hi'
  have hmem:L[i]∈L:=List.getElem_mem hi'
  have hlen:=zm6 (L:=L.take i) (fun p hq=>hb p (List.mem_of_mem_take hq))
  have hbi:=hb _ hmem
  have hti:(L.take i).length≤100:=by rw [List.length_take];omega
  have eS:prtB (L.take (i+1))=prtB (L.take i)++L[i].bs:=by
   unfold prtB;rw [List.take_succ_eq_append_getElem hi',List.flatMap_append];simp
  generalize hq:L[i]=q at hpi hmem hbi eS
  generalize prtB (L.take i)=acc at hlen eS ⊢
  have hmul:(L.take i).length*1000000≤100*1000000:=Nat.mul_le_mul_right _ hti
  refine gGw ?_
  refine And.intro ⟨by omega,by omega,Pl.mk _ _⟩ ?_
  conv=>whnf
  have hpl:pl (some ⟨fB,0,none⟩) (mulC (Int.toNat (i:Int)) ty22.cells)=some ⟨fB,i,none⟩:=by
   rw [zcD,Int.toNat_natCast,show ty22.cells=1 from rfl,Nat.mul_one]
   show some (Addr.mk fB (0+i) none)=_
   rw [Nat.zero_add]
  rw [hpl]
  refine zaj (ldF zaa (hc i q hpi) (zao _) rfl rfl) ?_
  unfold Prt.val
  conv=>whnf
  refine zen (k:=.u8) (ys:=zah q.bs) (zag _) zaa rfl rfl rfl rfl rfl rfl .here (fun w' hm'=>hF q hmem w' hm'.fr) (by omega) (fun A1 c1=>?_)
  refine gGw ?_
  have el:(acc++q.bs).length=acc.length+q.bs.length:=List.length_append
  have en:(zah (acc++q.bs)).map (Value.int .u8)=(zah acc).map (.int .u8)++(zah q.bs).map (.int .u8):=by unfold zah;simp
  refine⟨(i+1,A1,c1),by simp only;omega,by simp only;omega,⟨rfl,rfl,rfl,?_,trivial⟩,?_⟩
  ·show some _=some _
   simp only [eS,el]
  ·show SubM _ _ [.row A1 c1 (prtB (L.take (i+1))).length 5 1 ((zah (prtB (L.take (i+1)))).map (.int .u8))]
   rw [eS,el,en]
   exact SubM.sl
 ·obtain rfl:i=L.length:=by omega
  rw [List.take_length]
  refine gGw ?_
  exact fin1 rfl rfl (fun w' hm=>⟨_,⟨_,_,rfl,rfl⟩,hm⟩)
end Go.Proofs.YtlmgelmloddfgaaGreat
namespace Go.Proofs.YtlmgelmloddfgaaGreat
open Go Go.RowKit Eng
def zsS (o:Obj) (s:ByteArray):Prop:=∃ cells e fr,o=.cells cells e fr∧∀ i,i<s.size→cells[i]?=some (.int .u8 ((s.data.toList.getD i 0).toNat:Int))
theorem zms {w:World} {b:Nat} {cs:Array Value} {e:TypeId} {fr:Nat × Nat} (h:w.heap[b]?=some (.cells cs e fr)) (i:Nat):w.cell? ⟨b,i,none⟩=cs[i]?:=by
 simpa using cell_of_row w b i cs e fr h
theorem zbL {w:World} {b:Nat} {o:Obj} {s:ByteArray} (hb:w.heap[b]?=some o) (h:zsS o s):BytsIn w (some ⟨b,0,none⟩) s.data.toList:=by
 obtain ⟨cells,e,fr,rfl,hc⟩:=h
 intro _
 refine⟨b,0,rfl,fun i hi=>?_⟩
 rw [zag] at hi
 rw [Nat.zero_add,zms hb,hc i hi,zfV]
theorem zdf {cx:Cx} {m:Mem} {src dst e:Nat} {i j l:TyI} {s:ByteArray} {K:Value→Mem→Prop} (ht:TabOk cx.P cx.tab) (hi:cx.tab.get src=some i) (hik:i.kind=.str) (hj:cx.tab.get dst=some j) (hjk:j.kind=.slice e) (hl:cx.tab.get e=some l) (hlk:l.kind=.int .u8)
  (hK:∀ b cap o,zsS o s→K (.slice (some ⟨b,0,none⟩) s.size cap) (.blk b o::m)):Rn cx m (convert src dst (.string s)) K:=by
 intro w hm
 have hs:cx.P.underlying src=some .string:=by
  obtain ⟨d,hd,hkd⟩:=(ht _ _ hi).desc
  rw [hik] at hkd;subst hkd;exact hd
 have hd:cx.P.underlying dst=some (.slice e):=TyI.sliceOf (ht _ _ hj) hjk
 have he:cx.P.underlying e=some (.int .u8):=by
  obtain ⟨d,hd,hkd⟩:=(ht _ _ hl).desc
  rw [hlk] at hkd;subst hkd;exact hd
 have hh:zsS (.cells (bytesRow s (grownCap w s.size 0 e)) e ((bytesRow s (grownCap w s.size 0 e)).size,(bytesRow s (grownCap w s.size 0 e)).size+1)) s:=by
  refine⟨_,_,_,rfl,fun i hi=>?_⟩
  rw [bytesRow_at s _ i hi,List.getD_eq_getElem?_getD,List.getElem?_eq_getElem (by simpa using hi)]
  simp
 exact⟨_,_,_,run_bytes_of_string w src dst e s hs hd he,(hm.same (zeu w (w.drawn+1))).alloc _,hK w.heap.size _ _ hh⟩
theorem zbj {w:World} {pB t:Nat} {L:List Prt} (h:Res.ok w (.blk pB (.cells (L.map Prt.val).toArray t))):∀ i p,L[i]?=some p→w.cell? ⟨pB,i,none⟩=some p.val:=fun i p hi=>by
 rw [zaM h i,List.getElem?_map,hi];rfl
theorem zeS {w:World} {p0:Prt} {p1:Prt} {p2:Prt} {p3:Prt} {p4:Prt} {q:Prt} (hq:q∈[p0,p1,p2,p3,p4]) (h0:BytsIn w p0.A p0.bs) (h1:BytsIn w p1.A p1.bs) (h2:BytsIn w p2.A p2.bs) (h3:BytsIn w p3.A p3.bs) (h4:BytsIn w p4.A p4.bs):BytsIn w q.A q.bs:=by
 simp only [List.mem_cons,List.not_mem_nil,or_false] at hq
 rcases hq with rfl|rfl|rfl|rfl|rfl<;>assumption
theorem zd2 {p0:Prt} {p1:Prt} {p2:Prt} {p3:Prt} {p4:Prt} {q:Prt} (hq:q∈[p0,p1,p2,p3,p4]) (h0:p0.bs.length≤1000000) (h1:p1.bs.length≤1000000) (h2:p2.bs.length≤1000000) (h3:p3.bs.length≤1000000) (h4:p4.bs.length≤1000000):q.bs.length≤1000000:=by
 simp only [List.mem_cons,List.not_mem_nil,or_false] at hq
 rcases hq with rfl|rfl|rfl|rfl|rfl<;>assumption
attribute [local irreducible] Br Rn RnU Cl RdG CpG Ld Rd Lp Dr Oth Cut fin Fits Eng.Enters Md NA
theorem zj3:Eng.Enters Tryz.prog 180:=zab fun _ _=>by kernel_rfl
def zan (x:Snp):List UInt8:=leB (x.name.size:Int).toNat 1++(x.name.data.toList++(leB x.l1.toNat 8++(leB x.l1len.toNat 4++leB x.size.toNat 8)))
set_option maxHeartbeats 4000000 in
theorem zpb (x:Snp) (w:World) (hn:x.name.size≤64) (h1:0≤x.l1∧x.l1≤268435456) (h2:0≤x.l1len∧x.l1len≤1048576) (h3:0≤x.size∧x.size≤67108864) :
  Ctr Tryz.prog 180 [.agg x.cells.toArray] [] (fun e m'=>∃ A c,e=.returned (.slice A (zan x).length c)∧m'=[BR8 A c (zan x).length (zan x)]) w:=by
 refine enter (cx:=CXS 21 [] w (Foot [])) [(0,.agg x.cells.toArray)] zaa Tryz.func180 rfl rfl rfl rfl (MemOk.nil w _) ?_
 refine gGw ?_;(repeat ((first|refine .mk fun Ap capp=>?_|intro _);(conv=>whnf);refine gG0 ?_))
 rename_i xB
 refine zbc (γ:=Option Addr × Nat) (Tr.hs [0,1,2,4,5,7,8,10,11,13,14] (.alts 3 (.alts 9 (.alts 12 (.alts 15 (.sq [6,16,17] (.hs [18] .done)) (.alts 6 (.sq [15,16,17] (.hs [18] .done)) .stop)) (.alts 6 (.sq [12,15,16,17] (.hs [18] .done)) .stop)) (.alts 6 (.sq [9,12,15,16,17] (.hs [18] .done)) .stop)) (.alts 6 (.sq [3,9,12,15,16,17] (.hs [18] .done)) .stop)))
  [.blk xB (.cells x.cells.toArray 175)] zaa mixed (by kernel_rfl) rfl (fun _=>True) (fun g=>[(2,.slice g.1 (zan x).length g.2)]) (fun g=>[BR8 g.1 g.2 (zan x).length (zan x)]) SubM.sl ?_ ?_
 ·refine gGw ?_
  refine⟨?_,?_⟩
  ·conv=>whnf
   refine⟨zai,zac (m1:=[]) .nil (fun w' hm'=>zap ((x.name.size:Int)) 1 w' (by omega) (by omega) (by rw [show (256:Nat) ^ 1=256 from by decide];omega)) ?_⟩
   rintro e m' ⟨Aa,ca,rfl,rfl⟩
   conv=>whnf
   refine gGs ?_
   conv=>whnf
   refine⟨?_,?_⟩
   ·conv=>whnf
    refine⟨zai,zac (m1:=[]) .nil (fun w' hm'=>zap (x.l1) 8 w' (by omega) (by omega) (by rw [show (256:Nat) ^ 8=18446744073709551616 from by decide];omega)) ?_⟩
    rintro e m' ⟨Ab,cb,rfl,rfl⟩
    conv=>whnf
    refine gGs ?_
    conv=>whnf
    refine⟨?_,?_⟩
    ·conv=>whnf
     refine⟨zai,zac (m1:=[]) .nil (fun w' hm'=>zap (x.l1len) 4 w' (by omega) (by omega) (by rw [show (256:Nat) ^ 4=4294967296 from by decide];omega)) ?_⟩
     rintro e m' ⟨Ac,cc,rfl,rfl⟩
     conv=>whnf
     refine gGs ?_
     conv=>whnf
     refine⟨?_,?_⟩
     ·conv=>whnf
      refine⟨zai,zac (m1:=[]) .nil (fun w' hm'=>zap (x.size) 8 w' (by omega) (by omega) (by rw [show (256:Nat) ^ 8=18446744073709551616 from by decide];omega)) ?_⟩
      rintro e m' ⟨Ad,cd,rfl,rfl⟩
      conv=>whnf
      refine gGs ?_
      conv=>whnf
      refine⟨?_,trivial⟩
      conv=>whnf
      refine zdf zaa rfl rfl rfl rfl rfl rfl (fun nB ncap no hno=>?_)
      conv=>whnf
      refine gGs ?_
      conv=>whnf
      refine⟨?_,trivial⟩
      conv=>whnf
      intro pB
      conv=>whnf
      refine gGs ?_
      conv=>whnf
      refine⟨?_,trivial⟩
      conv=>whnf
      have hsb:prtB [⟨Aa,ca,leB ((x.name.size:Int)).toNat 1⟩,⟨some ⟨nB,0,none⟩,ncap,x.name.data.toList⟩,⟨Ab,cb,leB (x.l1).toNat 8⟩,⟨Ac,cc,leB (x.l1len).toNat 4⟩,⟨Ad,cd,leB (x.size).toNat 8⟩]=zan x:=by unfold prtB zan;simp
      refine⟨zbk,zac (m1:=[]) .nil (fun w' hm'=>zct [⟨Aa,ca,leB ((x.name.size:Int)).toNat 1⟩,⟨some ⟨nB,0,none⟩,ncap,x.name.data.toList⟩,⟨Ab,cb,leB (x.l1).toNat 8⟩,⟨Ac,cc,leB (x.l1len).toNat 4⟩,⟨Ad,cd,leB (x.size).toNat 8⟩] pB 5 w' (by show 5≤100;omega) (fun q hq=>zd2 hq (by rw [zad];omega) (by show x.name.size≤1000000;omega) (by rw [zad];omega) (by rw [zad];omega) (by rw [zad];omega)) (zbj (hm'.ok _ (List.mem_cons_self ..))) (fun q hq=>zeS hq (zaB (hm'.ok (BR8 Aa ca 1 (leB ((x.name.size:Int)).toNat 1)) (by simp))) (zbL (hm'.ok (.blk nB no) (by simp)) hno) (zaB (hm'.ok (BR8 Ab cb 8 (leB (x.l1).toNat 8)) (by simp))) (zaB (hm'.ok (BR8 Ac cc 4 (leB (x.l1len).toNat 4)) (by simp))) (zaB (hm'.ok (BR8 Ad cd 8 (leB (x.size).toNat 8)) (by simp))))) ?_⟩
      rw [hsb]
      rintro e m' ⟨gA,gc,rfl,rfl⟩
      refine gGt ?_
      exact⟨(gA,gc),trivial,⟨rfl,trivial⟩,SubM.sl⟩
     ·conv=>whnf
      refine⟨?_,trivial⟩
      conv=>whnf
      refine zdf zaa rfl rfl rfl rfl rfl rfl (fun nB ncap no hno=>?_)
      conv=>whnf
      refine gGs ?_
      conv=>whnf
      refine⟨?_,trivial⟩
      conv=>whnf
      refine⟨zai,zac (m1:=[]) .nil (fun w' hm'=>zap (x.size) 8 w' (by omega) (by omega) (by rw [show (256:Nat) ^ 8=18446744073709551616 from by decide];omega)) ?_⟩
      rintro e m' ⟨Ad,cd,rfl,rfl⟩
      conv=>whnf
      refine gGs ?_
      conv=>whnf
      refine⟨?_,trivial⟩
      conv=>whnf
      intro pB
      conv=>whnf
      refine gGs ?_
      conv=>whnf
      refine⟨?_,trivial⟩
      conv=>whnf
      have hsb:prtB [⟨Aa,ca,leB ((x.name.size:Int)).toNat 1⟩,⟨some ⟨nB,0,none⟩,ncap,x.name.data.toList⟩,⟨Ab,cb,leB (x.l1).toNat 8⟩,⟨Ac,cc,leB (x.l1len).toNat 4⟩,⟨Ad,cd,leB (x.size).toNat 8⟩]=zan x:=by unfold prtB zan;simp
      refine⟨zbk,zac (m1:=[]) .nil (fun w' hm'=>zct [⟨Aa,ca,leB ((x.name.size:Int)).toNat 1⟩,⟨some ⟨nB,0,none⟩,ncap,x.name.data.toList⟩,⟨Ab,cb,leB (x.l1).toNat 8⟩,⟨Ac,cc,leB (x.l1len).toNat 4⟩,⟨Ad,cd,leB (x.size).toNat 8⟩] pB 5 w' (by show 5≤100;omega) (fun q hq=>zd2 hq (by rw [zad];omega) (by show x.name.size≤1000000;omega) (by rw [zad];omega) (by rw [zad];omega) (by rw [zad];omega)) (zbj (hm'.ok _ (List.mem_cons_self ..))) (fun q hq=>zeS hq (zaB (hm'.ok (BR8 Aa ca 1 (leB ((x.name.size:Int)).toNat 1)) (by simp))) (zbL (hm'.ok (.blk nB no) (by simp)) hno) (zaB (hm'.ok (BR8 Ab cb 8 (leB (x.l1).toNat 8)) (by simp))) (zaB (hm'.ok (BR8 Ac cc 4 (leB (x.l1len).toNat 4)) (by simp))) (zaB (hm'.ok (BR8 Ad cd 8 (leB (x.size).toNat 8)) (by simp))))) ?_⟩
      rw [hsb]
      rintro e m' ⟨gA,gc,rfl,rfl⟩
      refine gGt ?_
      exact⟨(gA,gc),trivial,⟨rfl,trivial⟩,SubM.sl⟩
    ·conv=>whnf
     refine⟨?_,trivial⟩
     conv=>whnf
     refine zdf zaa rfl rfl rfl rfl rfl rfl (fun nB ncap no hno=>?_)
     conv=>whnf
     refine gGs ?_
     conv=>whnf
     refine⟨?_,trivial⟩
     conv=>whnf
     refine⟨zai,zac (m1:=[]) .nil (fun w' hm'=>zap (x.l1len) 4 w' (by omega) (by omega) (by rw [show (256:Nat) ^ 4=4294967296 from by decide];omega)) ?_⟩
     rintro e m' ⟨Ac,cc,rfl,rfl⟩
     conv=>whnf
     refine gGs ?_
     conv=>whnf
     refine⟨?_,trivial⟩
     conv=>whnf
     refine⟨zai,zac (m1:=[]) .nil (fun w' hm'=>zap (x.size) 8 w' (by omega) (by omega) (by rw [show (256:Nat) ^ 8=18446744073709551616 from by decide];omega)) ?_⟩
     rintro e m' ⟨Ad,cd,rfl,rfl⟩
     conv=>whnf
     refine gGs ?_
     conv=>whnf
     refine⟨?_,trivial⟩
     conv=>whnf
     intro pB
     conv=>whnf
     refine gGs ?_
     conv=>whnf
     refine⟨?_,trivial⟩
     conv=>whnf
     have hsb:prtB [⟨Aa,ca,leB ((x.name.size:Int)).toNat 1⟩,⟨some ⟨nB,0,none⟩,ncap,x.name.data.toList⟩,⟨Ab,cb,leB (x.l1).toNat 8⟩,⟨Ac,cc,leB (x.l1len).toNat 4⟩,⟨Ad,cd,leB (x.size).toNat 8⟩]=zan x:=by unfold prtB zan;simp
     refine⟨zbk,zac (m1:=[]) .nil (fun w' hm'=>zct [⟨Aa,ca,leB ((x.name.size:Int)).toNat 1⟩,⟨some ⟨nB,0,none⟩,ncap,x.name.data.toList⟩,⟨Ab,cb,leB (x.l1).toNat 8⟩,⟨Ac,cc,leB (x.l1len).toNat 4⟩,⟨Ad,cd,leB (x.size).toNat 8⟩] pB 5 w' (by show 5≤100;omega) (fun q hq=>zd2 hq (by rw [zad];omega) (by show x.name.size≤1000000;omega) (by rw [zad];omega) (by rw [zad];omega) (by rw [zad];omega)) (zbj (hm'.ok _ (List.mem_cons_self ..))) (fun q hq=>zeS hq (zaB (hm'.ok (BR8 Aa ca 1 (leB ((x.name.size:Int)).toNat 1)) (by simp))) (zbL (hm'.ok (.blk nB no) (by simp)) hno) (zaB (hm'.ok (BR8 Ab cb 8 (leB (x.l1).toNat 8)) (by simp))) (zaB (hm'.ok (BR8 Ac cc 4 (leB (x.l1len).toNat 4)) (by simp))) (zaB (hm'.ok (BR8 Ad cd 8 (leB (x.size).toNat 8)) (by simp))))) ?_⟩
     rw [hsb]
     rintro e m' ⟨gA,gc,rfl,rfl⟩
     refine gGt ?_
     exact⟨(gA,gc),trivial,⟨rfl,trivial⟩,SubM.sl⟩
   ·conv=>whnf
    refine⟨?_,trivial⟩
    conv=>whnf
    refine zdf zaa rfl rfl rfl rfl rfl rfl (fun nB ncap no hno=>?_)
    conv=>whnf
    refine gGs ?_
    conv=>whnf
    refine⟨?_,trivial⟩
    conv=>whnf
    refine⟨zai,zac (m1:=[]) .nil (fun w' hm'=>zap (x.l1) 8 w' (by omega) (by omega) (by rw [show (256:Nat) ^ 8=18446744073709551616 from by decide];omega)) ?_⟩
    rintro e m' ⟨Ab,cb,rfl,rfl⟩
    conv=>whnf
    refine gGs ?_
    conv=>whnf
    refine⟨?_,trivial⟩
    conv=>whnf
    refine⟨zai,zac (m1:=[]) .nil (fun w' hm'=>zap (x.l1len) 4 w' (by omega) (by omega) (by rw [show (256:Nat) ^ 4=4294967296 from by decide];omega)) ?_⟩
    rintro e m' ⟨Ac,cc,rfl,rfl⟩
    conv=>whnf
    refine gGs ?_
    conv=>whnf
    refine⟨?_,trivial⟩
    conv=>whnf
    refine⟨zai,zac (m1:=[]) .nil (fun w' hm'=>zap (x.size) 8 w' (by omega) (by omega) (by rw [show (256:Nat) ^ 8=18446744073709551616 from by decide];omega)) ?_⟩
    rintro e m' ⟨Ad,cd,rfl,rfl⟩
    conv=>whnf
    refine gGs ?_
    conv=>whnf
    refine⟨?_,trivial⟩
    conv=>whnf
    intro pB
    conv=>whnf
    refine gGs ?_
    conv=>whnf
    refine⟨?_,trivial⟩
    conv=>whnf
    have hsb:prtB [⟨Aa,ca,leB ((x.name.size:Int)).toNat 1⟩,⟨some ⟨nB,0,none⟩,ncap,x.name.data.toList⟩,⟨Ab,cb,leB (x.l1).toNat 8⟩,⟨Ac,cc,leB (x.l1len).toNat 4⟩,⟨Ad,cd,leB (x.size).toNat 8⟩]=zan x:=by unfold prtB zan;simp
    refine⟨zbk,zac (m1:=[]) .nil (fun w' hm'=>zct [⟨Aa,ca,leB ((x.name.size:Int)).toNat 1⟩,⟨some ⟨nB,0,none⟩,ncap,x.name.data.toList⟩,⟨Ab,cb,leB (x.l1).toNat 8⟩,⟨Ac,cc,leB (x.l1len).toNat 4⟩,⟨Ad,cd,leB (x.size).toNat 8⟩] pB 5 w' (by show 5≤100;omega) (fun q hq=>zd2 hq (by rw [zad];omega) (by show x.name.size≤1000000;omega) (by rw [zad];omega) (by rw [zad];omega) (by rw [zad];omega)) (zbj (hm'.ok _ (List.mem_cons_self ..))) (fun q hq=>zeS hq (zaB (hm'.ok (BR8 Aa ca 1 (leB ((x.name.size:Int)).toNat 1)) (by simp))) (zbL (hm'.ok (.blk nB no) (by simp)) hno) (zaB (hm'.ok (BR8 Ab cb 8 (leB (x.l1).toNat 8)) (by simp))) (zaB (hm'.ok (BR8 Ac cc 4 (leB (x.l1len).toNat 4)) (by simp))) (zaB (hm'.ok (BR8 Ad cd 8 (leB (x.size).toNat 8)) (by simp))))) ?_⟩
    rw [hsb]
    rintro e m' ⟨gA,gc,rfl,rfl⟩
    refine gGt ?_
    exact⟨(gA,gc),trivial,⟨rfl,trivial⟩,SubM.sl⟩
  ·conv=>whnf
   refine⟨?_,trivial⟩
   conv=>whnf
   refine zdf zaa rfl rfl rfl rfl rfl rfl (fun nB ncap no hno=>?_)
   conv=>whnf
   refine gGs ?_
   conv=>whnf
   refine⟨?_,trivial⟩
   conv=>whnf
   refine⟨zai,zac (m1:=[]) .nil (fun w' hm'=>zap ((x.name.size:Int)) 1 w' (by omega) (by omega) (by rw [show (256:Nat) ^ 1=256 from by decide];omega)) ?_⟩
   rintro e m' ⟨Aa,ca,rfl,rfl⟩
   conv=>whnf
   refine gGs ?_
   conv=>whnf
   refine⟨?_,trivial⟩
   conv=>whnf
   refine⟨zai,zac (m1:=[]) .nil (fun w' hm'=>zap (x.l1) 8 w' (by omega) (by omega) (by rw [show (256:Nat) ^ 8=18446744073709551616 from by decide];omega)) ?_⟩
   rintro e m' ⟨Ab,cb,rfl,rfl⟩
   conv=>whnf
   refine gGs ?_
   conv=>whnf
   refine⟨?_,trivial⟩
   conv=>whnf
   refine⟨zai,zac (m1:=[]) .nil (fun w' hm'=>zap (x.l1len) 4 w' (by omega) (by omega) (by rw [show (256:Nat) ^ 4=4294967296 from by decide];omega)) ?_⟩
   rintro e m' ⟨Ac,cc,rfl,rfl⟩
   conv=>whnf
   refine gGs ?_
   conv=>whnf
   refine⟨?_,trivial⟩
   conv=>whnf
   refine⟨zai,zac (m1:=[]) .nil (fun w' hm'=>zap (x.size) 8 w' (by omega) (by omega) (by rw [show (256:Nat) ^ 8=18446744073709551616 from by decide];omega)) ?_⟩
   rintro e m' ⟨Ad,cd,rfl,rfl⟩
   conv=>whnf
   refine gGs ?_
   conv=>whnf
   refine⟨?_,trivial⟩
   conv=>whnf
   intro pB
   conv=>whnf
   refine gGs ?_
   conv=>whnf
   refine⟨?_,trivial⟩
   conv=>whnf
   have hsb:prtB [⟨Aa,ca,leB ((x.name.size:Int)).toNat 1⟩,⟨some ⟨nB,0,none⟩,ncap,x.name.data.toList⟩,⟨Ab,cb,leB (x.l1).toNat 8⟩,⟨Ac,cc,leB (x.l1len).toNat 4⟩,⟨Ad,cd,leB (x.size).toNat 8⟩]=zan x:=by unfold prtB zan;simp
   refine⟨zbk,zac (m1:=[]) .nil (fun w' hm'=>zct [⟨Aa,ca,leB ((x.name.size:Int)).toNat 1⟩,⟨some ⟨nB,0,none⟩,ncap,x.name.data.toList⟩,⟨Ab,cb,leB (x.l1).toNat 8⟩,⟨Ac,cc,leB (x.l1len).toNat 4⟩,⟨Ad,cd,leB (x.size).toNat 8⟩] pB 5 w' (by show 5≤100;omega) (fun q hq=>zd2 hq (by rw [zad];omega) (by show x.name.size≤1000000;omega) (by rw [zad];omega) (by rw [zad];omega) (by rw [zad];omega)) (zbj (hm'.ok _ (List.mem_cons_self ..))) (fun q hq=>zeS hq (zaB (hm'.ok (BR8 Aa ca 1 (leB ((x.name.size:Int)).toNat 1)) (by simp))) (zbL (hm'.ok (.blk nB no) (by simp)) hno) (zaB (hm'.ok (BR8 Ab cb 8 (leB (x.l1).toNat 8)) (by simp))) (zaB (hm'.ok (BR8 Ac cc 4 (leB (x.l1len).toNat 4)) (by simp))) (zaB (hm'.ok (BR8 Ad cd 8 (leB (x.size).toNat 8)) (by simp))))) ?_⟩
   rw [hsb]
   rintro e m' ⟨gA,gc,rfl,rfl⟩
   refine gGt ?_
   exact⟨(gA,gc),trivial,⟨rfl,trivial⟩,SubM.sl⟩
 ·rintro ⟨gA,gc⟩ -
  refine gGw ?_
  exact fin1 rfl rfl (fun w' hm=>⟨_,⟨_,_,rfl,rfl⟩,hm⟩)
end Go.Proofs.YtlmgelmloddfgaaGreat
namespace Go.Proofs.YtlmgelmloddfgaaGreat
open Go Go.RowKit Eng
theorem zd3 {w:World} {p0:Prt} {p1:Prt} {p2:Prt} {p3:Prt} {p4:Prt} {p5:Prt} {q:Prt} (hq:q∈[p0,p1,p2,p3,p4,p5]) (h0:BytsIn w p0.A p0.bs) (h1:BytsIn w p1.A p1.bs) (h2:BytsIn w p2.A p2.bs) (h3:BytsIn w p3.A p3.bs) (h4:BytsIn w p4.A p4.bs) (h5:BytsIn w p5.A p5.bs):BytsIn w q.A q.bs:=by
 simp only [List.mem_cons,List.not_mem_nil,or_false] at hq
 rcases hq with rfl|rfl|rfl|rfl|rfl|rfl<;>assumption
theorem zdb {p0:Prt} {p1:Prt} {p2:Prt} {p3:Prt} {p4:Prt} {p5:Prt} {q:Prt} (hq:q∈[p0,p1,p2,p3,p4,p5]) (h0:p0.bs.length≤1000000) (h1:p1.bs.length≤1000000) (h2:p2.bs.length≤1000000) (h3:p3.bs.length≤1000000) (h4:p4.bs.length≤1000000) (h5:p5.bs.length≤1000000):q.bs.length≤1000000:=by
 simp only [List.mem_cons,List.not_mem_nil,or_false] at hq
 rcases hq with rfl|rfl|rfl|rfl|rfl|rfl<;>assumption
attribute [local irreducible] Br Rn RnU Cl RdG CpG Ld Rd Lp Dr Oth Cut fin Fits Eng.Enters Md NA
theorem zlq:Eng.Enters Tryz.prog 184:=zab fun _ _=>by kernel_rfl
def zal (x:Rwp):List UInt8:=leB (x.name.size:Int).toNat 1++(x.name.data.toList++(leB x.gran.toNat 1++(leB x.flags.toNat 1++(leB x.at_.toNat 8++leB x.len.toNat 4))))
set_option maxHeartbeats 4000000 in
theorem zqR (x:Rwp) (w:World) (hn:x.name.size≤64) (h1:0≤x.gran∧x.gran≤31) (h2:0≤x.flags∧x.flags≤3) (h3:0≤x.at_∧x.at_≤268435456) (h4:0≤x.len∧x.len≤16777216) :
  Ctr Tryz.prog 184 [.agg x.cells.toArray] [] (fun e m'=>∃ A c,e=.returned (.slice A (zal x).length c)∧m'=[BR8 A c (zal x).length (zal x)]) w:=by
 refine enter (cx:=CXS 24 [] w (Foot [])) [(0,.agg x.cells.toArray)] zaa Tryz.func184 rfl rfl rfl rfl (MemOk.nil w _) ?_
 refine gGw ?_;(repeat ((first|refine .mk fun Ap capp=>?_|intro _);(conv=>whnf);refine gG0 ?_))
 rename_i xB
 refine zbc (γ:=Option Addr × Nat) (Tr.hs [0,1,2,4,5,7,8,10,11,13,14,16,17] (.alts 3 (.alts 9 (.alts 12 (.alts 15 (.alts 18 (.sq [6,19,20] (.hs [21] .done)) (.alts 6 (.sq [18,19,20] (.hs [21] .done)) .stop)) (.alts 6 (.sq [15,18,19,20] (.hs [21] .done)) .stop)) (.alts 6 (.sq [12,15,18,19,20] (.hs [21] .done)) .stop)) (.alts 6 (.sq [9,12,15,18,19,20] (.hs [21] .done)) .stop)) (.alts 6 (.sq [3,9,12,15,18,19,20] (.hs [21] .done)) .stop)))
  [.blk xB (.cells x.cells.toArray 180)] zaa mixed (by kernel_rfl) rfl (fun _=>True) (fun g=>[(2,.slice g.1 (zal x).length g.2)]) (fun g=>[BR8 g.1 g.2 (zal x).length (zal x)]) SubM.sl ?_ ?_
 ·refine gGw ?_
  refine⟨?_,?_⟩
  ·conv=>whnf
   refine⟨zai,zac (m1:=[]) .nil (fun w' hm'=>zap ((x.name.size:Int)) 1 w' (by omega) (by omega) (by rw [show (256:Nat) ^ 1=256 from by decide];omega)) ?_⟩
   rintro e m' ⟨Aa,ca,rfl,rfl⟩
   conv=>whnf
   refine gGs ?_
   conv=>whnf
   refine⟨?_,?_⟩
   ·conv=>whnf
    refine⟨zai,zac (m1:=[]) .nil (fun w' hm'=>zap (x.gran) 1 w' (by omega) (by omega) (by rw [show (256:Nat) ^ 1=256 from by decide];omega)) ?_⟩
    rintro e m' ⟨Ab,cb,rfl,rfl⟩
    conv=>whnf
    refine gGs ?_
    conv=>whnf
    refine⟨?_,?_⟩
    ·conv=>whnf
     refine⟨zai,zac (m1:=[]) .nil (fun w' hm'=>zap (x.flags) 1 w' (by omega) (by omega) (by rw [show (256:Nat) ^ 1=256 from by decide];omega)) ?_⟩
     rintro e m' ⟨Ac,cc,rfl,rfl⟩
     conv=>whnf
     refine gGs ?_
     conv=>whnf
     refine⟨?_,?_⟩
     ·conv=>whnf
      refine⟨zai,zac (m1:=[]) .nil (fun w' hm'=>zap (x.at_) 8 w' (by omega) (by omega) (by rw [show (256:Nat) ^ 8=18446744073709551616 from by decide];omega)) ?_⟩
      rintro e m' ⟨Ad,cd,rfl,rfl⟩
      conv=>whnf
      refine gGs ?_
      conv=>whnf
      refine⟨?_,?_⟩
      ·conv=>whnf
       refine⟨zai,zac (m1:=[]) .nil (fun w' hm'=>zap (x.len) 4 w' (by omega) (by omega) (by rw [show (256:Nat) ^ 4=4294967296 from by decide];omega)) ?_⟩
       rintro e m' ⟨Af,cf,rfl,rfl⟩
       conv=>whnf
       refine gGs ?_
       conv=>whnf
       refine⟨?_,trivial⟩
       conv=>whnf
       refine zdf zaa rfl rfl rfl rfl rfl rfl (fun nB ncap no hno=>?_)
       conv=>whnf
       refine gGs ?_
       conv=>whnf
       refine⟨?_,trivial⟩
       conv=>whnf
       intro pB
       conv=>whnf
       refine gGs ?_
       conv=>whnf
       refine⟨?_,trivial⟩
       conv=>whnf
       have hsb:prtB [⟨Aa,ca,leB ((x.name.size:Int)).toNat 1⟩,⟨some ⟨nB,0,none⟩,ncap,x.name.data.toList⟩,⟨Ab,cb,leB (x.gran).toNat 1⟩,⟨Ac,cc,leB (x.flags).toNat 1⟩,⟨Ad,cd,leB (x.at_).toNat 8⟩,⟨Af,cf,leB (x.len).toNat 4⟩]=zal x:=by unfold prtB zal;simp
       refine⟨zbk,zac (m1:=[]) .nil (fun w' hm'=>zct [⟨Aa,ca,leB ((x.name.size:Int)).toNat 1⟩,⟨some ⟨nB,0,none⟩,ncap,x.name.data.toList⟩,⟨Ab,cb,leB (x.gran).toNat 1⟩,⟨Ac,cc,leB (x.flags).toNat 1⟩,⟨Ad,cd,leB (x.at_).toNat 8⟩,⟨Af,cf,leB (x.len).toNat 4⟩] pB 6 w' (by show 6≤100;omega) (fun q hq=>zdb hq (by rw [zad];omega) (by show x.name.size≤1000000;omega) (by rw [zad];omega) (by rw [zad];omega) (by rw [zad];omega) (by rw [zad];omega)) (zbj (hm'.ok _ (List.mem_cons_self ..))) (fun q hq=>zd3 hq (zaB (hm'.ok (BR8 Aa ca 1 (leB ((x.name.size:Int)).toNat 1)) (by simp))) (zbL (hm'.ok (.blk nB no) (by simp)) hno) (zaB (hm'.ok (BR8 Ab cb 1 (leB (x.gran).toNat 1)) (by simp))) (zaB (hm'.ok (BR8 Ac cc 1 (leB (x.flags).toNat 1)) (by simp))) (zaB (hm'.ok (BR8 Ad cd 8 (leB (x.at_).toNat 8)) (by simp))) (zaB (hm'.ok (BR8 Af cf 4 (leB (x.len).toNat 4)) (by simp))))) ?_⟩
       rw [hsb]
       rintro e m' ⟨gA,gc,rfl,rfl⟩
       refine gGt ?_
       exact⟨(gA,gc),trivial,⟨rfl,trivial⟩,SubM.sl⟩
      ·conv=>whnf
       refine⟨?_,trivial⟩
       conv=>whnf
       refine zdf zaa rfl rfl rfl rfl rfl rfl (fun nB ncap no hno=>?_)
       conv=>whnf
       refine gGs ?_
       conv=>whnf
       refine⟨?_,trivial⟩
       conv=>whnf
       refine⟨zai,zac (m1:=[]) .nil (fun w' hm'=>zap (x.len) 4 w' (by omega) (by omega) (by rw [show (256:Nat) ^ 4=4294967296 from by decide];omega)) ?_⟩
       rintro e m' ⟨Af,cf,rfl,rfl⟩
       conv=>whnf
       refine gGs ?_
       conv=>whnf
       refine⟨?_,trivial⟩
       conv=>whnf
       intro pB
       conv=>whnf
       refine gGs ?_
       conv=>whnf
       refine⟨?_,trivial⟩
       conv=>whnf
       have hsb:prtB [⟨Aa,ca,leB ((x.name.size:Int)).toNat 1⟩,⟨some ⟨nB,0,none⟩,ncap,x.name.data.toList⟩,⟨Ab,cb,leB (x.gran).toNat 1⟩,⟨Ac,cc,leB (x.flags).toNat 1⟩,⟨Ad,cd,leB (x.at_).toNat 8⟩,⟨Af,cf,leB (x.len).toNat 4⟩]=zal x:=by unfold prtB zal;simp
       refine⟨zbk,zac (m1:=[]) .nil (fun w' hm'=>zct [⟨Aa,ca,leB ((x.name.size:Int)).toNat 1⟩,⟨some ⟨nB,0,none⟩,ncap,x.name.data.toList⟩,⟨Ab,cb,leB (x.gran).toNat 1⟩,⟨Ac,cc,leB (x.flags).toNat 1⟩,⟨Ad,cd,leB (x.at_).toNat 8⟩,⟨Af,cf,leB (x.len).toNat 4⟩] pB 6 w' (by show 6≤100;omega) (fun q hq=>zdb hq (by rw [zad];omega) (by show x.name.size≤1000000;omega) (by rw [zad];omega) (by rw [zad];omega) (by rw [zad];omega) (by rw [zad];omega)) (zbj (hm'.ok _ (List.mem_cons_self ..))) (fun q hq=>zd3 hq (zaB (hm'.ok (BR8 Aa ca 1 (leB ((x.name.size:Int)).toNat 1)) (by simp))) (zbL (hm'.ok (.blk nB no) (by simp)) hno) (zaB (hm'.ok (BR8 Ab cb 1 (leB (x.gran).toNat 1)) (by simp))) (zaB (hm'.ok (BR8 Ac cc 1 (leB (x.flags).toNat 1)) (by simp))) (zaB (hm'.ok (BR8 Ad cd 8 (leB (x.at_).toNat 8)) (by simp))) (zaB (hm'.ok (BR8 Af cf 4 (leB (x.len).toNat 4)) (by simp))))) ?_⟩
       rw [hsb]
       rintro e m' ⟨gA,gc,rfl,rfl⟩
       refine gGt ?_
       exact⟨(gA,gc),trivial,⟨rfl,trivial⟩,SubM.sl⟩
     ·conv=>whnf
      refine⟨?_,trivial⟩
      conv=>whnf
      refine zdf zaa rfl rfl rfl rfl rfl rfl (fun nB ncap no hno=>?_)
      conv=>whnf
      refine gGs ?_
      conv=>whnf
      refine⟨?_,trivial⟩
      conv=>whnf
      refine⟨zai,zac (m1:=[]) .nil (fun w' hm'=>zap (x.at_) 8 w' (by omega) (by omega) (by rw [show (256:Nat) ^ 8=18446744073709551616 from by decide];omega)) ?_⟩
      rintro e m' ⟨Ad,cd,rfl,rfl⟩
      conv=>whnf
      refine gGs ?_
      conv=>whnf
      refine⟨?_,trivial⟩
      conv=>whnf
      refine⟨zai,zac (m1:=[]) .nil (fun w' hm'=>zap (x.len) 4 w' (by omega) (by omega) (by rw [show (256:Nat) ^ 4=4294967296 from by decide];omega)) ?_⟩
      rintro e m' ⟨Af,cf,rfl,rfl⟩
      conv=>whnf
      refine gGs ?_
      conv=>whnf
      refine⟨?_,trivial⟩
      conv=>whnf
      intro pB
      conv=>whnf
      refine gGs ?_
      conv=>whnf
      refine⟨?_,trivial⟩
      conv=>whnf
      have hsb:prtB [⟨Aa,ca,leB ((x.name.size:Int)).toNat 1⟩,⟨some ⟨nB,0,none⟩,ncap,x.name.data.toList⟩,⟨Ab,cb,leB (x.gran).toNat 1⟩,⟨Ac,cc,leB (x.flags).toNat 1⟩,⟨Ad,cd,leB (x.at_).toNat 8⟩,⟨Af,cf,leB (x.len).toNat 4⟩]=zal x:=by unfold prtB zal;simp
      refine⟨zbk,zac (m1:=[]) .nil (fun w' hm'=>zct [⟨Aa,ca,leB ((x.name.size:Int)).toNat 1⟩,⟨some ⟨nB,0,none⟩,ncap,x.name.data.toList⟩,⟨Ab,cb,leB (x.gran).toNat 1⟩,⟨Ac,cc,leB (x.flags).toNat 1⟩,⟨Ad,cd,leB (x.at_).toNat 8⟩,⟨Af,cf,leB (x.len).toNat 4⟩] pB 6 w' (by show 6≤100;omega) (fun q hq=>zdb hq (by rw [zad];omega) (by show x.name.size≤1000000;omega) (by rw [zad];omega) (by rw [zad];omega) (by rw [zad];omega) (by rw [zad];omega)) (zbj (hm'.ok _ (List.mem_cons_self ..))) (fun q hq=>zd3 hq (zaB (hm'.ok (BR8 Aa ca 1 (leB ((x.name.size:Int)).toNat 1)) (by simp))) (zbL (hm'.ok (.blk nB no) (by simp)) hno) (zaB (hm'.ok (BR8 Ab cb 1 (leB (x.gran).toNat 1)) (by simp))) (zaB (hm'.ok (BR8 Ac cc 1 (leB (x.flags).toNat 1)) (by simp))) (zaB (hm'.ok (BR8 Ad cd 8 (leB (x.at_).toNat 8)) (by simp))) (zaB (hm'.ok (BR8 Af cf 4 (leB (x.len).toNat 4)) (by simp))))) ?_⟩
      rw [hsb]
      rintro e m' ⟨gA,gc,rfl,rfl⟩
      refine gGt ?_
      exact⟨(gA,gc),trivial,⟨rfl,trivial⟩,SubM.sl⟩
    ·conv=>whnf
     refine⟨?_,trivial⟩
     conv=>whnf
     refine zdf zaa rfl rfl rfl rfl rfl rfl (fun nB ncap no hno=>?_)
     conv=>whnf
     refine gGs ?_
     conv=>whnf
     refine⟨?_,trivial⟩
     conv=>whnf
     refine⟨zai,zac (m1:=[]) .nil (fun w' hm'=>zap (x.flags) 1 w' (by omega) (by omega) (by rw [show (256:Nat) ^ 1=256 from by decide];omega)) ?_⟩
     rintro e m' ⟨Ac,cc,rfl,rfl⟩
     conv=>whnf
     refine gGs ?_
     conv=>whnf
     refine⟨?_,trivial⟩
     conv=>whnf
     refine⟨zai,zac (m1:=[]) .nil (fun w' hm'=>zap (x.at_) 8 w' (by omega) (by omega) (by rw [show (256:Nat) ^ 8=18446744073709551616 from by decide];omega)) ?_⟩
     rintro e m' ⟨Ad,cd,rfl,rfl⟩
     conv=>whnf
     refine gGs ?_
     conv=>whnf
     refine⟨?_,trivial⟩
     conv=>whnf
     refine⟨zai,zac (m1:=[]) .nil (fun w' hm'=>zap (x.len) 4 w' (by omega) (by omega) (by rw [show (256:Nat) ^ 4=4294967296 from by decide];omega)) ?_⟩
     rintro e m' ⟨Af,cf,rfl,rfl⟩
     conv=>whnf
     refine gGs ?_
     conv=>whnf
     refine⟨?_,trivial⟩
     conv=>whnf
     intro pB
     conv=>whnf
     refine gGs ?_
     conv=>whnf
     refine⟨?_,trivial⟩
     conv=>whnf
     have hsb:prtB [⟨Aa,ca,leB ((x.name.size:Int)).toNat 1⟩,⟨some ⟨nB,0,none⟩,ncap,x.name.data.toList⟩,⟨Ab,cb,leB (x.gran).toNat 1⟩,⟨Ac,cc,leB (x.flags).toNat 1⟩,⟨Ad,cd,leB (x.at_).toNat 8⟩,⟨Af,cf,leB (x.len).toNat 4⟩]=zal x:=by unfold prtB zal;simp
     refine⟨zbk,zac (m1:=[]) .nil (fun w' hm'=>zct [⟨Aa,ca,leB ((x.name.size:Int)).toNat 1⟩,⟨some ⟨nB,0,none⟩,ncap,x.name.data.toList⟩,⟨Ab,cb,leB (x.gran).toNat 1⟩,⟨Ac,cc,leB (x.flags).toNat 1⟩,⟨Ad,cd,leB (x.at_).toNat 8⟩,⟨Af,cf,leB (x.len).toNat 4⟩] pB 6 w' (by show 6≤100;omega) (fun q hq=>zdb hq (by rw [zad];omega) (by show x.name.size≤1000000;omega) (by rw [zad];omega) (by rw [zad];omega) (by rw [zad];omega) (by rw [zad];omega)) (zbj (hm'.ok _ (List.mem_cons_self ..))) (fun q hq=>zd3 hq (zaB (hm'.ok (BR8 Aa ca 1 (leB ((x.name.size:Int)).toNat 1)) (by simp))) (zbL (hm'.ok (.blk nB no) (by simp)) hno) (zaB (hm'.ok (BR8 Ab cb 1 (leB (x.gran).toNat 1)) (by simp))) (zaB (hm'.ok (BR8 Ac cc 1 (leB (x.flags).toNat 1)) (by simp))) (zaB (hm'.ok (BR8 Ad cd 8 (leB (x.at_).toNat 8)) (by simp))) (zaB (hm'.ok (BR8 Af cf 4 (leB (x.len).toNat 4)) (by simp))))) ?_⟩
     rw [hsb]
     rintro e m' ⟨gA,gc,rfl,rfl⟩
     refine gGt ?_
     exact⟨(gA,gc),trivial,⟨rfl,trivial⟩,SubM.sl⟩
   ·conv=>whnf
    refine⟨?_,trivial⟩
    conv=>whnf
    refine zdf zaa rfl rfl rfl rfl rfl rfl (fun nB ncap no hno=>?_)
    conv=>whnf
    refine gGs ?_
    conv=>whnf
    refine⟨?_,trivial⟩
    conv=>whnf
    refine⟨zai,zac (m1:=[]) .nil (fun w' hm'=>zap (x.gran) 1 w' (by omega) (by omega) (by rw [show (256:Nat) ^ 1=256 from by decide];omega)) ?_⟩
    rintro e m' ⟨Ab,cb,rfl,rfl⟩
    conv=>whnf
    refine gGs ?_
    conv=>whnf
    refine⟨?_,trivial⟩
    conv=>whnf
    refine⟨zai,zac (m1:=[]) .nil (fun w' hm'=>zap (x.flags) 1 w' (by omega) (by omega) (by rw [show (256:Nat) ^ 1=256 from by decide];omega)) ?_⟩
    rintro e m' ⟨Ac,cc,rfl,rfl⟩
    conv=>whnf
    refine gGs ?_
    conv=>whnf
    refine⟨?_,trivial⟩
    conv=>whnf
    refine⟨zai,zac (m1:=[]) .nil (fun w' hm'=>zap (x.at_) 8 w' (by omega) (by omega) (by rw [show (256:Nat) ^ 8=18446744073709551616 from by decide];omega)) ?_⟩
    rintro e m' ⟨Ad,cd,rfl,rfl⟩
    conv=>whnf
    refine gGs ?_
    conv=>whnf
    refine⟨?_,trivial⟩
    conv=>whnf
    refine⟨zai,zac (m1:=[]) .nil (fun w' hm'=>zap (x.len) 4 w' (by omega) (by omega) (by rw [show (256:Nat) ^ 4=4294967296 from by decide];omega)) ?_⟩
    rintro e m' ⟨Af,cf,rfl,rfl⟩
    conv=>whnf
    refine gGs ?_
    conv=>whnf
    refine⟨?_,trivial⟩
    conv=>whnf
    intro pB
    conv=>whnf
    refine gGs ?_
    conv=>whnf
    refine⟨?_,trivial⟩
    conv=>whnf
    have hsb:prtB [⟨Aa,ca,leB ((x.name.size:Int)).toNat 1⟩,⟨some ⟨nB,0,none⟩,ncap,x.name.data.toList⟩,⟨Ab,cb,leB (x.gran).toNat 1⟩,⟨Ac,cc,leB (x.flags).toNat 1⟩,⟨Ad,cd,leB (x.at_).toNat 8⟩,⟨Af,cf,leB (x.len).toNat 4⟩]=zal x:=by unfold prtB zal;simp
    refine⟨zbk,zac (m1:=[]) .nil (fun w' hm'=>zct [⟨Aa,ca,leB ((x.name.size:Int)).toNat 1⟩,⟨some ⟨nB,0,none⟩,ncap,x.name.data.toList⟩,⟨Ab,cb,leB (x.gran).toNat 1⟩,⟨Ac,cc,leB (x.flags).toNat 1⟩,⟨Ad,cd,leB (x.at_).toNat 8⟩,⟨Af,cf,leB (x.len).toNat 4⟩] pB 6 w' (by show 6≤100;omega) (fun q hq=>zdb hq (by rw [zad];omega) (by show x.name.size≤1000000;omega) (by rw [zad];omega) (by rw [zad];omega) (by rw [zad];omega) (by rw [zad];omega)) (zbj (hm'.ok _ (List.mem_cons_self ..))) (fun q hq=>zd3 hq (zaB (hm'.ok (BR8 Aa ca 1 (leB ((x.name.size:Int)).toNat 1)) (by simp))) (zbL (hm'.ok (.blk nB no) (by simp)) hno) (zaB (hm'.ok (BR8 Ab cb 1 (leB (x.gran).toNat 1)) (by simp))) (zaB (hm'.ok (BR8 Ac cc 1 (leB (x.flags).toNat 1)) (by simp))) (zaB (hm'.ok (BR8 Ad cd 8 (leB (x.at_).toNat 8)) (by simp))) (zaB (hm'.ok (BR8 Af cf 4 (leB (x.len).toNat 4)) (by simp))))) ?_⟩
    rw [hsb]
    rintro e m' ⟨gA,gc,rfl,rfl⟩
    refine gGt ?_
    exact⟨(gA,gc),trivial,⟨rfl,trivial⟩,SubM.sl⟩
  ·conv=>whnf
   refine⟨?_,trivial⟩
   conv=>whnf
   refine zdf zaa rfl rfl rfl rfl rfl rfl (fun nB ncap no hno=>?_)
   conv=>whnf
   refine gGs ?_
   conv=>whnf
   refine⟨?_,trivial⟩
   conv=>whnf
   refine⟨zai,zac (m1:=[]) .nil (fun w' hm'=>zap ((x.name.size:Int)) 1 w' (by omega) (by omega) (by rw [show (256:Nat) ^ 1=256 from by decide];omega)) ?_⟩
   rintro e m' ⟨Aa,ca,rfl,rfl⟩
   conv=>whnf
   refine gGs ?_
   conv=>whnf
   refine⟨?_,trivial⟩
   conv=>whnf
   refine⟨zai,zac (m1:=[]) .nil (fun w' hm'=>zap (x.gran) 1 w' (by omega) (by omega) (by rw [show (256:Nat) ^ 1=256 from by decide];omega)) ?_⟩
   rintro e m' ⟨Ab,cb,rfl,rfl⟩
   conv=>whnf
   refine gGs ?_
   conv=>whnf
   refine⟨?_,trivial⟩
   conv=>whnf
   refine⟨zai,zac (m1:=[]) .nil (fun w' hm'=>zap (x.flags) 1 w' (by omega) (by omega) (by rw [show (256:Nat) ^ 1=256 from by decide];omega)) ?_⟩
   rintro e m' ⟨Ac,cc,rfl,rfl⟩
   conv=>whnf
   refine gGs ?_
   conv=>whnf
   refine⟨?_,trivial⟩
   conv=>whnf
   refine⟨zai,zac (m1:=[]) .nil (fun w' hm'=>zap (x.at_) 8 w' (by omega) (by omega) (by rw [show (256:Nat) ^ 8=18446744073709551616 from by decide];omega)) ?_⟩
   rintro e m' ⟨Ad,cd,rfl,rfl⟩
   conv=>whnf
   refine gGs ?_
   conv=>whnf
   refine⟨?_,trivial⟩
   conv=>whnf
   refine⟨zai,zac (m1:=[]) .nil (fun w' hm'=>zap (x.len) 4 w' (by omega) (by omega) (by rw [show (256:Nat) ^ 4=4294967296 from by decide];omega)) ?_⟩
   rintro e m' ⟨Af,cf,rfl,rfl⟩
   conv=>whnf
   refine gGs ?_
   conv=>whnf
   refine⟨?_,trivial⟩
   conv=>whnf
   intro pB
   conv=>whnf
   refine gGs ?_
   conv=>whnf
   refine⟨?_,trivial⟩
   conv=>whnf
   have hsb:prtB [⟨Aa,ca,leB ((x.name.size:Int)).toNat 1⟩,⟨some ⟨nB,0,none⟩,ncap,x.name.data.toList⟩,⟨Ab,cb,leB (x.gran).toNat 1⟩,⟨Ac,cc,leB (x.flags).toNat 1⟩,⟨Ad,cd,leB (x.at_).toNat 8⟩,⟨Af,cf,leB (x.len).toNat 4⟩]=zal x:=by unfold prtB zal;simp
   refine⟨zbk,zac (m1:=[]) .nil (fun w' hm'=>zct [⟨Aa,ca,leB ((x.name.size:Int)).toNat 1⟩,⟨some ⟨nB,0,none⟩,ncap,x.name.data.toList⟩,⟨Ab,cb,leB (x.gran).toNat 1⟩,⟨Ac,cc,leB (x.flags).toNat 1⟩,⟨Ad,cd,leB (x.at_).toNat 8⟩,⟨Af,cf,leB (x.len).toNat 4⟩] pB 6 w' (by show 6≤100;omega) (fun q hq=>zdb hq (by rw [zad];omega) (by show x.name.size≤1000000;omega) (by rw [zad];omega) (by rw [zad];omega) (by rw [zad];omega) (by rw [zad];omega)) (zbj (hm'.ok _ (List.mem_cons_self ..))) (fun q hq=>zd3 hq (zaB (hm'.ok (BR8 Aa ca 1 (leB ((x.name.size:Int)).toNat 1)) (by simp))) (zbL (hm'.ok (.blk nB no) (by simp)) hno) (zaB (hm'.ok (BR8 Ab cb 1 (leB (x.gran).toNat 1)) (by simp))) (zaB (hm'.ok (BR8 Ac cc 1 (leB (x.flags).toNat 1)) (by simp))) (zaB (hm'.ok (BR8 Ad cd 8 (leB (x.at_).toNat 8)) (by simp))) (zaB (hm'.ok (BR8 Af cf 4 (leB (x.len).toNat 4)) (by simp))))) ?_⟩
   rw [hsb]
   rintro e m' ⟨gA,gc,rfl,rfl⟩
   refine gGt ?_
   exact⟨(gA,gc),trivial,⟨rfl,trivial⟩,SubM.sl⟩
 ·rintro ⟨gA,gc⟩ -
  refine gGw ?_
  exact fin1 rfl rfl (fun w' hm=>⟨_,⟨_,_,rfl,rfl⟩,hm⟩)
end Go.Proofs.YtlmgelmloddfgaaGreat
namespace Go.Proofs.YtlmgelmloddfgaaGreat
open Go Go.RowKit Eng
theorem KeyT.of_str {P:Program} {kt:Nat} (hd:P.underlying kt=some .string):KeyT P kt Value.string:=by
 have hk:∀ a,MapKept.IsKey .string (.string a):=fun a=>by simp [MapKept.IsKey]
 refine⟨fun w em k=>MapKept.run_checkKey hd (hk k) em 9999,fun w x es ks h=>?_,fun w k=>MapKept.run_keyThatStays (hk k)⟩
 have hks:∀ e∈es,MapKept.IsKey .string e.key:=fun e he=>by
  have:e.key∈ks.map Value.string:=by rw [← h];exact List.mem_map.2 ⟨e,he,rfl⟩
  obtain ⟨k,_,hk'⟩:=List.mem_map.1 this
  rw [← hk'];exact hk k
 have hat:∀ (j:Nat) (e:MapEntry),es[j]?=some e→∃ k,ks[j]?=some k∧e.key=.string k:=fun j e he=>by
  have:=congrArg (·[j]?) h
  simp only [List.getElem?_map,he,Option.map_some] at this
  cases hj:ks[j]? with
  | none=>rw [hj] at this;simp at this
  | some k=>rw [hj] at this;simp at this;exact⟨k,rfl,this⟩
 rcases MapKept.findNow_spec (hk x) es 0 hks with ⟨h1,h2⟩|⟨j,e,h1,h2,h3⟩
 ·refine .inl ⟨by simp [Instr.findKey,run_underlying hd,h1],fun hx=>?_⟩
  obtain ⟨j,hj,hj2⟩:=List.mem_iff_getElem.1 hx
  have hlen:es.length=ks.length:=by simpa using congrArg List.length h
  obtain ⟨k,hk1,hk2⟩:=hat j es[j] (List.getElem?_eq_getElem (by omega))
  rw [List.getElem?_eq_getElem hj,hj2] at hk1
  cases hk1
  exact h2 _ (List.getElem_mem _) hk2
 ·obtain ⟨k,hk1,hk2⟩:=hat j e h2
  rw [hk2] at h3
  cases h3
  exact .inr ⟨j,e,by simp [Instr.findKey,run_underlying hd,h1],h2,hk1⟩
theorem u_str:Tryz.prog.underlying 9=some .string:=by kernel_rfl
theorem zgF:KeyT Tryz.prog 9 Value.string:=KeyT.of_str u_str
theorem zjh:Tryz.prog.underlying 308=some (.map 9 3):=by kernel_rfl
theorem zrD {seen:List ByteArray} {n:ByteArray} (h:n∈seen):mget (seen.map fun x=>(x,(1:Int))) n=some 1:=by
 induction seen with
 | nil=>cases h
 | cons a t ih =>
  rw [List.map_cons,mget]
  split
  ·rfl
  ·rename_i hne
   rcases List.mem_cons.1 h with rfl|h
   ·exact absurd rfl hne
   ·exact ih h
theorem zon {seen:List ByteArray} {n:ByteArray} (h:n ∉ seen):mget (seen.map fun x=>(x,(1:Int))) n=none:=by
 induction seen with
 | nil=>rfl
 | cons a t ih =>
  rw [List.map_cons,mget,if_neg (fun he=>h (by rw [show n=a from he.symm];exact List.mem_cons_self ..)),ih (fun h2=>h (List.mem_cons_of_mem _ h2))]
theorem zom {seen:List ByteArray} {n:ByteArray} (h:n ∉ seen):mset (seen.map fun x=>(x,(1:Int))) n 1=(seen++[n]).map fun x=>(x,(1:Int)):=by
 induction seen with
 | nil=>rfl
 | cons a t ih =>
  rw [List.map_cons,mset,if_neg (fun he=>h (by rw [show n=a from he.symm];exact List.mem_cons_self ..)),ih (fun h2=>h (List.mem_cons_of_mem _ h2))]
  rfl
theorem zfB (l:List (ByteArray × Int)) (n:ByteArray) (v:Int):mget (mset l n v) n=some v:=by
 rw [zbK,if_pos rfl]
end Go.Proofs.YtlmgelmloddfgaaGreat
namespace Go.Proofs.YtlmgelmloddfgaaGreat
open Go Go.RowKit Eng
def zcx (seen:List ByteArray) (n:ByteArray):Bool:=seen.all fun y=>!decide (y=n)
theorem freshB_iff {seen:List ByteArray} {n:ByteArray}:zcx seen n=true↔n ∉ seen:=by
 unfold zcx
 rw [List.all_eq_true]
 constructor
 ·intro h hm
  have:=h n hm
  simp at this
 ·intro h y hy
  rw [Bool.not_eq_true',decide_eq_false_iff_not]
  rintro rfl;exact h hy
def RowIn {α:Type} (w:World) (A:Option Addr) (L:List α) (f:α→List Value) (k:Nat):Prop:=∀ i x,L[i]?=some x→∃ b,A=some ⟨b,0,none⟩∧∀ j v,(f x)[j]?=some v→w.cell? ⟨b,i*k+j,none⟩=some v
theorem RowIn.of_row {α:Type} {w:World} {A:Option Addr} {cap n t k:Nat} {L:List α} {f:α→List Value} (hf:∀ x,(f x).length=k) (hk:0<k) (h:Res.ok w (.row A cap n t k (L.flatMap f))):RowIn w A L f k:=by
 intro i x hx
 have h0:0<(f x).length:=by rw [hf];exact hk
 obtain ⟨b,rfl,_⟩:=zaV h (zer hf hx (List.getElem?_eq_getElem h0))
 refine⟨b,rfl,fun j v hj=>?_⟩
 obtain ⟨b',e,hc⟩:=zaV h (zer hf hx hj)
 injection e with e;injection e with e;subst e
 exact hc
theorem zl6 {cx:Cx} (ht:TabOk cx.P cx.tab) {m:Mem} {t i k b:Nat} {ti:TyI} {fs:List (Nat × Nat)} {vs:List Value} (hs:¬ cx.S b) (hi:cx.tab.get t=some ti) (hk:ti.kind=.struct fs) (hc:ti.cells=k) (hl:vs.length=k) (h:∀ j v,vs[j]?=some v→cx.w0.cell? ⟨b,i*k+j,none⟩=some v) :
  Ld cx m t (.pointer (pl (some ⟨b,0,none⟩) (mulC (Int.toNat (i:Int)) k))) (.agg vs.toArray):=by
 have e:pl (some ⟨b,0,none⟩) (mulC (Int.toNat (i:Int)) k)=some ⟨b,i*k,none⟩:=by
  rw [zcD,Int.toNat_natCast]
  show some (Addr.mk b (0+i*k) none)=_
  rw [Nat.zero_add]
 rw [e]
 exact ldFN ht (fun j v hj=>by rw [Addr.add_lit];exact h j v hj) hs hi hk (by rw [hl,hc])
attribute [local irreducible] Br Rn RnU Cl RdG CpG Ld Rd Lp Dr Oth Cut fin Fits Eng.Enters Md NA
theorem zdo {α:Type} {f:α→List UInt8} {k:Nat}:∀ {L:List α},(∀ x∈L,(f x).length≤k)→(L.flatMap f).length≤L.length*k
 | [],_=>by simp
 | x::r,h=>by
  have h1:=h x (List.mem_cons_self ..)
  have h2:=zdo (L:=r) (fun y hy=>h y (List.mem_cons_of_mem _ hy))
  rw [List.flatMap_cons,List.length_append,List.length_cons,Nat.add_mul]
  omega
theorem zcn {x:Snp} {bits:Int} (h:zhU x bits=true):x.name.size≤64∧(0≤x.l1∧x.l1≤268435456)∧(0≤x.l1len∧x.l1len≤1048576)∧(0≤x.size∧x.size≤67108864):=by
 unfold zhU zcR at h
 simp only [Bool.and_eq_true,Bool.or_eq_true,decide_eq_true_eq,zgQ] at h
 omega
theorem zeG (x:Snp):(zan x).length=21+x.name.size:=by
 unfold zan
 simp only [List.length_append,zad,Array.length_toList]
 have:x.name.data.size=x.name.size:=rfl
 omega
def zbY (bits:Int):List ByteArray→List Snp→Bool
 | _,[]=>true
 | seen,x::r=>zhU x bits&&zcx seen x.name&&zbY bits (seen++[x.name]) r
theorem zdl {bits:Int}:∀ {seen:List ByteArray} {L:List Snp},zbY bits seen L=true→∀ x∈L,zhU x bits=true
 | _,[],_,x,hx=>by cases hx
 | seen,y::r,h,x,hx=>by
  rw [zbY] at h
  simp only [Bool.and_eq_true] at h
  rcases List.mem_cons.1 hx with rfl|hx
  ·exact h.1.1
  ·exact zdl h.2 x hx
def zb4 (bits:Int) (L:List Snp):Except Int (List UInt8):=if zbY bits [] L then (if 64<L.length then .error 3 else .ok (L.flatMap zan)) else .error 2
def zld (R:Except Int (List UInt8)) (e:Ending) (m':Mem):Prop :=
 (∃ n,R=.error n∧n≠0∧e=.returned (.tuple #[.slice none 0 0,.int .i64 n])∧m'=[]) ∨
 ∃ bs A c,R=.ok bs∧e=.returned (.tuple #[.slice A bs.length c,.int .i64 0])∧m'=[BR8 A c bs.length bs]
theorem zf3:Eng.Enters Tryz.prog 178:=zab fun _ _=>by kernel_rfl
theorem zj2:Eng.Enters Tryz.prog 177:=zab fun _ _=>by kernel_rfl
theorem zj1:Eng.Enters Tryz.prog 140:=zab fun _ _=>by kernel_rfl
theorem zjj (x:Snp) (w:World):Calls Tryz.prog 178 #[.agg x.cells.toArray] w fun e w'=>e=.returned (.string x.name)∧Fr (fun _=>False) w w':=by
 refine enter (cx:=CX 5 [] w) [(0,.agg x.cells.toArray)] zaa Tryz.func178 rfl rfl rfl rfl (MemOk.nil w _) ?_
 refine gGw ?_;(repeat ((first|refine .mk fun Ap capp=>?_|intro _);(conv=>whnf);refine gG0 ?_))
 exact fin1 rfl rfl (fun w' hm=>⟨rfl,hm.fr⟩)
set_option maxHeartbeats 4000000 in
theorem zpa (bits:Int) (L:List Snp) (lA:Option Addr) (lc:Nat) (w:World) (hb:9≤bits∧bits≤16) (hL:L.length≤100000) (hrow:RowIn w lA L Snp.cells 4) :
  Ctr Tryz.prog 177 [.int .i64 bits,.int .i64 64,.slice lA L.length lc,.func (.func 178) #[] #[],.func (.func 179) #[] #[],.func (.func 180) #[] #[]] [] (zld (zb4 bits L)) w:=by
 refine enter (cx:=CXS 70 [] w (Foot [])) [(0,.int .i64 bits),(1,.int .i64 64),(2,.slice lA L.length lc),(3,.func (.func 178) #[] #[]),(4,.func (.func 179) #[] #[]),(5,.func (.func 180) #[] #[])] zaa Tryz.func177 rfl rfl rfl rfl (MemOk.nil w _) ?_
 generalize hR:zb4 bits L=R
 unfold zb4 at hR
 refine gGw ?_
 refine br_f (by rw [decide_eq_false (by omega),decide_eq_false (by omega)];rfl) ?_
 refine gGw ?_;(repeat ((first|refine .mk fun Ap capp=>?_|intro _);(conv=>whnf);refine gG0 ?_))
 rename_i mB
 refine lp zaa (γ:=Nat × Array MapEntry × Nat) (fun g=>g.1≤L.length∧MapIs Value.string (Value.int .i64) g.2.1 g.2.2 (((L.take g.1).map (·.name)).map fun x=>(x,(1:Int)))∧zbY bits [] L=zbY bits ((L.take g.1).map (·.name)) (L.drop g.1))
  (fun g=>[(29,.int .i64 (g.1:Int)),(28,.int .i64 (L.length:Int)),(27,.slice lA L.length lc),(14,.map (some mB)),(0,.int .i64 bits),(1,.int .i64 64),(2,.slice lA L.length lc),(3,.func (.func 178) #[] #[]),(4,.func (.func 179) #[] #[]),(5,.func (.func 180) #[] #[]),(15,.slice none 0 0)])
  (fun g=>[.blk mB (.map g.2.1 g.2.2)]) (fun g=>L.length-g.1) (0,#[],0) ⟨Nat.zero_le _,MapIs.nil _ _,rfl⟩ ⟨rfl,rfl,rfl,rfl,rfl,rfl,rfl,rfl,rfl,rfl,rfl,trivial⟩ (SubM.refl _ _) ?_
 rintro ⟨i,es,ck⟩ ⟨hi,hM,hG⟩
 simp only at hi hM hG
 dsimp only
 conv=>whnf
 refine br_d (fun hlt=>?_) (fun hge=>?_)
 ·have hi':i<L.length:=by omega
  have hpi:=List.getElem?_eq_getElem hi'
  have hdrop:L.drop i=L[i]::L.drop (i+1):=List.drop_eq_getElem_cons hi'
  have htake:(L.take (i+1)).map (·.name)=(L.take i).map (·.name)++[L[i].name]:=by rw [List.take_succ_eq_append_getElem hi',List.map_append];rfl
  obtain ⟨b,hbA,hcell⟩:=hrow i _ hpi
  generalize L[i]=x at hpi hdrop htake hcell
  rw [hdrop,zbY] at hG
  generalize (L.take i).map (·.name)=seen at hM hG htake
  refine gGw ?_
  rw [hbA]
  refine And.intro ⟨by omega,by omega,Pl.mk _ _⟩ ?_
  conv=>whnf
  refine zaj (zl6 (k:=4) zaa (zao _) rfl rfl rfl rfl hcell) ?_
  refine gGw ?_;(repeat ((first|refine .mk fun Ap capp=>?_|intro _);(conv=>whnf);refine gG0 ?_))
  refine⟨zf3,zae _ (fun w' _=>zjj x w') ?_⟩
  refine gGw ?_
  refine zaF zgF zjh (0:Int) zbH (by repeat constructor) hM x.name ?_
  have hk:(mget (seen.map fun y=>(y,(1:Int))) x.name).getD 0=1-(if zcx seen x.name then 1 else 0):=by
   by_cases hf:x.name∈seen
   ·rw [zrD hf,if_neg (fun h=>freshB_iff.1 h hf)];rfl
   ·rw [zon hf,if_pos (freshB_iff.2 hf)];rfl
  have hk2:0≤(1:Int)-(if zcx seen x.name then 1 else 0)∧(1:Int)-(if zcx seen x.name then 1 else 0)≤1:=by split<;>omega
  refine gGw ?_
  rw [hk]
  refine zci (enc:=Value.string) (encV:=Value.int .i64) zgF zjh (by repeat constructor) hM x.name ((1:Int)-(if zcx seen x.name then 1 else 0)+1) (fun es2 ck2 hM2=>⟨_,(by repeat constructor),?_⟩)
  refine gGw ?_
  refine⟨zll,zae _ (fun w' _=>zqO x bits w' hb) ?_⟩
  refine gGw ?_
  refine br_n (br (fun hmay=>?_) (fun hmay=>?_))
  rotate_left
  ·rw [hmay,Bool.false_and,Bool.false_and] at hG
   rw [hG,if_neg (by decide)] at hR
   refine gGw ?_
   refine br_t rfl ?_
   refine gGw ?_
   exact fin2 rfl rfl rfl (fun w' hm=>⟨_,.inl ⟨2,hR.symm,by decide,rfl,rfl⟩,hm.sublist (List.nil_sublist _)⟩)
  rw [hmay,Bool.true_and] at hG
  refine gGw ?_
  refine⟨zf3,zae _ (fun w' _=>zjj x w') ?_⟩
  refine gGw ?_
  refine zaF zgF zjh (0:Int) zbH (by repeat constructor) hM2 x.name ?_
  rw [zfB,Option.getD_some]
  refine gGw ?_
  by_cases hfr:zcx seen x.name=true
  rotate_left
  ·rw [if_neg hfr]
   rw [Bool.eq_false_iff.2 hfr,Bool.false_and] at hG
   rw [hG,if_neg (by decide)] at hR
   refine br_t (by decide) ?_
   refine gGw ?_
   exact fin2 rfl rfl rfl (fun w' hm=>⟨_,.inl ⟨2,hR.symm,by decide,rfl,rfl⟩,hm.sublist (List.nil_sublist _)⟩)
  rw [if_pos hfr] at hM2 ⊢
  rw [hfr,Bool.true_and,← htake] at hG
  have hM3:=zom (freshB_iff.1 hfr)
  rw [← htake] at hM3
  rw [show (1:Int)-1+1=1 from by decide,hM3] at hM2
  refine br_f (by decide) ?_
  refine gGw ?_
  exact⟨(i+1,es2,ck2),⟨by show i+1≤L.length;omega,hM2,hG⟩,by show L.length-(i+1)<L.length-i;omega,⟨rfl,rfl,rfl,rfl,rfl,rfl,rfl,rfl,rfl,rfl,rfl,trivial⟩,SubM.sl⟩
 ·obtain rfl:i=L.length:=by omega
  rw [List.drop_length,zbY] at hG
  rw [if_pos hG] at hR
  have hall:=zdl hG
  refine gGw ?_
  refine br_d (fun h64=>?_) (fun h64=>?_)
  ·rw [if_pos (by omega)] at hR
   refine gGw ?_
   exact fin2 rfl rfl rfl (fun w' hm=>⟨_,.inl ⟨3,hR.symm,by decide,rfl,rfl⟩,hm.sublist (List.nil_sublist _)⟩)
  rw [if_neg (by omega)] at hR
  refine gGw ?_
  refine lp zaa (γ:=Nat × Option Addr × Nat) (fun g=>g.1≤L.length)
   (fun g=>[(59,.int .i64 (g.1:Int)),(58,.int .i64 (L.length:Int)),(57,.slice lA L.length lc),(15,.slice g.2.1 ((L.take g.1).flatMap zan).length g.2.2),(5,.func (.func 180) #[] #[])])
   (fun g=>[BR8 g.2.1 g.2.2 ((L.take g.1).flatMap zan).length ((L.take g.1).flatMap zan)]) (fun g=>L.length-g.1) (0,none,0) (Nat.zero_le _) ⟨rfl,rfl,rfl,rfl,rfl,trivial⟩ (SubM.row0 SubM.sl _ _) ?_
  rintro ⟨i,A,c⟩ hi
  simp only at hi
  dsimp only
  conv=>whnf
  refine br_d (fun hlt=>?_) (fun hge=>?_)
  ·have hi':i<L.length:=by omega
   have hpi:=List.getElem?_eq_getElem hi'
   have htake:(L.take (i+1)).flatMap zan=(L.take i).flatMap zan++zan L[i]:=by rw [List.take_succ_eq_append_getElem hi',List.flatMap_append];simp
   obtain ⟨b,hbA,hcell⟩:=hrow i _ hpi
   have hx:=hall _ (List.getElem_mem hi')
   have hlen:=zdo (L:=L.take i) (f:=zan) (k:=100) (fun y hy=>by have hy2:=(zcn (hall y (List.mem_of_mem_take hy))).1;rw [zeG];omega)
   have hti:(L.take i).length*100≤64*100:=Nat.mul_le_mul_right _ (by rw [List.length_take];omega)
   generalize L[i]=x at hpi htake hcell hx
   have hxl:=zeG x
   have hxn:=(zcn hx).1
   generalize (L.take i).flatMap zan=pre at htake hlen
   refine gGw ?_
   rw [hbA]
   refine And.intro ⟨by omega,by omega,Pl.mk _ _⟩ ?_
   conv=>whnf
   refine zaj (zl6 (k:=4) zaa (zao _) rfl rfl rfl rfl hcell) ?_
   refine gGw ?_;(repeat ((first|refine .mk fun Ap capp=>?_|intro _);(conv=>whnf);refine gG0 ?_))
   refine⟨zj3,zac (m1:=[]) .nil (fun w' _=>zpb x w' (zcn hx).1 (zcn hx).2.1 (zcn hx).2.2.1 (zcn hx).2.2.2) ?_⟩
   rintro e m' ⟨B,cB,rfl,rfl⟩
   conv=>whnf
   refine zen (k:=.u8) (ys:=zah (zan x)) (zag _) zaa rfl rfl rfl rfl rfl rfl (by repeat constructor) (fun w' hm'=>rowI (hm'.ok (BR8 B cB (zan x).length (zan x)) (by simp))) (by omega) (fun A1 c1=>?_)
   refine gGw ?_
   have el:(pre++zan x).length=pre.length+(zan x).length:=List.length_append
   have en:(zah (pre++zan x)).map (Value.int .u8)=(zah pre).map (.int .u8)++(zah (zan x)).map (.int .u8):=by unfold zah;simp
   refine⟨(i+1,A1,c1),by show i+1≤L.length;omega,by show L.length-(i+1)<L.length-i;omega,⟨rfl,rfl,rfl,?_,rfl,trivial⟩,?_⟩
   ·show some _=some _
    simp only [htake,el]
   ·show SubM _ _ [.row A1 c1 ((L.take (i+1)).flatMap zan).length 5 1 ((zah ((L.take (i+1)).flatMap zan)).map (.int .u8))]
    rw [htake,el,en]
    exact SubM.sl
  ·obtain rfl:i=L.length:=by omega
   rw [List.take_length] at *
   refine gGw ?_
   exact fin2 rfl rfl rfl (fun w' hm=>⟨_,.inr ⟨_,A,c,hR.symm,rfl,rfl⟩,hm.sl⟩)
theorem zo9 (bits:Int) (L:List Snp) (lA:Option Addr) (lc:Nat) (w:World) (hb:9≤bits∧bits≤16) (hL:L.length≤100000) (hrow:RowIn w lA L Snp.cells 4) :
  Ctr Tryz.prog 140 [.int .i64 bits,.slice lA L.length lc] [] (zld (zb4 bits L)) w:=by
 refine enter (cx:=CXS 11 [] w (Foot [])) [(0,.int .i64 bits),(1,.slice lA L.length lc)] zaa Tryz.func140 rfl rfl rfl rfl (MemOk.nil w _) ?_
 refine gGw ?_
 refine⟨zj2,zac (m1:=[]) .nil (fun w' hm'=>zpa bits L lA lc w' hb hL (fun i x hx=>?_)) ?_⟩
 ·obtain ⟨b,hb2,hc⟩:=hrow i x hx
  exact⟨b,hb2,fun j v hj=>hm'.far (hc j v hj) (zao _)⟩
 rintro e m' (⟨n,hn,hn0,rfl,rfl⟩|⟨bs,A,c,hn,rfl,rfl⟩)
 ·refine gGw ?_
  exact fin2 rfl rfl rfl (fun w' hm=>⟨_,.inl ⟨n,hn,hn0,rfl,rfl⟩,hm⟩)
 ·refine gGw ?_
  exact fin2 rfl rfl rfl (fun w' hm=>⟨_,.inr ⟨bs,A,c,hn,rfl,rfl⟩,hm.sl⟩)
theorem zf2:Eng.Enters Tryz.prog 139:=zab fun _ _=>by kernel_rfl
theorem zji (bits:Int) (L:List Snp) (lA:Option Addr) (lc bB:Nat) (w:World) (hb:9≤bits∧bits≤16) (hL:L.length≤100000) (hrow:RowIn w lA L Snp.cells 4) (hc:w.cell? ⟨bB,0,none⟩=some (.int .i64 bits)) :
  Ctr Tryz.prog 139 [.slice lA L.length lc,.pointer (some ⟨bB,0,none⟩)] [] (zld (zb4 bits L)) w:=by
 refine enter (cx:=CXS 10 [] w (Foot [])) [(0,.slice lA L.length lc),(1,.pointer (some ⟨bB,0,none⟩))] zaa Tryz.func139 rfl rfl rfl rfl (MemOk.nil w _) ?_
 refine gGw ?_
 refine zaj (ldF zaa hc (zao _) rfl rfl) ?_
 refine gGw ?_
 refine⟨zj1,zac (m1:=[]) .nil (fun w' hm'=>zo9 bits L lA lc w' hb hL (fun i x hx=>?_)) ?_⟩
 ·obtain ⟨b,hb2,hc⟩:=hrow i x hx
  exact⟨b,hb2,fun j v hj=>hm'.far (hc j v hj) (zao _)⟩
 rintro e m' (⟨n,hn,hn0,rfl,rfl⟩|⟨bs,A,c,hn,rfl,rfl⟩)
 ·refine gGw ?_
  exact fin2 rfl rfl rfl (fun w' hm=>⟨_,.inl ⟨n,hn,hn0,rfl,rfl⟩,hm⟩)
 ·refine gGw ?_
  exact fin2 rfl rfl rfl (fun w' hm=>⟨_,.inr ⟨bs,A,c,hn,rfl,rfl⟩,hm.sl⟩)
theorem zc1 {x:Rwp} {bits:Int} (h:rowB x bits=true):x.name.size≤64∧(0≤x.gran∧x.gran≤31)∧(0≤x.flags∧x.flags≤3)∧(0≤x.at_∧x.at_≤268435456)∧(0≤x.len∧x.len≤16777216):=by
 unfold rowB zcR at h
 simp only [Bool.and_eq_true,Bool.or_eq_true,decide_eq_true_eq,zgQ] at h
 omega
theorem zeI (x:Rwp):(zal x).length=15+x.name.size:=by
 unfold zal
 simp only [List.length_append,zad,Array.length_toList]
 have:x.name.data.size=x.name.size:=rfl
 omega
def zbZ (bits:Int):List ByteArray→List Rwp→Bool
 | _,[]=>true
 | seen,x::r=>rowB x bits&&zcx seen x.name&&zbZ bits (seen++[x.name]) r
theorem zdm {bits:Int}:∀ {seen:List ByteArray} {L:List Rwp},zbZ bits seen L=true→∀ x∈L,rowB x bits=true
 | _,[],_,x,hx=>by cases hx
 | seen,y::r,h,x,hx=>by
  rw [zbZ] at h
  simp only [Bool.and_eq_true] at h
  rcases List.mem_cons.1 hx with rfl|hx
  ·exact h.1.1
  ·exact zdm h.2 x hx
def zb5 (bits:Int) (L:List Rwp):Except Int (List UInt8):=if zbZ bits [] L then (if 64<L.length then .error 3 else .ok (L.flatMap zal)) else .error 2
def zle (R:Except Int (List UInt8)) (e:Ending) (m':Mem):Prop :=
 (∃ n,R=.error n∧n≠0∧e=.returned (.tuple #[.slice none 0 0,.int .i64 n])∧m'=[]) ∨
 ∃ bs A c,R=.ok bs∧e=.returned (.tuple #[.slice A bs.length c,.int .i64 0])∧m'=[BR8 A c bs.length bs]
theorem zha:Eng.Enters Tryz.prog 182:=zab fun _ _=>by kernel_rfl
theorem zlo:Eng.Enters Tryz.prog 181:=zab fun _ _=>by kernel_rfl
theorem zlm:Eng.Enters Tryz.prog 144:=zab fun _ _=>by kernel_rfl
theorem zlp (x:Rwp) (w:World):Calls Tryz.prog 182 #[.agg x.cells.toArray] w fun e w'=>e=.returned (.string x.name)∧Fr (fun _=>False) w w':=by
 refine enter (cx:=CX 5 [] w) [(0,.agg x.cells.toArray)] zaa Tryz.func182 rfl rfl rfl rfl (MemOk.nil w _) ?_
 refine gGw ?_;(repeat ((first|refine .mk fun Ap capp=>?_|intro _);(conv=>whnf);refine gG0 ?_))
 exact fin1 rfl rfl (fun w' hm=>⟨rfl,hm.fr⟩)
set_option maxHeartbeats 4000000 in
theorem zqQ (bits:Int) (L:List Rwp) (lA:Option Addr) (lc:Nat) (w:World) (hb:9≤bits∧bits≤16) (hL:L.length≤100000) (hrow:RowIn w lA L Rwp.cells 5) :
  Ctr Tryz.prog 181 [.int .i64 bits,.int .i64 64,.slice lA L.length lc,.func (.func 182) #[] #[],.func (.func 183) #[] #[],.func (.func 184) #[] #[]] [] (zle (zb5 bits L)) w:=by
 refine enter (cx:=CXS 70 [] w (Foot [])) [(0,.int .i64 bits),(1,.int .i64 64),(2,.slice lA L.length lc),(3,.func (.func 182) #[] #[]),(4,.func (.func 183) #[] #[]),(5,.func (.func 184) #[] #[])] zaa Tryz.func181 rfl rfl rfl rfl (MemOk.nil w _) ?_
 generalize hR:zb5 bits L=R
 unfold zb5 at hR
 refine gGw ?_
 refine br_f (by rw [decide_eq_false (by omega),decide_eq_false (by omega)];rfl) ?_
 refine gGw ?_;(repeat ((first|refine .mk fun Ap capp=>?_|intro _);(conv=>whnf);refine gG0 ?_))
 rename_i mB
 refine lp zaa (γ:=Nat × Array MapEntry × Nat) (fun g=>g.1≤L.length∧MapIs Value.string (Value.int .i64) g.2.1 g.2.2 (((L.take g.1).map (·.name)).map fun x=>(x,(1:Int)))∧zbZ bits [] L=zbZ bits ((L.take g.1).map (·.name)) (L.drop g.1))
  (fun g=>[(29,.int .i64 (g.1:Int)),(28,.int .i64 (L.length:Int)),(27,.slice lA L.length lc),(14,.map (some mB)),(0,.int .i64 bits),(1,.int .i64 64),(2,.slice lA L.length lc),(3,.func (.func 182) #[] #[]),(4,.func (.func 183) #[] #[]),(5,.func (.func 184) #[] #[]),(15,.slice none 0 0)])
  (fun g=>[.blk mB (.map g.2.1 g.2.2)]) (fun g=>L.length-g.1) (0,#[],0) ⟨Nat.zero_le _,MapIs.nil _ _,rfl⟩ ⟨rfl,rfl,rfl,rfl,rfl,rfl,rfl,rfl,rfl,rfl,rfl,trivial⟩ (SubM.refl _ _) ?_
 rintro ⟨i,es,ck⟩ ⟨hi,hM,hG⟩
 simp only at hi hM hG
 dsimp only
 conv=>whnf
 refine br_d (fun hlt=>?_) (fun hge=>?_)
 ·have hi':i<L.length:=by omega
  have hpi:=List.getElem?_eq_getElem hi'
  have hdrop:L.drop i=L[i]::L.drop (i+1):=List.drop_eq_getElem_cons hi'
  have htake:(L.take (i+1)).map (·.name)=(L.take i).map (·.name)++[L[i].name]:=by rw [List.take_succ_eq_append_getElem hi',List.map_append];rfl
  obtain ⟨b,hbA,hcell⟩:=hrow i _ hpi
  generalize L[i]=x at hpi hdrop htake hcell
  rw [hdrop,zbZ] at hG
  generalize (L.take i).map (·.name)=seen at hM hG htake
  refine gGw ?_
  rw [hbA]
  refine And.intro ⟨by omega,by omega,Pl.mk _ _⟩ ?_
  conv=>whnf
  refine zaj (zl6 (k:=5) zaa (zao _) rfl rfl rfl rfl hcell) ?_
  refine gGw ?_;(repeat ((first|refine .mk fun Ap capp=>?_|intro _);(conv=>whnf);refine gG0 ?_))
  refine⟨zha,zae _ (fun w' _=>zlp x w') ?_⟩
  refine gGw ?_
  refine zaF zgF zjh (0:Int) zbH (by repeat constructor) hM x.name ?_
  have hk:(mget (seen.map fun y=>(y,(1:Int))) x.name).getD 0=1-(if zcx seen x.name then 1 else 0):=by
   by_cases hf:x.name∈seen
   ·rw [zrD hf,if_neg (fun h=>freshB_iff.1 h hf)];rfl
   ·rw [zon hf,if_pos (freshB_iff.2 hf)];rfl
  have hk2:0≤(1:Int)-(if zcx seen x.name then 1 else 0)∧(1:Int)-(if zcx seen x.name then 1 else 0)≤1:=by split<;>omega
  refine gGw ?_
  rw [hk]
  refine zci (enc:=Value.string) (encV:=Value.int .i64) zgF zjh (by repeat constructor) hM x.name ((1:Int)-(if zcx seen x.name then 1 else 0)+1) (fun es2 ck2 hM2=>⟨_,(by repeat constructor),?_⟩)
  refine gGw ?_
  refine⟨zmC,zae _ (fun w' _=>ztQ x bits w' hb) ?_⟩
  refine gGw ?_
  refine br_n (br (fun hmay=>?_) (fun hmay=>?_))
  rotate_left
  ·rw [hmay,Bool.false_and,Bool.false_and] at hG
   rw [hG,if_neg (by decide)] at hR
   refine gGw ?_
   refine br_t rfl ?_
   refine gGw ?_
   exact fin2 rfl rfl rfl (fun w' hm=>⟨_,.inl ⟨2,hR.symm,by decide,rfl,rfl⟩,hm.sublist (List.nil_sublist _)⟩)
  rw [hmay,Bool.true_and] at hG
  refine gGw ?_
  refine⟨zha,zae _ (fun w' _=>zlp x w') ?_⟩
  refine gGw ?_
  refine zaF zgF zjh (0:Int) zbH (by repeat constructor) hM2 x.name ?_
  rw [zfB,Option.getD_some]
  refine gGw ?_
  by_cases hfr:zcx seen x.name=true
  rotate_left
  ·rw [if_neg hfr]
   rw [Bool.eq_false_iff.2 hfr,Bool.false_and] at hG
   rw [hG,if_neg (by decide)] at hR
   refine br_t (by decide) ?_
   refine gGw ?_
   exact fin2 rfl rfl rfl (fun w' hm=>⟨_,.inl ⟨2,hR.symm,by decide,rfl,rfl⟩,hm.sublist (List.nil_sublist _)⟩)
  rw [if_pos hfr] at hM2 ⊢
  rw [hfr,Bool.true_and,← htake] at hG
  have hM3:=zom (freshB_iff.1 hfr)
  rw [← htake] at hM3
  rw [show (1:Int)-1+1=1 from by decide,hM3] at hM2
  refine br_f (by decide) ?_
  refine gGw ?_
  exact⟨(i+1,es2,ck2),⟨by show i+1≤L.length;omega,hM2,hG⟩,by show L.length-(i+1)<L.length-i;omega,⟨rfl,rfl,rfl,rfl,rfl,rfl,rfl,rfl,rfl,rfl,rfl,trivial⟩,SubM.sl⟩
 ·obtain rfl:i=L.length:=by omega
  rw [List.drop_length,zbZ] at hG
  rw [if_pos hG] at hR
  have hall:=zdm hG
  refine gGw ?_
  refine br_d (fun h64=>?_) (fun h64=>?_)
  ·rw [if_pos (by omega)] at hR
   refine gGw ?_
   exact fin2 rfl rfl rfl (fun w' hm=>⟨_,.inl ⟨3,hR.symm,by decide,rfl,rfl⟩,hm.sublist (List.nil_sublist _)⟩)
  rw [if_neg (by omega)] at hR
  refine gGw ?_
  refine lp zaa (γ:=Nat × Option Addr × Nat) (fun g=>g.1≤L.length)
   (fun g=>[(59,.int .i64 (g.1:Int)),(58,.int .i64 (L.length:Int)),(57,.slice lA L.length lc),(15,.slice g.2.1 ((L.take g.1).flatMap zal).length g.2.2),(5,.func (.func 184) #[] #[])])
   (fun g=>[BR8 g.2.1 g.2.2 ((L.take g.1).flatMap zal).length ((L.take g.1).flatMap zal)]) (fun g=>L.length-g.1) (0,none,0) (Nat.zero_le _) ⟨rfl,rfl,rfl,rfl,rfl,trivial⟩ (SubM.row0 SubM.sl _ _) ?_
  rintro ⟨i,A,c⟩ hi
  simp only at hi
  dsimp only
  conv=>whnf
  refine br_d (fun hlt=>?_) (fun hge=>?_)
  ·have hi':i<L.length:=by omega
   have hpi:=List.getElem?_eq_getElem hi'
   have htake:(L.take (i+1)).flatMap zal=(L.take i).flatMap zal++zal L[i]:=by rw [List.take_succ_eq_append_getElem hi',List.flatMap_append];simp
   obtain ⟨b,hbA,hcell⟩:=hrow i _ hpi
   have hx:=hall _ (List.getElem_mem hi')
   have hlen:=zdo (L:=L.take i) (f:=zal) (k:=100) (fun y hy=>by have hy2:=(zc1 (hall y (List.mem_of_mem_take hy))).1;rw [zeI];omega)
   have hti:(L.take i).length*100≤64*100:=Nat.mul_le_mul_right _ (by rw [List.length_take];omega)
   generalize L[i]=x at hpi htake hcell hx
   have hxl:=zeI x
   have hxn:=(zc1 hx).1
   generalize (L.take i).flatMap zal=pre at htake hlen
   refine gGw ?_
   rw [hbA]
   refine And.intro ⟨by omega,by omega,Pl.mk _ _⟩ ?_
   conv=>whnf
   refine zaj (zl6 (k:=5) zaa (zao _) rfl rfl rfl rfl hcell) ?_
   refine gGw ?_;(repeat ((first|refine .mk fun Ap capp=>?_|intro _);(conv=>whnf);refine gG0 ?_))
   refine⟨zlq,zac (m1:=[]) .nil (fun w' _=>zqR x w' (zc1 hx).1 (zc1 hx).2.1 (zc1 hx).2.2.1 (zc1 hx).2.2.2.1 (zc1 hx).2.2.2.2) ?_⟩
   rintro e m' ⟨B,cB,rfl,rfl⟩
   conv=>whnf
   refine zen (k:=.u8) (ys:=zah (zal x)) (zag _) zaa rfl rfl rfl rfl rfl rfl (by repeat constructor) (fun w' hm'=>rowI (hm'.ok (BR8 B cB (zal x).length (zal x)) (by simp))) (by omega) (fun A1 c1=>?_)
   refine gGw ?_
   have el:(pre++zal x).length=pre.length+(zal x).length:=List.length_append
   have en:(zah (pre++zal x)).map (Value.int .u8)=(zah pre).map (.int .u8)++(zah (zal x)).map (.int .u8):=by unfold zah;simp
   refine⟨(i+1,A1,c1),by show i+1≤L.length;omega,by show L.length-(i+1)<L.length-i;omega,⟨rfl,rfl,rfl,?_,rfl,trivial⟩,?_⟩
   ·show some _=some _
    simp only [htake,el]
   ·show SubM _ _ [.row A1 c1 ((L.take (i+1)).flatMap zal).length 5 1 ((zah ((L.take (i+1)).flatMap zal)).map (.int .u8))]
    rw [htake,el,en]
    exact SubM.sl
  ·obtain rfl:i=L.length:=by omega
   rw [List.take_length] at *
   refine gGw ?_
   exact fin2 rfl rfl rfl (fun w' hm=>⟨_,.inr ⟨_,A,c,hR.symm,rfl,rfl⟩,hm.sl⟩)
theorem zqP (bits:Int) (L:List Rwp) (lA:Option Addr) (lc:Nat) (w:World) (hb:9≤bits∧bits≤16) (hL:L.length≤100000) (hrow:RowIn w lA L Rwp.cells 5) :
  Ctr Tryz.prog 144 [.int .i64 bits,.slice lA L.length lc] [] (zle (zb5 bits L)) w:=by
 refine enter (cx:=CXS 11 [] w (Foot [])) [(0,.int .i64 bits),(1,.slice lA L.length lc)] zaa Tryz.func144 rfl rfl rfl rfl (MemOk.nil w _) ?_
 refine gGw ?_
 refine⟨zlo,zac (m1:=[]) .nil (fun w' hm'=>zqQ bits L lA lc w' hb hL (fun i x hx=>?_)) ?_⟩
 ·obtain ⟨b,hb2,hc⟩:=hrow i x hx
  exact⟨b,hb2,fun j v hj=>hm'.far (hc j v hj) (zao _)⟩
 rintro e m' (⟨n,hn,hn0,rfl,rfl⟩|⟨bs,A,c,hn,rfl,rfl⟩)
 ·refine gGw ?_
  exact fin2 rfl rfl rfl (fun w' hm=>⟨_,.inl ⟨n,hn,hn0,rfl,rfl⟩,hm⟩)
 ·refine gGw ?_
  exact fin2 rfl rfl rfl (fun w' hm=>⟨_,.inr ⟨bs,A,c,hn,rfl,rfl⟩,hm.sl⟩)
theorem zg9:Eng.Enters Tryz.prog 143:=zab fun _ _=>by kernel_rfl
theorem zln (bits:Int) (L:List Rwp) (lA:Option Addr) (lc bB:Nat) (w:World) (hb:9≤bits∧bits≤16) (hL:L.length≤100000) (hrow:RowIn w lA L Rwp.cells 5) (hc:w.cell? ⟨bB,0,none⟩=some (.int .i64 bits)) :
  Ctr Tryz.prog 143 [.slice lA L.length lc,.pointer (some ⟨bB,0,none⟩)] [] (zle (zb5 bits L)) w:=by
 refine enter (cx:=CXS 10 [] w (Foot [])) [(0,.slice lA L.length lc),(1,.pointer (some ⟨bB,0,none⟩))] zaa Tryz.func143 rfl rfl rfl rfl (MemOk.nil w _) ?_
 refine gGw ?_
 refine zaj (ldF zaa hc (zao _) rfl rfl) ?_
 refine gGw ?_
 refine⟨zlm,zac (m1:=[]) .nil (fun w' hm'=>zqP bits L lA lc w' hb hL (fun i x hx=>?_)) ?_⟩
 ·obtain ⟨b,hb2,hc⟩:=hrow i x hx
  exact⟨b,hb2,fun j v hj=>hm'.far (hc j v hj) (zao _)⟩
 rintro e m' (⟨n,hn,hn0,rfl,rfl⟩|⟨bs,A,c,hn,rfl,rfl⟩)
 ·refine gGw ?_
  exact fin2 rfl rfl rfl (fun w' hm=>⟨_,.inl ⟨n,hn,hn0,rfl,rfl⟩,hm⟩)
 ·refine gGw ?_
  exact fin2 rfl rfl rfl (fun w' hm=>⟨_,.inr ⟨bs,A,c,hn,rfl,rfl⟩,hm.sl⟩)
end Go.Proofs.YtlmgelmloddfgaaGreat
