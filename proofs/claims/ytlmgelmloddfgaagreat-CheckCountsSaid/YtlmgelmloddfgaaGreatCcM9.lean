/- Part of a proof: contracts of the functions that the law reaches. No statement of the seat is proved here. -/
import Derived.Test.YtlmgelmloddfgaaGreatCcM8
set_option linter.unusedVariables false
set_option linter.unusedSimpArgs false
set_option linter.unusedSectionVars false
set_option maxRecDepth 100000
namespace Go.Proofs.YtlmgelmloddfgaaGreat
open Go Go.RowKit Eng
section
theorem zn5 (q:Ks) (A:Option Addr) (c:Nat):∀ N,SymC q A c N
 | 0=>fun xs a m b w hN h1 h2=>by omega
 | N+1=>zq4 q A c N (zn5 q A c N)
attribute [local irreducible] Br Rn RnU Cl RdG CpG Ld Rd Lp Dr Oth Cut fin Fits Eng.Enters Md NA
set_option maxHeartbeats 2000000 in
theorem zpo (q:Ks) (A:Option Addr) (c:Nat) (xs:List Int) (w:World) (hl:xs.length≤1048576) (hq:KsOk q xs) (hK:KIn q A c xs.length xs w) (hm:MemOk w (Foot (SoM q A c xs.length xs)) (SoM q A c xs.length xs) w) :
  Ctr Tryz.prog 238 [.slice A xs.length c,.int .i64 (xs.length:Int),q.fv] (SoM q A c xs.length xs) (fun e m'=>e=.returned (.tuple #[])∧m'=SoM q A c xs.length (zgJ q.key xs)) w:=by
 unfold zgJ
 obtain ⟨n0,hn⟩:∃ n,n=xs.length:=⟨_,rfl⟩
 rw [← hn] at hl hm hK ⊢
 refine enter (cx:=CXS 63 [] w (Foot (SoM q A c n0 xs))) [(0,.slice A n0 c),(1,.int .i64 (n0:Int)),(2,q.fv)] zaa Tryz.func238 rfl rfl rfl rfl hm ?_
 have hins:∀ (ys:List Int),ys.Perm xs→∀ (a b:Nat),b≤n0→a≤1048576→∀ w',MemOk w (Foot (SoM q A c n0 xs)) (SoM q A c n0 ys) w'→Ctr Tryz.prog 255 [.slice A n0 c,.int .i64 (a:Int),.int .i64 (b:Int),q.fv] (SoM q A c n0 ys) (fun e m'=>e=.returned (.tuple #[])∧m'=SoM q A c n0 (insF q.key ys a b)) w':=by
  intro ys hp a b hb ha w' hm'
  have hyl:ys.length=n0:=by rw [hp.length_eq,hn]
  exact hyl ▸ znq q A c ys a b w' (hq.perm hp) (KIn.row (KIn.fr hK hm'.fr)) (by omega) (by omega) ha (hyl ▸ hm'.part)
 have hsym:∀ (ys:List Int),ys.Perm xs→∀ (a m b:Nat),a<m→m<b→b≤n0→∀ w',MemOk w (Foot (SoM q A c n0 xs)) (SoM q A c n0 ys) w'→Ctr Tryz.prog 256 [.slice A n0 c,.int .i64 (a:Int),.int .i64 (m:Int),.int .i64 (b:Int),q.fv] (SoM q A c n0 ys) (fun e m'=>e=.returned (.tuple #[])∧m'=SoM q A c n0 (symF q.key a m b ys)) w':=by
  intro ys hp a m b h1 h2 h3 w' hm'
  have hyl:ys.length=n0:=by rw [hp.length_eq,hn]
  exact hyl ▸ zn5 q A c (b-a) ys a m b w' (Nat.le_refl _) h1 h2 (by omega) (by omega) (hq.perm hp) (KIn.row (KIn.fr hK hm'.fr)) (hyl ▸ hm'.part)
 refine gGw ?_
 refine lp zaa (γ:=Nat) (fun t=>20*t≤n0) (fun t=>[(8,.int .i64 ((20*t+20:Nat):Int)),(7,.int .i64 ((20*t:Nat):Int)),(6,.int .i64 20),(0,.slice A n0 c),(1,.int .i64 (n0:Int)),(2,q.fv)]) (fun t=>SoM q A c n0 (zdk q.key n0 t xs)) (fun t=>n0-20*t) 0 (by omega) ⟨rfl,rfl,rfl,rfl,rfl,rfl,trivial⟩ (SubM.refl _ _) ?_
 rintro t ht
 dsimp only
 have hp:=ze3 q.key n0 t xs (by omega)
 refine gGw ?_
 refine br_d (fun hle=>?_) (fun hgt=>?_)
 ·have eB:zdk q.key n0 (t+1) xs=insF q.key (zdk q.key n0 t xs) (20*t) (20*t+20):=rfl
  refine gGw ?_
  refine⟨zfA,zac (m1:=SoM q A c n0 (zdk q.key n0 t xs)) (by repeat constructor) (fun w' hm'=>hins _ hp (20*t) (20*t+20) (by omega) (by omega) w' hm') ?_⟩
  rintro e m' ⟨rfl,rfl⟩
  refine gGw ?_
  refine⟨t+1,by omega,by omega,⟨?_,rfl,rfl,rfl,rfl,rfl,trivial⟩,?_⟩
  ·refine congrArg (fun x:Int=>some (Value.int .i64 x)) ?_
   push_cast;omega
  ·rw [eB];exact SubM.refl _ _
 ·have ht2:t=n0/20:=by omega
  subst ht2
  refine gGw ?_
  refine⟨zfA,zac (m1:=SoM q A c n0 (zdk q.key n0 (n0/20) xs)) (by repeat constructor) (fun w' hm'=>hins _ hp (20*(n0/20)) n0 (by omega) (by omega) w' hm') ?_⟩
  rintro e m' ⟨rfl,rfl⟩
  have hp2:=(ziB q.key (zdk q.key n0 (n0/20) xs) (20*(n0/20)) n0 (by rw [hp.length_eq];omega)).trans hp
  generalize insF q.key (zdk q.key n0 (n0/20) xs) (20*(n0/20)) n0=y0 at hp2 ⊢
  clear hp
  refine gGw ?_
  refine lp zaa (γ:=Nat × List Int) (fun g=>20≤g.1∧g.1≤2*n0+20∧g.2.Perm xs∧zdc q.key n0 20 y0=zdc q.key n0 g.1 g.2) (fun g=>[(6,.int .i64 (g.1:Int)),(0,.slice A n0 c),(1,.int .i64 (n0:Int)),(2,q.fv)]) (fun g=>SoM q A c n0 g.2) (fun g=>n0-g.1) (20,y0) ⟨Nat.le_refl _,by simp only;omega,hp2,rfl⟩ ⟨rfl,rfl,rfl,rfl,trivial⟩ (SubM.refl _ _) ?_
  rintro ⟨s,ys⟩ ⟨hs,hs2,hp,he⟩
  simp only at hs hs2 hp he
  dsimp only
  have hyl:ys.length=n0:=by rw [hp.length_eq,hn]
  refine gGw ?_
  refine br_d (fun hlt=>?_) (fun hge=>?_)
  ·have eP:zdc q.key n0 s ys=zdc q.key n0 (s*2) (zkC q.key n0 s ys):=by rw [zdc,if_pos (by omega)]
   refine gGw ?_
   refine lp zaa (γ:=Nat) (fun t=>2*s*t≤n0) (fun t=>[(8,.int .i64 ((2*s*t+2*s:Nat):Int)),(7,.int .i64 ((2*s*t:Nat):Int)),(6,.int .i64 (s:Int)),(0,.slice A n0 c),(1,.int .i64 (n0:Int)),(2,q.fv)]) (fun t=>SoM q A c n0 (zeO q.key s t ys)) (fun t=>n0-2*s*t) 0 (by simp) ⟨?_,rfl,rfl,rfl,rfl,rfl,trivial⟩ (SubM.refl _ _) ?_
   ·refine congrArg (fun x:Int=>some (Value.int .i64 x)) ?_
    rw [Nat.mul_zero];push_cast;omega
   rintro t ht
   dsimp only
   have hpp:=(zfS q.key s (by omega) t ys (by rw [hyl];exact ht)).trans hp
   have hsucc:2*s*(t+1)=2*s*t+2*s:=Nat.mul_succ _ _
   refine gGw ?_
   refine br_d (fun hle=>?_) (fun hgt2=>?_)
   ·have eB:zeO q.key s (t+1) ys=symF q.key (2*s*t) (2*s*t+s) (2*s*t+2*s) (zeO q.key s t ys):=rfl
    obtain ⟨u,hu⟩:∃ u,u=2*s*t:=⟨_,rfl⟩
    rw [← hu] at ht hsucc eB hle ⊢
    have eu:((u:Nat):Int)+(s:Int)=((u+s:Nat):Int):=by push_cast;rfl
    refine gGw ?_
    rw [eu]
    refine⟨zaP,zac (m1:=SoM q A c n0 (zeO q.key s t ys)) (by repeat constructor) (fun w' hm'=>hsym _ hpp u (u+s) (u+2*s) (by omega) (by omega) (by omega) w' hm') ?_⟩
    rintro e m' ⟨rfl,rfl⟩
    refine gGw ?_
    refine⟨t+1,by omega,by omega,⟨?_,?_,rfl,rfl,rfl,rfl,trivial⟩,?_⟩
    ·refine congrArg (fun x:Int=>some (Value.int .i64 x)) ?_
     rw [hsucc];push_cast;omega
    ·rw [hsucc];rfl
    ·rw [eB];exact SubM.refl _ _
   ·have ht2:t=n0/(2*s):=by
     have h1:2*s*t≤n0:=ht
     have h2:n0<2*s*(t+1):=by rw [hsucc];omega
     exact (Nat.div_eq_of_lt_le (by rw [Nat.mul_comm];exact h1) (by rw [Nat.mul_comm];exact h2)).symm
    have eF:zkC q.key n0 s ys=if 2*s*t+s<n0 then symF q.key (2*s*t) (2*s*t+s) n0 (zeO q.key s t ys) else zeO q.key s t ys:=by
     unfold zkC;rw [ht2]
    have hpF:(zkC q.key n0 s ys).Perm xs:=by
     have:=zjE q.key s (by omega) ys
     rw [hyl] at this
     exact this.trans hp
    clear ht2
    obtain ⟨u,hu⟩:∃ u,u=2*s*t:=⟨_,rfl⟩
    rw [← hu] at ht eF hgt2 ⊢
    have eu:((u:Nat):Int)+(s:Int)=((u+s:Nat):Int):=by push_cast;rfl
    refine gGw ?_
    refine br_d (fun hm2=>?_) (fun hm2=>?_)
    ·rw [if_pos (by omega)] at eF
     refine gGw ?_
     rw [eu]
     refine⟨zaP,zac (m1:=SoM q A c n0 (zeO q.key s t ys)) (by repeat constructor) (fun w' hm'=>hsym _ hpp u (u+s) n0 (by omega) (by omega) (by omega) w' hm') ?_⟩
     rintro e m' ⟨rfl,rfl⟩
     rw [← eF]
     refine gGw ?_
     refine⟨(s*2,zkC q.key n0 s ys),⟨by simp only;omega,by simp only;omega,hpF,by rw [he,eP]⟩,by simp only;omega,⟨?_,rfl,rfl,rfl,trivial⟩,SubM.refl _ _⟩
     refine congrArg (fun x:Int=>some (Value.int .i64 x)) ?_
     push_cast;rfl
    ·rw [if_neg (by omega)] at eF
     rw [← eF]
     refine gGw ?_
     refine⟨(s*2,zkC q.key n0 s ys),⟨by simp only;omega,by simp only;omega,hpF,by rw [he,eP]⟩,by simp only;omega,⟨?_,rfl,rfl,rfl,trivial⟩,SubM.refl _ _⟩
     refine congrArg (fun x:Int=>some (Value.int .i64 x)) ?_
     push_cast;rfl
  ·have eP:zdc q.key n0 s ys=ys:=by rw [zdc,if_neg (by omega)]
   refine gGw ?_
   rw [he,eP]
   exact fin0 rfl (fun w' hm=>⟨_,⟨rfl,rfl⟩,hm⟩) (by first|exact .inl rfl|exact .inr rfl)
theorem zpp (q:Ks) (A:Option Addr) (c:Nat) (xs:List Int) (w:World) (hl:xs.length≤1048576) (hq:KsOk q xs) (hK:KIn q A c xs.length xs w) (hm:MemOk w (Foot (SoM q A c xs.length xs)) (SoM q A c xs.length xs) w) :
  Ctr Tryz.prog 220 [.slice A xs.length c,q.fv] (SoM q A c xs.length xs) (fun e m'=>e=.returned (.tuple #[])∧m'=SoM q A c xs.length (zgJ q.key xs)) w:=by
 refine enter (cx:=CXS 9 [] w (Foot (SoM q A c xs.length xs))) [(0,.slice A xs.length c),(1,q.fv)] zaa Tryz.func220 rfl rfl rfl rfl hm ?_
 refine gGw ?_
 refine⟨zkd,zac (m1:=SoM q A c xs.length xs) (by repeat constructor) (fun w' hm'=>zpo q A c xs w' hl hq (KIn.fr hK hm'.fr) hm'.part) ?_⟩
 rintro e m' ⟨rfl,rfl⟩
 refine gGw ?_
 exact fin0 rfl (fun w' hm=>⟨_,⟨rfl,rfl⟩,hm⟩) (by first|exact .inl rfl|exact .inr rfl)
end
section
def zcA (L:List Int):Nat→List Int
 | 0=>List.replicate 16 0
 | i+1=>if 0<L.getD i 0 then (zcA L i).set (L.getD i 0).toNat ((zcA L i).getD (L.getD i 0).toNat 0+1) else zcA L i
def sym0 (L:List Int):Nat→List Int
 | 0=>[]
 | i+1=>if 0<L.getD i 0 then sym0 L i++[(i:Int)] else sym0 L i
def keyL (L:List Int) (x:Int):Int:=L.getD x.toNat 0
def zdf (L:List Int):List Int:=zcA L L.length
def zct (L:List Int):List Int:=zgJ (keyL L) (sym0 L L.length)
theorem zdY (L:List Int):∀ i,(zcA L i).length=16
 | 0=>by simp [zcA]
 | i+1=>by
  rw [zcA]
  split
  ·rw [List.length_set,zdY L i]
  ·exact zdY L i
theorem zhE (L:List Int):∀ i k,0≤(zcA L i).getD k 0∧(zcA L i).getD k 0≤i
 | 0,k=>by
  have:(zcA L 0).getD k 0=0:=by
   rw [zcA,List.getD_eq_getElem?_getD,List.getElem?_replicate]
   split<;>rfl
  rw [this];omega
 | i+1,k=>by
  have h:=zhE L i k
  have h2:=zhE L i (L.getD i 0).toNat
  rw [zcA]
  split
  ·rw [List.getD_eq_getElem?_getD,List.getElem?_set]
   split
   ·split
    ·simp only [Option.getD_some];omega
    ·simp only [Option.getD_none];omega
   ·rw [← List.getD_eq_getElem?_getD];omega
  ·omega
theorem zhw (L:List Int):∀ i,(sym0 L i).length≤i
 | 0=>by simp [sym0]
 | i+1=>by
  have:=zhw L i
  rw [sym0]
  split
  ·simp;omega
  ·omega
theorem zhv (L:List Int):∀ i x,x∈sym0 L i→0≤x∧x<i
 | 0,x,h=>by cases h
 | i+1,x,h=>by
  rw [sym0] at h
  split at h
  ·rcases List.mem_append.1 h with h|h
   ·have:=zhv L i x h;omega
   ·rw [List.mem_singleton] at h;omega
  ·have:=zhv L i x h;omega
abbrev cdC (lA:Option Addr) (n lc:Nat) (many:List Int) (sA:Option Addr) (sn sc:Nat):List Value:=.slice lA n lc::(many.map (.int .i64)++[.slice sA sn sc])
structure Cd where
 B:Nat
 lA:Option Addr
 lc:Nat
 sA:Option Addr
 sc:Nat
 L:List Int
abbrev CdM (d:Cd):Mem:=[.blk d.B (.cells (cdC d.lA d.L.length d.lc (zdf d.L) d.sA (zct d.L).length d.sc).toArray 328),IR d.lA d.lc d.L.length d.L,IR d.sA d.sc (zct d.L).length (zct d.L)]
theorem ziV (lA:Option Addr) (n lc:Nat) (ms:List Int) (sA:Option Addr) (sn sc k:Nat) (hk:k<ms.length):nth (cdC lA n lc ms sA sn sc) (0+1+k)=some (.int .i64 (ms.getD k 0)):=by
 rw [zco,show 0+1+k=k+1 by omega,List.getElem?_cons_succ,List.getElem?_append_left (by simpa using hk),List.getElem?_map,List.getD_eq_getElem?_getD,List.getElem?_eq_getElem hk]
 rfl
theorem zyh (lA:Option Addr) (n lc:Nat) (ms:List Int) (sA:Option Addr) (sn sc k:Nat) (x:Int) (hk:k<ms.length):zbp (0+1+k) [.int .i64 x] (cdC lA n lc ms sA sn sc)=cdC lA n lc (ms.set k x) sA sn sc:=by
 rw [zaN _ _ _ (by simp;omega),show 0+1+k=k+1 by omega]
 simp only [cdC,List.take_succ_cons,List.map_set,List.length_singleton]
 rw [List.take_append_of_le_length (by simp;omega),show k+1+1=(k+1)+1 from rfl,List.drop_succ_cons,List.drop_append_of_le_length (by simp;omega),List.set_eq_take_append_cons_drop,if_pos (by simpa using hk)]
 simp
theorem zlb (lA:Option Addr) (n lc:Nat) (ms:List Int) (sA:Option Addr) (sn sc:Nat) (hk:ms.length=16):nth (cdC lA n lc ms sA sn sc) (0+17)=some (.slice sA sn sc):=by
 rw [zco,show 0+17=16+1 by omega,List.getElem?_cons_succ,List.getElem?_append_right (by simp;omega),List.length_map,hk]
 rfl
theorem zvl (lA:Option Addr) (n lc:Nat) (ms:List Int) (sA:Option Addr) (sn sc:Nat) (sA':Option Addr) (sn' sc':Nat) (hk:ms.length=16):zbp (0+17) [.slice sA' sn' sc'] (cdC lA n lc ms sA sn sc)=cdC lA n lc ms sA' sn' sc':=by
 rw [zaN _ _ _ (by simp;omega),show 0+17=16+1 by omega]
 simp only [cdC,List.take_succ_cons,List.length_singleton]
 rw [List.take_append_of_le_length (by simp;omega),List.take_of_length_le (by simp;omega),show 16+1+1=(16+1)+1 from rfl,List.drop_succ_cons,List.drop_of_length_le (by simp;omega)]
 simp
attribute [local irreducible] Br Rn RnU Cl RdG CpG Ld Rd Lp Dr Oth Cut fin Fits Eng.Enters Md NA
theorem zel:Eng.Enters Tryz.prog 200:=zab fun _ _=>by kernel_rfl
set_option maxHeartbeats 1000000 in
theorem zoH (L:List Int) (A:Option Addr) (c:Nat) (w:World) (hb:IntsIn .i64 w A L) (hc:zbJ L=0) (hw:za8 L≤32768) :
  Ctr Tryz.prog 200 [.slice A L.length c] [] (fun e m'=>∃ d:Cd,d.L=L∧e=.returned (.tuple #[.pointer (some ⟨d.B,0,none⟩),.int .i64 0])∧m'=CdM d) w:=by
 have hF:∀ w',Fr (Foot []) w w'→IntsIn .i64 w' A L:=fun w' hf=>Ints.in_ (IntsIn.ints (cx:=CX 0 [] w) (m:=[]) hb (fun _ h=>h)) ((MemOk.nil w _).same (hf.mono (fun k _ ⟨r,hr,_⟩=>by cases hr)))
 obtain ⟨hLv,hLl⟩:=zfi hc
 have eW:zeb L=(za8 L,0):=if_pos hc
 refine enter (cx:=CXS 62 [] w (Foot [])) [(0,.slice A L.length c)] zaa Tryz.func200 rfl rfl rfl rfl (MemOk.nil w _) ?_
 conv=>whnf
 intro lB
 refine gGw ?_
 refine⟨zea,zae _ (fun w' hm'=>zgB L A c w' (hF w' hm'.fr) (by omega)) ?_⟩
 rw [eW]
 refine gGw ?_
 refine br_n (br_t rfl ?_)
 refine gGw ?_
 refine br_f (decide_eq_false (by omega)) ?_
 refine gGw ?_
 refine⟨zgv,zac (m1:=[]) .nil (fun w' hm'=>zjR A c L w' (hF w' hm'.fr) (by omega)) ?_⟩
 rintro e m' ⟨lA,lc,rfl,rfl⟩
 refine gGw ?_;(repeat ((first|refine .mk fun Ap capp=>?_|intro _);(conv=>whnf);refine gG0 ?_))
 rename_i cB
 have h1:=fun m=>IntsIn.ints (cx:=CXS 62 [] w (Foot [])) (m:=m) hb (fun b h=>zam b h)
 refine lp zaa (γ:=Nat × Option Addr × Nat) (fun g=>g.1≤L.length) (fun g=>[(27,.int .i64 (g.1:Int)),(26,.int .i64 (L.length:Int)),(25,.slice A L.length c),(6,.pointer (some ⟨cB,0,none⟩)),(1,.pointer (some ⟨lB,0,none⟩))]) (fun g=>[.blk lB (.cells #[.slice A L.length c] 23),.blk cB (.cells (cdC lA L.length lc (zcA L g.1) g.2.1 (sym0 L g.1).length g.2.2).toArray 328),IR lA lc L.length L,IR g.2.1 g.2.2 (sym0 L g.1).length (sym0 L g.1)]) (fun g=>L.length-g.1) (0,none,0) (by simp) ⟨rfl,rfl,rfl,rfl,rfl,trivial⟩ ?_ ?_
 ·refine fun w9 hm9=>((SubM.row0 (SubM.refl _ _) 3 1) w9 hm9).perm ?_
  exact (List.perm_append_comm (l₁:=[_,_,_]) (l₂:=[_])).trans ((List.perm_append_comm (l₁:=[_]) (l₂:=[_,_])).cons _)
 rintro ⟨i,sA,sc⟩ hi
 simp only at hi
 dsimp only
 refine gGw ?_
 refine br_d (fun hlt=>?_) (fun hge=>?_)
 ·have hlt':i<L.length:=by omega
  have hpl:Pl A:=(h1 []).plain (by omega)
  have hv:=hLv _ (zbC hlt')
  have hml:=zdY L i
  have hmb:=zhE L i (L.getD i 0).toNat
  have hsl:=zhw L i
  have eM:zcA L (i+1)=if 0<L.getD i 0 then (zcA L i).set (L.getD i 0).toNat ((zcA L i).getD (L.getD i 0).toNat 0+1) else zcA L i:=rfl
  have eS:sym0 L (i+1)=if 0<L.getD i 0 then sym0 L i++[(i:Int)] else sym0 L i:=rfl
  refine gGw ?_
  refine And.intro ⟨by omega,by omega,hpl⟩ ?_
  conv=>whnf
  refine zai ((h1 _).ld zaa rfl rfl (j:=i) (by omega)) ?_
  refine gGw ?_
  generalize L.getD i 0=v at hv hmb eM eS ⊢
  refine br_d (fun hpos=>?_) (fun hz=>?_)
  ·rw [if_pos hpos] at eM eS
   generalize zcA L i=ms at hml hmb eM ⊢
   generalize sym0 L i=ss at hsl eS ⊢
   conv=>whnf
   refine zcD 9 zaa mixed (by kernel_rfl) rfl rfl ?_
   refine gGw ?_
   refine And.intro ⟨by omega,by omega,by simp [Pl,pl]⟩ ?_
   conv=>whnf
   have hn1:=ziV lA L.length lc ms sA ss.length sc v.toNat (by omega)
   refine⟨.int .i64 (ms.getD v.toNat 0),(ld1 (off:=0+1+v.toNat) zaa (by repeat constructor) rfl rfl hn1).g,?_⟩
   refine gGw ?_
   refine And.intro ⟨by omega,by omega,by simp [Pl,pl]⟩ ?_
   conv=>whnf
   have hs1:=zyh lA L.length lc ms sA ss.length sc v.toNat (ms.getD v.toNat 0+1) (by omega)
   refine zaO (b:=cB) (off:=0+1+v.toNat) zaa rfl (by repeat constructor) rfl rfl (Nat.ble_eq_true_of_le (show 0+1+v.toNat+1≤_ by simp;omega)) hs1 ?_
   have hml2:(ms.set v.toNat (ms.getD v.toNat 0+1)).length=16:=by rw [List.length_set,hml]
   clear hs1 hn1
   generalize ms.set v.toNat (ms.getD v.toNat 0+1)=ms2 at hml2 eM ⊢
   refine gGw ?_
   refine zai (ld1 (off:=0+17) zaa (by repeat constructor) rfl rfl (zlb lA L.length lc ms2 sA ss.length sc hml2)) ?_
   refine gGw ?_;(repeat ((first|refine .mk fun Ap capp=>?_|intro _);(conv=>whnf);refine gG0 ?_))
   refine zaO (b:=cB) (off:=0+17) zaa rfl (by repeat constructor) rfl rfl (Nat.ble_eq_true_of_le (show 0+17+1≤_ by simp;omega)) (zvl lA L.length lc ms2 sA ss.length sc Ap (ss.length+1) capp hml2) ?_
   refine gGw ?_
   refine⟨(i+1,Ap,capp),by simp only;omega,by simp only;omega,⟨rfl,rfl,rfl,rfl,rfl,trivial⟩,?_⟩
   show SubM _ _ [.blk lB (.cells #[.slice A L.length c] 23),.blk cB (.cells (cdC lA L.length lc (zcA L (i+1)) Ap (sym0 L (i+1)).length capp).toArray 328),IR lA lc L.length L,IR Ap capp (sym0 L (i+1)).length (sym0 L (i+1))]
   rw [eM,eS,show (ss++[(i:Int)]).length=ss.length+1 by simp]
   refine fun w9 hm9=>((SubM.row (by simp;rfl) rfl (List.sublist_cons_self _ _)) w9 hm9).perm (List.perm_append_comm (l₁:=[_]) (l₂:=[_,_,_]))
  ·rw [if_neg hz] at eM eS
   refine gGw ?_
   refine⟨(i+1,sA,sc),by simp only;omega,by simp only;omega,⟨rfl,rfl,rfl,rfl,rfl,trivial⟩,?_⟩
   show SubM _ _ [.blk lB (.cells #[.slice A L.length c] 23),.blk cB (.cells (cdC lA L.length lc (zcA L (i+1)) sA (sym0 L (i+1)).length sc).toArray 328),IR lA lc L.length L,IR sA sc (sym0 L (i+1)).length (sym0 L (i+1))]
   rw [eM,eS]
   exact SubM.refl _ _
 ·obtain rfl:i=L.length:=by omega
  have hsl:=zhw L L.length
  have hsm:=zhv L L.length
  have hml:=zdY L L.length
  have hq:KsOk ⟨lB,A,c,L⟩ (sym0 L L.length):=⟨by simp only;omega,fun x hx=>by have:=hLv x hx;omega,hsm⟩
  refine gGw ?_
  refine zai (ld1 (off:=0+17) zaa (by repeat constructor) rfl rfl (zlb lA L.length lc (zcA L L.length) sA (sym0 L L.length).length sc hml)) ?_
  refine gGw ?_
  refine⟨zkf,zac (m1:=SoM ⟨lB,A,c,L⟩ sA sc (sym0 L L.length).length (sym0 L L.length)) (by repeat constructor) (fun w' hm'=>zpp ⟨lB,A,c,L⟩ sA sc (sym0 L L.length) w' (by omega) hq (stb (cx:=CXS 62 [] w (Foot [])) hm' (fun w2 hm2=>Ints.in_ (h1 _) hm2)) hm'.part) ?_⟩
  rintro e m' ⟨rfl,rfl⟩
  refine gGw ?_
  have e1:(zct L).length=(sym0 L L.length).length:=(zeA _ _).length_eq
  refine fin2 rfl rfl rfl (fun w' hm=>⟨_,⟨⟨cB,lA,lc,sA,sc,L⟩,rfl,rfl,rfl⟩,?_⟩)
  show MemOk _ _ [.blk cB (.cells (cdC lA L.length lc (zcA L L.length) sA (zct L).length sc).toArray 328),IR lA lc L.length L,IR sA sc (zct L).length (zct L)] w'
  rw [e1]
  exact hm.tail.perm (List.perm_append_comm (l₁:=[_]) (l₂:=[_,_]))
end
section
def newE (L:List Int):Int:=if zbJ L=0 then (if 32768<za8 L then 130 else 0) else zbJ L
attribute [local irreducible] Br Rn RnU Cl RdG CpG Ld Rd Lp Dr Oth Cut fin Fits Eng.Enters Md NA
theorem zwZ (L:List Int) (A:Option Addr) (c:Nat) (w:World) (hb:IntsIn .i64 w A L) (hl:L.length≤140737488355328) (hne:newE L≠0) :
  Ctr Tryz.prog 200 [.slice A L.length c] [] (fun e m'=>e=.returned (.tuple #[.pointer none,.int .i64 (newE L)])∧m'=[]) w:=by
 have hF:∀ w',Fr (Foot []) w w'→IntsIn .i64 w' A L:=fun w' hf=>Ints.in_ (IntsIn.ints (cx:=CX 0 [] w) (m:=[]) hb (fun _ h=>h)) ((MemOk.nil w _).same (hf.mono (fun k _ ⟨r,hr,_⟩=>by cases hr)))
 refine enter (cx:=CXS 62 [] w (Foot [])) [(0,.slice A L.length c)] zaa Tryz.func200 rfl rfl rfl rfl (MemOk.nil w _) ?_
 conv=>whnf
 intro lB
 refine gGw ?_
 refine⟨zea,zae _ (fun w' hm'=>zgB L A c w' (hF w' hm'.fr) (by omega)) ?_⟩
 by_cases hc:zbJ L=0
 ·have eW:zeb L=(za8 L,0):=if_pos hc
  have eN:newE L=if 32768<za8 L then 130 else 0:=if_pos hc
  have hgt:32768<za8 L:=by
   by_cases h:32768<za8 L
   ·exact h
   ·rw [if_neg h] at eN;exact absurd eN hne
  rw [if_pos hgt] at eN
  rw [eW,eN]
  refine gGw ?_
  refine br_n (br_t rfl ?_)
  refine gGw ?_
  refine br_t (decide_eq_true (by omega)) ?_
  refine gGw ?_
  exact fin2 rfl rfl rfl (fun w' hm=>⟨_,⟨rfl,rfl⟩,hm.sublist (List.nil_sublist _)⟩)
 ·have eW:zeb L=(0,zbJ L):=if_neg hc
  have eN:newE L=zbJ L:=if_neg hc
  rw [eW,eN]
  generalize zbJ L=x at hc
  refine gGw ?_
  refine br_n (br_f (decide_eq_false hc) ?_)
  refine gGw ?_
  exact fin2 rfl rfl rfl (fun w' hm=>⟨_,⟨rfl,rfl⟩,hm.sublist (List.nil_sublist _)⟩)
end
section
def tk1 (ms:List Int) (have_:Int):Nat→Nat→Int→Int→Int→Nat→Option (Nat × Int) × Int × Int
 | 0,_,code,first,_,_=>(none,code,first)
 | f+1,n,code,first,index,v =>
  if have_<n then (none,code,first)
  else if code+(v%2:Nat)-first<ms.getD n 0 then (some (n,index+(code+(v%2:Nat))-first),0,0)
  else tk1 ms have_ f (n+1) (2*(code+(v%2:Nat))) (2*(first+ms.getD n 0)) (index+ms.getD n 0) (v/2)
def tk2 (ms:List Int):Nat→Nat→Int→Int→Int
 | 0,_,_,_=>131
 | f+1,n,code,first=>if code<first+ms.getD n 0∧0<ms.getD n 0 then 120 else tk2 ms f (n+1) (2*code) (2*(first+ms.getD n 0))
def hvqF (q:Rdr) (at_:Nat):Int:=if 8*(q.bs.length:Int)-at_<15 then 8*(q.bs.length:Int)-at_ else 15
def tkF (L:List Int) (q:Rdr) (at_:Nat):Int × Int × Nat :=
 match tk1 (zdf L) (hvqF q at_) 15 1 0 0 0 (zbS q.bs at_ 15) with
 | (some (n,i),_,_)=>((zct L).getD i.toNat 0,0,at_+n)
 | (none,code,first)=>(0,tk2 (zdf L) (15-(hvqF q at_).toNat) ((hvqF q at_).toNat+1) code first,at_)
theorem zgU {L:List Int} (h:newE L=0):zbJ L=0∧za8 L≤32768:=by
 unfold newE at h
 split at h
 ·rename_i h1
  split at h
  ·omega
  ·exact⟨h1,by omega⟩
 ·rename_i h1;exact absurd h h1
theorem zwz (l:List Int):∀ k,k<l.length→(l.set k (l.getD k 0+1)).sum=l.sum+1:=by
 induction l with
 | nil=>intro k h;simp at h
 | cons a t ih =>
  intro k h
  cases k with
  | zero=>simp;omega
  | succ k =>
   have:=ih k (by simpa using h)
   simp only [List.set_cons_succ,List.sum_cons,List.getD_cons_succ]
   omega
theorem sumS (L:List Int) (hb:∀ x∈L,0≤x∧x≤15):∀ i,i≤L.length→(zcA L i).sum=(sym0 L i).length
 | 0,_=>by rw [zcA,sym0];decide
 | i+1,h=>by
  have ih:=sumS L hb i (by omega)
  have hv:=hb _ (zbC (xs:=L) (i:=i) (by omega))
  have hl:=zdY L i
  rw [zcA,sym0]
  split
  ·rw [zwz _ _ (by omega),ih];simp
  ·exact ih
theorem zt8 (L:List Int) (hc:zbJ L=0):(zdf L).sum=(sym0 L L.length).length:=sumS L (zfi hc).1 _ (Nat.le_refl _)
theorem zni (L:List Int):∀ i,(zcA L i).getD 0 0=0
 | 0=>rfl
 | i+1=>by
  rw [zcA]
  split
  ·rw [List.getD_eq_getElem?_getD,List.getElem?_set_ne (by omega),← List.getD_eq_getElem?_getD,zni L i]
  ·exact zni L i
theorem take1:∀ ms:List Int,(ms.take 1).sum=ms.getD 0 0
 | []=>rfl
 | a::t=>by simp
theorem zq7 (ms:List Int) (k:Nat) (h:k<ms.length):(ms.take (k+1)).sum=(ms.take k).sum+ms.getD k 0:=by
 rw [List.take_succ_eq_append_getElem h,List.sum_append,List.getD_eq_getElem?_getD,List.getElem?_eq_getElem h]
 simp
theorem zq8:∀ ms:List Int,(∀ k,0≤ms.getD k 0)→0≤ms.sum
 | [],_=>by simp
 | a::t,h=>by
  have h0:=h 0
  have h1:=zq8 t (fun k=>by simpa using h (k+1))
  rw [List.getD_cons_zero] at h0
  rw [List.sum_cons];omega
theorem zxF (ms:List Int) (k:Nat) (h:∀ k,0≤ms.getD k 0):(ms.take k).sum≤ms.sum:=by
 have h1:ms.sum=(ms.take k).sum+(ms.drop k).sum:=by rw [← List.sum_append,List.take_append_drop]
 have h2:=zq8 (ms.drop k) (fun j=>by
  have:=h (k+j)
  rwa [List.getD_eq_getElem?_getD,List.getElem?_drop,← List.getD_eq_getElem?_getD])
 omega
abbrev CdX (d:Cd) (ms:List Int):Mem:=[.blk d.B (.cells (cdC d.lA d.L.length d.lc ms d.sA (zct d.L).length d.sc).toArray 328),IR d.lA d.lc d.L.length d.L,IR d.sA d.sc (zct d.L).length (zct d.L)]
theorem mask1 (v:Nat) (hv:v<32768):Go.bits .and .u64 (v:Int) 1=((v%2:Nat):Int):=by
 have h:=bits_mask .u64 64 (by decide) wraps_u64 1 (by omega) (v:Int) (by omega) (by omega)
 rw [show (2:Int) ^ 1-1=1 by decide] at h
 rw [h];omega
theorem or1 (c:Int) (b:Nat) (h0:0≤c) (h1:c%2=0) (h2:c≤65536) (hb:b<2):Go.bits .or .i64 c (b:Int)=c+(b:Int) :=
 bits_join .i64 63 (by decide) (fun n h0 h1=>IntWalk.i64_in n (by omega)) 1 c b h0 (by omega) (by omega) (by omega) (by omega) (by omega)
theorem zwI {cx:Cx} {g:Prop} {m:Mem} {s:Sem Value} {v:Value} (h:∀ w,s.run cx.P w=.ok v w):RdG cx g m s v:=fun _=>zcl h
attribute [local irreducible] Br Rn RnU Cl RdG CpG Ld Rd Lp Dr Oth Cut fin Fits Eng.Enters Md NA
theorem zeU:Eng.Enters Tryz.prog 216:=zab fun _ _=>by kernel_rfl
theorem zmh:Eng.Enters Tryz.prog 204:=zab fun _ _=>by kernel_rfl
theorem zmf:Eng.Enters Tryz.prog 234:=zab fun _ _=>by kernel_rfl
theorem eqCd (t:Nat) (a:Addr) (w:World):(zdK .eql 298 (.tmp t) (.const (.pointer none)) (.pointer (some a)) (.pointer none)).run Tryz.prog w=.ok (.bool false) w:=by kernel_rfl
set_option maxHeartbeats 1000000 in
theorem ziD (d:Cd) (q:Rdr) (at_:Nat) (w:World) (hl:q.bs.length≤20000000) (ha:at_≤8*q.bs.length) (hc:newE d.L=0) (hm:MemOk w (Foot (CdM d++RM q at_)) (CdM d++RM q at_) w) :
  Ctr Tryz.prog 216 [.pointer (some ⟨d.B,0,none⟩),.pointer (some ⟨q.B,0,none⟩)] (CdM d++RM q at_) (fun e m'=>e=.returned (.tuple #[.int .i64 (tkF d.L q at_).1,.int .i64 (tkF d.L q at_).2.1])∧m'=CdM d++RM q (tkF d.L q at_).2.2) w:=by
 refine enter (cx:=CXS 121 [] w (Foot (CdM d++RM q at_))) [(0,.pointer (some ⟨d.B,0,none⟩)),(1,.pointer (some ⟨q.B,0,none⟩))] zaa Tryz.func216 rfl rfl rfl rfl hm ?_
 refine gGw ?_
 refine zdd zaa ?_
 refine gGw ?_
 refine Rd.n (zcl fun w=>eqCd _ _ w) ?_
 refine gGw ?_
 refine⟨.bool false,zwI fun w=>eqRd _ _ w,?_⟩
 conv=>whnf
 refine br_f rfl ?_
 refine gGw ?_
 refine⟨zmh,zac (m1:=RM q at_) (by repeat constructor) (fun w' hm'=>zop q at_ 15 w' hl ha (by omega) hm'.part) ?_⟩
 rintro e m' ⟨rfl,rfl⟩
 have hv0:=zhC q.bs at_ 15
 have eH:hvqF q at_=if 8*(q.bs.length:Int)-at_<((15:Nat):Int) then 8*(q.bs.length:Int)-at_ else ((15:Nat):Int):=rfl
 rw [← eH]
 have hh:0≤hvqF q at_∧hvqF q at_≤15∧hvqF q at_≤8*(q.bs.length:Int)-at_:=by unfold hvqF;split<;>omega
 have eT:tkF d.L q at_=match tk1 (zdf d.L) (hvqF q at_) 15 1 0 0 0 (zbS q.bs at_ 15) with
  | (some (n,i),_,_)=>((zct d.L).getD i.toNat 0,0,at_+n)
  | (none,code,first)=>(0,tk2 (zdf d.L) (15-(hvqF q at_).toNat) ((hvqF q at_).toNat+1) code first,at_):=rfl
 have hml:(zdf d.L).length=16:=zdY _ _
 have hmb:=fun k=>zhE d.L d.L.length k
 change ∀ k,0≤(zdf d.L).getD k 0∧(zdf d.L).getD k 0≤_ at hmb
 obtain ⟨hLv,hLl⟩:=zfi (zgU hc).1
 have hsum:=zt8 d.L (zgU hc).1
 have hsl:(zct d.L).length=(sym0 d.L d.L.length).length:=(zeA _ _).length_eq
 generalize hvqF q at_=hv at hh eT ⊢
 generalize zbS q.bs at_ 15=v0 at hv0 eT ⊢
 have hs1:((zdf d.L).take 1).sum=0:=by rw [take1];exact zni _ _
 generalize hms:zdf d.L=ms at hml hmb hsum hs1 eT ⊢
 refine gGw ?_
 refine lp zaa (γ:=Nat × Int × Int × Int × Nat) (fun g=>1≤g.1∧g.1≤16∧g.2.1%2=0∧0≤g.2.2.1∧g.2.2.1≤g.2.1∧g.2.1<2 ^ g.1∧g.2.2.2.1=(ms.take g.1).sum∧g.2.2.2.2<32768∧tk1 ms hv 15 1 0 0 0 v0=tk1 ms hv (16-g.1) g.1 g.2.1 g.2.2.1 g.2.2.2.1 g.2.2.2.2)
  (fun g=>[(12,.int .i64 (g.1:Int)),(9,.int .i64 g.2.1),(10,.int .i64 g.2.2.1),(11,.int .i64 g.2.2.2.1),(6,.int .u64 (g.2.2.2.2:Nat)),(7,.int .i64 hv),(0,.pointer (some ⟨d.B,0,none⟩)),(1,.pointer (some ⟨q.B,0,none⟩))]) (fun _=>CdX d ms++RM q at_) (fun g=>16-g.1) (1,0,0,0,v0) ⟨by simp,by simp,rfl,by simp,by simp,by simp,hs1.symm,hv0,rfl⟩
  ⟨rfl,rfl,rfl,rfl,rfl,rfl,rfl,rfl,trivial⟩ (SubM.perm (List.perm_append_comm (l₁:=RM q at_) (l₂:=CdX d ms))) ?_
 rintro ⟨n,code,first,index,v⟩ ⟨hn1,hn2,hev,hf0,hfc,hcb,hix,hvb,hT⟩
 simp only at hn1 hn2 hev hf0 hfc hcb hix hvb hT
 dsimp only
 conv=>whnf
 by_cases hgo:n≤15∧(n:Int)≤hv
 ·obtain ⟨hgo1,hgo2⟩:=hgo
  refine br_t (decide_eq_true (by omega)) ?_
  conv=>whnf
  refine br_f (decide_eq_false (by omega)) ?_
  refine gGw ?_
  have hp2:2 ^ n≤2 ^ 15:=Nat.pow_le_pow_right (by omega) (by omega)
  have hp3:((2 ^ n:Nat):Int)=(2:Int) ^ n:=by push_cast;rfl
  have hcb2:code<32768:=by omega
  have hv2:v%2<2:=by omega
  rw [mask1 v hvb]
  refine And.intro (zaB (by omega)) ?_
  refine gGw ?_
  rw [or1 code (v%2) (by omega) hev (by omega) hv2]
  have hT2:tk1 ms hv (16-n) n code first index v=if hv<n then (none,code,first) else if code+(v%2:Nat)-first<ms.getD n 0 then (some (n,index+(code+(v%2:Nat))-first),0,0)
    else tk1 ms hv (15-n) (n+1) (2*(code+(v%2:Nat))) (2*(first+ms.getD n 0)) (index+ms.getD n 0) (v/2):=by
   rw [show 16-n=(15-n)+1 by omega];rfl
  rw [if_neg (by omega)] at hT2
  have hmn:=hmb n
  have hi0:0≤(ms.take n).sum∧(ms.take (n+1)).sum=(ms.take n).sum+ms.getD n 0∧(ms.take (n+1)).sum≤ms.sum :=
   ⟨zq8 _ (fun k=>by
    rw [List.getD_eq_getElem?_getD,List.getElem?_take]
    split
    ·rw [← List.getD_eq_getElem?_getD];exact (hmb k).1
    ·simp),zq7 _ _ (by omega),zxF _ _ (fun k=>(hmb k).1)⟩
  have hsy:=zhw d.L d.L.length
  have hv22:((v:Int)/2 ^ Int.toNat 1)=((v/2:Nat):Int):=by rw [show (2:Int) ^ Int.toNat 1=2 by decide];omega
  rw [hv22]
  generalize hgb:v%2=b at hv2 hT2 ⊢
  generalize hgh:v/2=h at hT2 ⊢
  refine And.intro (zaB (by omega)) ?_
  refine gGw ?_
  refine And.intro ⟨by omega,by omega,by simp [Pl,pl]⟩ ?_
  conv=>whnf
  refine zai (ld1 (off:=0+1+n) zaa (by repeat constructor) rfl rfl (ziV d.lA d.L.length d.lc ms d.sA (zct d.L).length d.sc n (by omega))) ?_
  refine gGw ?_
  refine br_d (fun hfo=>?_) (fun hnf=>?_)
  ·rw [if_pos hfo] at hT2
   rw [hT,hT2] at eT
   simp only at eT
   refine gGw ?_
   refine⟨zmf,zac (m1:=RM q at_) (by repeat constructor) (fun w' hm'=>zud q at_ n w' hl (by omega) hm'.part) ?_⟩
   rintro e m' ⟨rfl,rfl⟩
   refine gGw ?_
   refine zai (ld1 (off:=0+17) zaa (by repeat constructor) rfl rfl (zlb d.lA d.L.length d.lc ms d.sA (zct d.L).length d.sc hml)) ?_
   refine gGw ?_
   have hpl:Pl d.sA:=zcV (hm.ok _ (List.mem_cons_of_mem _ (List.mem_cons_of_mem _ (List.mem_cons_self ..)))) (by omega)
   refine And.intro ⟨by omega,by omega,hpl⟩ ?_
   conv=>whnf
   have hjs:((zct d.L).map (Value.int .i64))[(index+(code+b)-first).toNat]?=some (.int .i64 ((zct d.L).getD (index+(code+b)-first).toNat 0)):=by
    have hlt:(index+(code+b)-first).toNat<(zct d.L).length:=by omega
    rw [List.getElem?_map,List.getD_eq_getElem?_getD,List.getElem?_eq_getElem hlt];rfl
   refine zai (ldR zaa (by repeat constructor) rfl rfl hjs) ?_
   refine gGw ?_
   rw [eT]
   exact fin2 rfl rfl rfl (fun w' hm=>⟨_,⟨rfl,rfl⟩,by subst hms;exact hm.perm (List.perm_append_comm (l₁:=RM q (at_+n)) (l₂:=CdX d (zdf d.L)))⟩)
  ·rw [if_neg hnf] at hT2
   refine gGw ?_
   refine And.intro ⟨by omega,by omega,by simp [Pl,pl]⟩ ?_
   conv=>whnf
   refine zai (ld1 (off:=0+1+n) zaa (by repeat constructor) rfl rfl (ziV d.lA d.L.length d.lc ms d.sA (zct d.L).length d.sc n (by omega))) ?_
   refine gGw ?_
   refine And.intro ⟨by omega,by omega,by simp [Pl,pl]⟩ ?_
   conv=>whnf
   refine zai (ld1 (off:=0+1+n) zaa (by repeat constructor) rfl rfl (ziV d.lA d.L.length d.lc ms d.sA (zct d.L).length d.sc n (by omega))) ?_
   refine gGw ?_
   have ew:∀ x:Int,0≤x∧x≤1000000→IntKind.i64.wrap (x*2 ^ Int.toNat 1)=2*x:=fun x hx=>by
    rw [show (2:Int) ^ Int.toNat 1=2 by decide]
    exact (IntWalk.i64_in _ (by omega)).trans (by omega)
   rw [ew _ (by omega),ew _ (by omega)]
   have hpe:(2:Int) ^ (n+1)=2*2 ^ n∧(2:Int) ^ n%2=0:=⟨by rw [Int.pow_succ,Int.mul_comm],by
    rw [show n=(n-1)+1 by omega,Int.pow_succ];omega⟩
   refine⟨(n+1,2*(code+b),2*(first+ms.getD n 0),index+ms.getD n 0,h),⟨by simp only;omega,by simp only;omega,by simp only;omega,by simp only;omega,by simp only;omega,by simp only;omega,by simp only;omega,by simp only;omega,?_⟩,by simp only;omega,⟨rfl,rfl,rfl,rfl,rfl,rfl,rfl,rfl,trivial⟩,SubM.refl _ _⟩
   simp only
   rw [show 16-(n+1)=15-n by omega];exact hT.trans hT2
 ·have hx:tk1 ms hv 15 1 0 0 0 v0=(none,code,first):=by
   rw [hT]
   by_cases h16:n=16
   ·subst h16;rfl
   ·rw [show 16-n=(15-n)+1 by omega,tk1,if_pos (by omega)]
  rw [hx] at eT
  simp only at eT
  refine br_d (fun h15=>?_) (fun h15=>?_)
  rotate_left
  rotate_left
  case' refine_1 =>
   conv=>whnf
   refine br_t (decide_eq_true (by omega)) ?_
  all_goals
   refine gGw ?_
   have hpc:(2:Int) ^ n≤65536:=by
    have h1:2 ^ n≤65536:=Nat.le_trans (Nat.pow_le_pow_right (by omega) hn2) (by decide)
    have h2:((2 ^ n:Nat):Int)=(2:Int) ^ n:=Int.natCast_pow 2 n
    omega
   have hph:((2 ^ (hv.toNat+1+16):Nat):Int)≥((2 ^ 17:Nat):Int):=Int.ofNat_le.2 (Nat.pow_le_pow_right (by omega) (by omega))
   refine lp zaa (γ:=Nat × Int × Int × Int) (fun g=>1≤g.1∧g.1≤16∧g.2.1=(g.1:Int)∧0≤g.2.2.1∧g.2.2.1≤((2 ^ (g.1+16):Nat):Int)∧0≤g.2.2.2∧g.2.2.2+640≤((2 ^ (g.1+16):Nat):Int)∧tk2 ms (15-hv.toNat) (hv.toNat+1) code first=tk2 ms (16-g.1) g.1 g.2.2.1 g.2.2.2)
    (fun g=>[(13,.int .i64 g.2.1),(9,.int .i64 g.2.2.1),(10,.int .i64 g.2.2.2),(0,.pointer (some ⟨d.B,0,none⟩))]) (fun _=>CdX d ms++RM q at_) (fun g=>16-g.1) (hv.toNat+1,hv+1,code,first) ⟨by simp only;omega,by simp only;omega,by simp only;omega,by simp only;omega,by simp only;omega,by simp only;omega,by simp only;omega,by simp only;rw [show 16-(hv.toNat+1)=15-hv.toNat by omega]⟩
    ⟨rfl,rfl,rfl,rfl,trivial⟩ (SubM.refl _ _) ?_
   rintro ⟨m,x,c2,f2⟩ ⟨hm1,hm2,hxm,hc0,hcl,hf0',hfl,hT3⟩
   simp only at hm1 hm2 hxm hc0 hcl hf0' hfl hT3
   subst hxm
   dsimp only
   have hpm:((2 ^ (m+16):Nat):Int)≤((2 ^ 32:Nat):Int):=Int.ofNat_le.2 (Nat.pow_le_pow_right (by omega) (by omega))
   have hmm:=hmb m
   have hpe:((2 ^ (m+1+16):Nat):Int)=2*((2 ^ (m+16):Nat):Int):=by rw [show m+1+16=(m+16)+1 by omega,Nat.pow_succ];push_cast;omega
   generalize ((2 ^ (m+16):Nat):Int)=p2 at hcl hfl hpm hpe
   conv=>whnf
   refine br_d (fun hlt=>?_) (fun hge=>?_)
   ·refine gGw ?_
    refine And.intro ⟨by omega,by omega,by simp [Pl,pl]⟩ ?_
    conv=>whnf
    refine zai (ld1 (off:=0+1+m) zaa (by repeat constructor) rfl rfl (ziV d.lA d.L.length d.lc ms d.sA (zct d.L).length d.sc m (by omega))) ?_
    refine gGw ?_
    refine And.intro (fun _=>⟨by omega,by omega,by simp [Pl,pl]⟩) ?_
    conv=>whnf
    refine⟨.int .i64 (ms.getD m 0),ldg (fun _=>ld1 (off:=0+1+m) zaa (by repeat constructor) rfl rfl (ziV d.lA d.L.length d.lc ms d.sA (zct d.L).length d.sc m (by omega))),?_⟩
    refine gGw ?_
    have hT4:tk2 ms (16-m) m c2 f2=if c2<f2+ms.getD m 0∧0<ms.getD m 0 then 120 else tk2 ms (15-m) (m+1) (2*c2) (2*(f2+ms.getD m 0)):=by
     rw [show 16-m=(15-m)+1 by omega];rfl
    by_cases hboth:c2<f2+ms.getD m 0∧0<ms.getD m 0
    ·rw [if_pos hboth] at hT4
     rw [hT3,hT4] at eT
     refine br_t (by rw [decide_eq_true hboth.1,decide_eq_true hboth.2];rfl) ?_
     refine gGw ?_
     rw [eT]
     exact fin2 rfl rfl rfl (fun w' hm=>⟨_,⟨rfl,rfl⟩,by subst hms;exact hm⟩)
    ·rw [if_neg hboth] at hT4
     refine br_f (by rw [← Bool.decide_and];exact decide_eq_false hboth) ?_
     refine gGw ?_
     refine And.intro ⟨by omega,by omega,by simp [Pl,pl]⟩ ?_
     conv=>whnf
     refine zai (ld1 (off:=0+1+m) zaa (by repeat constructor) rfl rfl (ziV d.lA d.L.length d.lc ms d.sA (zct d.L).length d.sc m (by omega))) ?_
     refine gGw ?_
     have ew:∀ x:Int,0≤x∧x≤10000000000→IntKind.i64.wrap (x*2 ^ Int.toNat 1)=2*x:=fun x hx=>by
      rw [show (2:Int) ^ Int.toNat 1=2 by decide]
      exact (IntWalk.i64_in _ (by omega)).trans (by omega)
     rw [ew _ (by omega),ew _ (by omega)]
     refine⟨(m+1,(m:Int)+1,2*c2,2*(f2+ms.getD m 0)),⟨by simp only;omega,by simp only;omega,by simp only;omega,by simp only;omega,by simp only;omega,by simp only;omega,by simp only;omega,?_⟩,by simp only;omega,⟨rfl,rfl,rfl,rfl,trivial⟩,SubM.refl _ _⟩
     simp only
     rw [show 16-(m+1)=15-m by omega];exact hT3.trans hT4
   ·have hT4:tk2 ms (16-m) m c2 f2=131:=by rw [show 16-m=0 by omega];rfl
    rw [hT3,hT4] at eT
    refine gGw ?_
    rw [eT]
    exact fin2 rfl rfl rfl (fun w' hm=>⟨_,⟨rfl,rfl⟩,by subst hms;exact hm⟩)
end
section
abbrev upP (n:Int):List PanicEntry:=[{ v:=.iface 28 (.int .i64 n),recovered:=false }]
attribute [local irreducible] Br Rn RnU Cl RdG CpG Ld Rd Lp Dr Oth Cut fin Fits Eng.Enters Md NA
theorem zaq:Eng.Enters Tryz.prog 172:=zab fun _ _=>by kernel_rfl
theorem zaD (x:Value) (n:Int) (w:World) :
  Ctr Tryz.prog 172 [x,.int .i64 n] [] (fun e m'=>e=(if n=0 then .returned x else .panicked (upP n))∧m'=[]) w:=by
 refine enter (cx:=CXS 10 [] w (Foot [])) [(0,x),(1,.int .i64 n)] zaa Tryz.func172 rfl rfl rfl rfl (MemOk.nil w _) ?_
 refine gGw ?_
 by_cases h:n=0
 ·refine br_n (br_t (decide_eq_true h) ?_)
  refine gGw ?_
  exact fin1 rfl rfl (fun w' hm=>⟨_,⟨(if_pos h).symm,rfl⟩,hm⟩)
 ·refine br_n (br_f (decide_eq_false h) ?_)
  refine gGw ?_
  exact zap (fun w' hm=>⟨_,⟨(if_neg h).symm,rfl⟩,hm⟩)
theorem zhi:Eng.Enters Tryz.prog 195:=zab fun _ _=>by kernel_rfl
theorem zl8 (x:Value) (n:Int) (w:World) :
  Ctr Tryz.prog 195 [x,.int .i64 n] [] (fun e m'=>e=(if n=0 then .returned x else .panicked (upP n))∧m'=[]) w:=by
 refine enter (cx:=CXS 10 [] w (Foot [])) [(0,x),(1,.int .i64 n)] zaa Tryz.func195 rfl rfl rfl rfl (MemOk.nil w _) ?_
 refine gGw ?_
 by_cases h:n=0
 ·refine br_n (br_t (decide_eq_true h) ?_)
  refine gGw ?_
  exact fin1 rfl rfl (fun w' hm=>⟨_,⟨(if_pos h).symm,rfl⟩,hm⟩)
 ·refine br_n (br_f (decide_eq_false h) ?_)
  refine gGw ?_
  exact zap (fun w' hm=>⟨_,⟨(if_neg h).symm,rfl⟩,hm⟩)
theorem zdz:Eng.Enters Tryz.prog 199:=zab fun _ _=>by kernel_rfl
theorem zgl (x:Value) (n:Int) (w:World) :
  Ctr Tryz.prog 199 [x,.int .i64 n] [] (fun e m'=>e=(if n=0 then .returned x else .panicked (upP n))∧m'=[]) w:=by
 refine enter (cx:=CXS 10 [] w (Foot [])) [(0,x),(1,.int .i64 n)] zaa Tryz.func199 rfl rfl rfl rfl (MemOk.nil w _) ?_
 refine gGw ?_
 by_cases h:n=0
 ·refine br_n (br_t (decide_eq_true h) ?_)
  refine gGw ?_
  exact fin1 rfl rfl (fun w' hm=>⟨_,⟨(if_pos h).symm,rfl⟩,hm⟩)
 ·refine br_n (br_f (decide_eq_false h) ?_)
  refine gGw ?_
  exact zap (fun w' hm=>⟨_,⟨(if_neg h).symm,rfl⟩,hm⟩)
theorem zch:Eng.Enters Tryz.prog 215:=zab fun _ _=>by kernel_rfl
theorem zdX (x:Value) (n:Int) (w:World) :
  Ctr Tryz.prog 215 [x,.int .i64 n] [] (fun e m'=>e=(if n=0 then .returned x else .panicked (upP n))∧m'=[]) w:=by
 refine enter (cx:=CXS 10 [] w (Foot [])) [(0,x),(1,.int .i64 n)] zaa Tryz.func215 rfl rfl rfl rfl (MemOk.nil w _) ?_
 refine gGw ?_
 by_cases h:n=0
 ·refine br_n (br_t (decide_eq_true h) ?_)
  refine gGw ?_
  exact fin1 rfl rfl (fun w' hm=>⟨_,⟨(if_pos h).symm,rfl⟩,hm⟩)
 ·refine br_n (br_f (decide_eq_false h) ?_)
  refine gGw ?_
  exact zap (fun w' hm=>⟨_,⟨(if_neg h).symm,rfl⟩,hm⟩)
theorem ze0:Eng.Enters Tryz.prog 203:=zab fun _ _=>by kernel_rfl
theorem zk0:Eng.Enters Tryz.prog 171:=zab fun _ _=>by kernel_rfl
def zet (L:List Int) (none_:Bool):Int:=if mayL L none_=false then 151 else newE L
theorem zsF (L:List Int) (none_:Bool) (A:Option Addr) (c:Nat) (w:World) (hb:IntsIn .i64 w A L) (hl:L.length≤100000) :
  Ctr Tryz.prog 203 [.slice A L.length c,.bool none_] [] (fun e m'=>(zet L none_=0∧∃ d:Cd,d.L=L∧e=.returned (.pointer (some ⟨d.B,0,none⟩))∧m'=CdM d)∨(zet L none_≠0∧e=.panicked (upP (zet L none_))∧m'=[])) w:=by
 have hF:∀ w',Fr (Foot []) w w'→IntsIn .i64 w' A L:=fun w' hf=>Ints.in_ (IntsIn.ints (cx:=CX 0 [] w) (m:=[]) hb (fun _ h=>h)) ((MemOk.nil w _).same (hf.mono (fun k _ ⟨r,hr,_⟩=>by cases hr)))
 refine enter (cx:=CXS 15 [] w (Foot [])) [(0,.slice A L.length c),(1,.bool none_)] zaa Tryz.func203 rfl rfl rfl rfl (MemOk.nil w _) ?_
 refine gGw ?_
 refine⟨zny,zac (m1:=[]) .nil (fun w' hm'=>zvd L none_ A c w' (hF w' hm'.fr) (by omega)) ?_⟩
 rintro e m' ⟨rfl,rfl⟩
 cases hmay:mayL L none_ with
 | false =>
  have eC:zet L none_=151:=by unfold zet;rw [if_pos hmay]
  refine gGw ?_
  refine br_n (br_f rfl ?_)
  refine gGw ?_
  exact zap (fun w' hm=>⟨_,.inr ⟨by rw [eC];decide,by rw [eC],rfl⟩,hm⟩)
 | true =>
  have eC:zet L none_=newE L:=by unfold zet;rw [if_neg (by rw [hmay];decide)]
  refine gGw ?_
  refine br_n (br_t rfl ?_)
  refine gGw ?_
  by_cases hne:newE L=0
  ·refine⟨zel,zac (m1:=[]) .nil (fun w' hm'=>zoH L A c w' (hF w' hm'.fr) (zgU hne).1 (zgU hne).2) ?_⟩
   rintro e m' ⟨d,hd,rfl,rfl⟩
   refine gGw ?_
   refine⟨zdz,zac (m1:=[]) .nil (fun w' hm'=>zgl _ 0 w') ?_⟩
   rintro e m' ⟨rfl,rfl⟩
   rw [if_pos rfl]
   refine gGw ?_
   exact fin1 rfl rfl (fun w' hm=>⟨_,.inl ⟨eC.trans hne,d,hd,rfl,rfl⟩,hm⟩)
  ·refine⟨zel,zac (m1:=[]) .nil (fun w' hm'=>zwZ L A c w' (hF w' hm'.fr) (by omega) hne) ?_⟩
   rintro e m' ⟨rfl,rfl⟩
   refine gGw ?_
   refine⟨zdz,zac (m1:=[]) .nil (fun w' hm'=>zgl _ (newE L) w') ?_⟩
   rintro e m' ⟨rfl,rfl⟩
   rw [if_neg hne]
   conv=>whnf
   exact zap (fun w' hm=>⟨_,.inr ⟨fun h=>hne (eC.symm.trans h),by rw [eC],rfl⟩,hm⟩)
end
section
def fAt (f:Int) (xs:List Int):Nat→Int
 | 0=>f
 | i+1=>fAt f xs i+2 ^ (xs.getD i 0).toNat
def firR (f:Int) (xs:List Int):Nat→List Int
 | 0=>List.replicate xs.length 0
 | i+1=>(firR f xs i).set i (fAt f xs i)
def firF (f:Int) (xs:List Int):List Int:=firR f xs xs.length
theorem zoR (f:Int) (xs:List Int):∀ i,(firR f xs i).length=xs.length
 | 0=>by simp [firR]
 | i+1=>by rw [firR,List.length_set,zoR f xs i]
theorem zsv (f:Int) (xs:List Int) (hf:0≤f∧f≤1000) (hx:∀ x∈xs,0≤x∧x≤13):∀ i,i≤xs.length→0≤fAt f xs i∧fAt f xs i≤1000+8192*i
 | 0,_=>by rw [fAt];omega
 | i+1,h=>by
  have ih:=zsv f xs hf hx i (by omega)
  have hv:=hx _ (zbC (xs:=xs) (i:=i) (by omega))
  have h1:2 ^ (xs.getD i 0).toNat≤2 ^ 13:=Nat.pow_le_pow_right (by omega) (by omega)
  have h2:((2 ^ (xs.getD i 0).toNat:Nat):Int)=(2:Int) ^ (xs.getD i 0).toNat:=Int.natCast_pow 2 _
  have h3:0<2 ^ (xs.getD i 0).toNat:=Nat.two_pow_pos _
  rw [fAt];omega
attribute [local irreducible] Br Rn RnU Cl RdG CpG Ld Rd Lp Dr Oth Cut fin Fits Eng.Enters Md NA
theorem zgs:Eng.Enters Tryz.prog 265:=zab fun _ _=>by kernel_rfl
theorem zjO (f:Int) (xs:List Int) (A:Option Addr) (c:Nat) (w:World) (hb:IntsIn .i64 w A xs) (hl:xs.length≤30) (hf:0≤f∧f≤1000) (hx:∀ x∈xs,0≤x∧x≤13) :
  Ctr Tryz.prog 265 [.int .i64 f,.slice A xs.length c] [] (fun e m'=>∃ rA rc,e=.returned (.slice rA xs.length rc)∧m'=[IR rA rc xs.length (firF f xs)]) w:=by
 refine enter (cx:=CXS 28 [] w (Foot [])) [(0,.int .i64 f),(1,.slice A xs.length c)] zaa Tryz.func265 rfl rfl rfl rfl (MemOk.nil w _) ?_
 have h1:=fun m=>IntsIn.ints (cx:=CXS 28 [] w (Foot [])) (m:=m) hb (fun b h=>zam b h)
 refine gGw ?_
 refine zc2 zaa rfl rfl rfl rfl rfl (by omega) (by rw [Int.toNat_natCast];show 8*_≤_;omega) (by omega) (fun rB=>?_)
 rw [Int.toNat_natCast]
 refine gGw ?_
 refine lp zaa (γ:=Nat) (fun i=>i≤xs.length) (fun i=>[(13,.int .i64 (i:Int)),(12,.int .i64 (xs.length:Int)),(11,.slice A xs.length c),(0,.int .i64 (fAt f xs i)),(5,.slice (some ⟨rB,0,none⟩) xs.length xs.length)]) (fun i=>[IR (some ⟨rB,0,none⟩) xs.length xs.length (firR f xs i)]) (fun i=>xs.length-i) 0 (by omega) ⟨rfl,rfl,rfl,rfl,rfl,trivial⟩ (SubM.row (by simp [firR]) rfl (List.Sublist.refl _)) ?_
 rintro i hi
 dsimp only
 conv=>whnf
 refine br_d (fun hlt=>?_) (fun hge=>?_)
 ·have hlt':i<xs.length:=by omega
  have hpl:Pl A:=(h1 []).plain (by omega)
  have hv:=hx _ (zbC hlt')
  have hb0:=zsv f xs hf hx i (by omega)
  have hb1:=zsv f xs hf hx (i+1) (by omega)
  have hrl:=zoR f xs i
  have eF:fAt f xs (i+1)=fAt f xs i+2 ^ (xs.getD i 0).toNat:=rfl
  have eR:firR f xs (i+1)=(firR f xs i).set i (fAt f xs i):=rfl
  have hpw:IntKind.i64.wrap (1*2 ^ (xs.getD i 0).toNat)=2 ^ (xs.getD i 0).toNat:=by rw [Int.one_mul];exact IntWalk.i64_in _ (by omega)
  refine gGw ?_
  refine And.intro ⟨by omega,by omega,hpl⟩ ?_
  conv=>whnf
  refine zai ((h1 _).ld zaa rfl rfl (j:=i) (by omega)) ?_
  refine gGw ?_
  refine And.intro ⟨by omega,by omega,Pl.mk _ _⟩ ?_
  conv=>whnf
  refine zaw (off:=i) (xs':=(firR f xs (i+1)).map (.int .i64)) zaa rfl (by repeat constructor) rfl rfl (by show i+1≤xs.length*1;omega) (Nat.one_pos) (by rw [eR,List.map_set];rfl) ?_
  refine gGw ?_
  refine And.intro ⟨by omega,by show _≤(64:Int);omega⟩ ?_
  conv=>whnf
  rw [hpw]
  refine gG0 ?_
  exact⟨i+1,by omega,by omega,⟨rfl,rfl,rfl,rfl,rfl,trivial⟩,SubM.refl _ _⟩
 ·obtain rfl:i=xs.length:=by omega
  refine gGw ?_
  exact fin1 rfl rfl (fun w' hm=>⟨_,⟨_,_,rfl,rfl⟩,hm⟩)
end
section
def dWid (i:Nat):List Int:=(List.range 30).map fun k=>if 4≤k∧k<i then (k:Int)/2-1 else 0
theorem zyb:∀ i,i<30→4≤i→(dWid i).set i ((i:Int)/2-1)=dWid (i+1):=by decide
theorem zvN (i:Nat):(dWid i).length=30:=by simp [dWid]
theorem dW_bd:∀ x∈dWid 30,0≤x∧x≤13:=by decide
attribute [local irreducible] Br Rn RnU Cl RdG CpG Ld Rd Lp Dr Oth Cut fin Fits Eng.Enters Md NA
theorem zmu:Eng.Enters Tryz.prog 252:=zab fun _ _=>by kernel_rfl
theorem zsD (w:World) :
  Ctr Tryz.prog 252 [] [] (fun e m'=>∃ wA wc rA rc,e=.returned (.tuple #[.slice wA 30 wc,.slice rA 30 rc])∧m'=[.row wA wc 30 370 1 ((dWid 30).map (.int .i64)),IR rA rc 30 (firF 1 (dWid 30))]) w:=by
 refine enter (cx:=CXS 16 [] w (Foot [])) [] zaa Tryz.func252 rfl rfl rfl rfl (MemOk.nil w _) ?_
 refine gGw ?_;(repeat ((first|refine .mk fun Ap capp=>?_|intro _);(conv=>whnf);refine gG0 ?_))
 rename_i bB
 refine lp zaa (γ:=Nat) (fun i=>4≤i∧i≤30) (fun i=>[(3,.int .i64 (i:Int)),(2,.pointer (some ⟨bB,0,none⟩))]) (fun i=>[.blk bB (.cells ((dWid i).map (Value.int .i64)).toArray 370)]) (fun i=>30-i) 4 (by omega) ⟨rfl,rfl,trivial⟩ (SubM.refl _ _) ?_
 rintro i hi
 dsimp only
 conv=>whnf
 refine br_d (fun hlt=>?_) (fun hge=>?_)
 ·have eq:IntKind.i64.wrap ((i:Int).tdiv 2)=(i:Int)/2:=by
   rw [Int.tdiv_eq_ediv_of_nonneg (by omega)];exact IntWalk.i64_in _ (by omega)
  have hl:=zvN i
  refine gGw ?_
  rw [eq]
  refine And.intro ⟨by omega,by omega,Pl.mk _ _⟩ ?_
  conv=>whnf
  refine zaO (b:=bB) (off:=0+i) (cs':=(dWid (i+1)).map (Value.int .i64)) zaa rfl (by repeat constructor) rfl rfl (Nat.ble_eq_true_of_le (show 0+i+1≤_ by rw [List.length_map,hl];omega)) (by rw [Nat.zero_add,← zyb i (by omega) (by omega),List.map_set];rfl) ?_
  refine gGw ?_
  exact⟨i+1,by omega,by omega,⟨rfl,rfl,trivial⟩,SubM.refl _ _⟩
 ·obtain rfl:i=30:=by omega
  refine gGw ?_
  refine za5 (γ:=Option Addr × Nat) (Tr.hs [0,1] (.sq [2] (.hs [3,4] .done))) [] zaa mixed (by kernel_rfl) rfl (fun _=>True)
   (fun g=>[(0,.slice (some ⟨bB,0,none⟩) 30 30),(1,.slice g.1 30 g.2)]) (fun g=>[.row (some ⟨bB,0,none⟩) 30 30 370 1 ((dWid 30).map (.int .i64)),IR g.1 g.2 30 (firF 1 (dWid 30))]) (SubM.sel .nil) ?_ ?_
  ·refine gGw ?_
   refine And.intro ⟨by omega,by omega,by omega,Pl.mk _ _⟩ ?_
   refine gGw ?_
   refine And.intro ⟨by omega,by omega,by omega,Pl.mk _ _⟩ ?_
   refine gGw ?_
   refine⟨zgs,zcj (SubM.torow (n:=30) (by repeat constructor) rfl rfl) (zac (m1:=[]) .nil (fun w' hm'=>zjO 1 (dWid 30) (some ⟨bB,0,none⟩) 30 w' (rowI (hm'.ok _ (List.mem_cons_self ..))) (by decide) (by omega) dW_bd) ?_)⟩
   rintro e m' ⟨rA,rc,rfl,rfl⟩
   refine gGw ?_
   exact⟨(rA,rc),trivial,⟨rfl,rfl,trivial⟩,SubM.sl⟩
  ·rintro ⟨rA,rc⟩ -
   refine gGw ?_
   exact fin2 rfl rfl rfl (fun w' hm=>⟨_,⟨_,_,_,_,rfl,rfl⟩,hm⟩)
end
section
def lWid (i:Nat):List Int:=(List.range 29).map fun k=>if 8≤k∧k<i then (k:Int)/4-1 else 0
theorem zxU:∀ i,i<28→8≤i→(lWid i).set i ((i:Int)/4-1)=lWid (i+1):=by decide
theorem zr0 (i:Nat):(lWid i).length=29:=by simp [lWid]
theorem lW_bd:∀ x∈lWid 28,0≤x∧x≤13:=by decide
def lFir:List Int:=(firF 3 (lWid 28)).set 28 258
def dFir:List Int:=firF 1 (dWid 30)
theorem zxW:∀ i,i<29→3≤lFir.getD i 0∧lFir.getD i 0≤258:=by decide
theorem zyd:∀ i,i<30→1≤dFir.getD i 0∧dFir.getD i 0≤24577:=by decide
theorem zxV:∀ i,i<29→0≤(lWid 28).getD i 0∧(lWid 28).getD i 0≤5:=by decide
theorem zyc:∀ i,i<30→0≤(dWid 30).getD i 0∧(dWid 30).getD i 0≤13:=by decide
attribute [local irreducible] Br Rn RnU Cl RdG CpG Ld Rd Lp Dr Oth Cut fin Fits Eng.Enters Md NA
theorem znm:Eng.Enters Tryz.prog 251:=zab fun _ _=>by kernel_rfl
theorem zl5:Eng.Enters Tryz.prog 235:=zab fun _ _=>by kernel_rfl
theorem zkE:Eng.Enters Tryz.prog 236:=zab fun _ _=>by kernel_rfl
theorem zuS (w:World) :
  Ctr Tryz.prog 251 [] [] (fun e m'=>∃ wA wc rA rc,e=.returned (.tuple #[.slice wA 29 wc,.slice rA 29 rc])∧m'=[.row wA wc 29 368 1 ((lWid 28).map (.int .i64)),IR rA rc 29 lFir]) w:=by
 refine enter (cx:=CXS 20 [] w (Foot [])) [] zaa Tryz.func251 rfl rfl rfl rfl (MemOk.nil w _) ?_
 refine gGw ?_;(repeat ((first|refine .mk fun Ap capp=>?_|intro _);(conv=>whnf);refine gG0 ?_))
 rename_i bB
 refine lp zaa (γ:=Nat) (fun i=>8≤i∧i≤28) (fun i=>[(3,.int .i64 (i:Int)),(2,.pointer (some ⟨bB,0,none⟩))]) (fun i=>[.blk bB (.cells ((lWid i).map (Value.int .i64)).toArray 368)]) (fun i=>28-i) 8 (by omega) ⟨rfl,rfl,trivial⟩ (SubM.refl _ _) ?_
 rintro i hi
 dsimp only
 conv=>whnf
 refine br_d (fun hlt=>?_) (fun hge=>?_)
 ·have eq:IntKind.i64.wrap ((i:Int).tdiv 4)=(i:Int)/4:=by
   rw [Int.tdiv_eq_ediv_of_nonneg (by omega)];exact IntWalk.i64_in _ (by omega)
  have hl:=zr0 i
  refine gGw ?_
  rw [eq]
  refine And.intro ⟨by omega,by omega,Pl.mk _ _⟩ ?_
  conv=>whnf
  refine zaO (b:=bB) (off:=0+i) (cs':=(lWid (i+1)).map (Value.int .i64)) zaa rfl (by repeat constructor) rfl rfl (Nat.ble_eq_true_of_le (show 0+i+1≤_ by rw [List.length_map,hl];omega)) (by rw [Nat.zero_add,← zxU i (by omega) (by omega),List.map_set];rfl) ?_
  refine gGw ?_
  exact⟨i+1,by omega,by omega,⟨rfl,rfl,trivial⟩,SubM.refl _ _⟩
 ·obtain rfl:i=28:=by omega
  refine gGw ?_
  refine And.intro ⟨by omega,by omega,by omega,Pl.mk _ _⟩ ?_
  refine gGw ?_
  refine⟨zgs,zcj (SubM.torow (n:=29) (by repeat constructor) rfl rfl) (zac (m1:=[]) .nil (fun w' hm'=>(zjO 3 (lWid 28) (some ⟨bB,0,none⟩) 29 w' (rowI (hm'.ok _ (List.mem_cons_self ..))) (by decide) (by omega) lW_bd).ex) ?_)⟩
  rintro e m' ⟨⟨rA,rc,rfl,rfl⟩,w9,hok⟩
  have hpl:Pl rA:=zft (hok _ (List.mem_cons_self ..)) (by rw [List.length_map];decide)
  have hll:(lWid 28).length=29:=zr0 28
  refine gGw ?_
  refine And.intro ⟨by omega,by rw [hll];omega,hpl⟩ ?_
  conv=>whnf
  refine zaw (off:=28) (xs':=lFir.map (.int .i64)) zaa rfl (by repeat constructor) rfl rfl (by rw [hll];decide) (Nat.one_pos) (by unfold lFir;rw [List.map_set];rfl) ?_
  refine gGw ?_
  refine And.intro ⟨by omega,by omega,by omega,Pl.mk _ _⟩ ?_
  refine gGw ?_
  exact fin2 rfl rfl rfl (fun w' hm=>⟨_,⟨_,_,_,_,rfl,rfl⟩,hm.sl⟩)
theorem zrL (s:Int) (w:World) (hs:257≤s∧s≤285) :
  Ctr Tryz.prog 235 [.int .i64 s] [] (fun e m'=>e=.returned (.tuple #[.int .i64 (lFir.getD (s-257).toNat 0),.int .i64 ((lWid 28).getD (s-257).toNat 0),.int .i64 0])∧m'=[]) w:=by
 refine enter (cx:=CXS 27 [] w (Foot [])) [(0,.int .i64 s)] zaa Tryz.func235 rfl rfl rfl rfl (MemOk.nil w _) ?_
 refine gGw ?_
 refine br_f (by rw [decide_eq_false (by omega),decide_eq_false (by omega)];rfl) ?_
 refine gGw ?_
 refine⟨znm,zac (m1:=[]) .nil (fun w' hm'=>(zuS w').ex) ?_⟩
 rintro e m' ⟨⟨wA,wc,rA,rc,rfl,rfl⟩,w9,hok⟩
 have hp1:Pl wA:=zft (hok _ (List.mem_cons_self ..)) (by rw [List.length_map];decide)
 have hp2:Pl rA:=zft (hok _ (List.mem_cons_of_mem _ (List.mem_cons_self ..))) (by rw [List.length_map];decide)
 have hll:(lWid 28).length=29:=zr0 28
 have hfl:lFir.length=29:=by decide
 refine gGw ?_
 refine zao zaa mixed (by kernel_rfl) rfl ?_
 refine gGw ?_
 refine And.intro ⟨by omega,by omega,hp2⟩ ?_
 conv=>whnf
 refine⟨_,(ldR zaa (by repeat constructor) rfl rfl (zbg (xs:=lFir) (j:=(s-257).toNat) (by omega))).g,?_⟩
 refine gGw ?_
 refine And.intro ⟨by omega,by omega,hp1⟩ ?_
 conv=>whnf
 refine⟨_,(ldR zaa (by repeat constructor) rfl rfl (zbg (xs:=lWid 28) (j:=(s-257).toNat) (by omega))).g,?_⟩
 refine gGw ?_
 exact fin3 rfl rfl rfl rfl (fun w' hm=>⟨_,⟨rfl,rfl⟩,hm.sublist (List.nil_sublist _)⟩)
theorem zpN (s:Int) (w:World) (hs:0≤s∧s≤29) :
  Ctr Tryz.prog 236 [.int .i64 s] [] (fun e m'=>e=.returned (.tuple #[.int .i64 (dFir.getD s.toNat 0),.int .i64 ((dWid 30).getD s.toNat 0),.int .i64 0])∧m'=[]) w:=by
 refine enter (cx:=CXS 25 [] w (Foot [])) [(0,.int .i64 s)] zaa Tryz.func236 rfl rfl rfl rfl (MemOk.nil w _) ?_
 refine gGw ?_
 refine br_f (by rw [decide_eq_false (by omega),decide_eq_false (by omega)];rfl) ?_
 refine gGw ?_
 refine⟨zmu,zac (m1:=[]) .nil (fun w' hm'=>(zsD w').ex) ?_⟩
 rintro e m' ⟨⟨wA,wc,rA,rc,rfl,rfl⟩,w9,hok⟩
 have hp1:Pl wA:=zft (hok _ (List.mem_cons_self ..)) (by rw [List.length_map];decide)
 have hp2:Pl rA:=zft (hok _ (List.mem_cons_of_mem _ (List.mem_cons_self ..))) (by rw [List.length_map];decide)
 have hll:(dWid 30).length=30:=zvN 30
 have hfl:(firF 1 (dWid 30)).length=30:=by decide
 have hfe:firF 1 (dWid 30)=dFir:=rfl
 refine gGw ?_
 refine zao zaa mixed (by kernel_rfl) rfl ?_
 refine gGw ?_
 refine And.intro ⟨by omega,by omega,hp2⟩ ?_
 conv=>whnf
 refine⟨_,(ldR zaa (by repeat constructor) rfl rfl (zbg (xs:=firF 1 (dWid 30)) (j:=s.toNat) (by omega))).g,?_⟩
 refine gGw ?_
 refine And.intro ⟨by omega,by omega,hp1⟩ ?_
 conv=>whnf
 refine⟨_,(ldR zaa (by repeat constructor) rfl rfl (zbg (xs:=dWid 30) (j:=s.toNat) (by omega))).g,?_⟩
 refine gGw ?_
 exact fin3 rfl rfl rfl rfl (fun w' hm=>⟨_,⟨rfl,rfl⟩,hm.sublist (List.nil_sublist _)⟩)
end
abbrev DRes:=Except Int (Nat × List Int)
def zfL (bs:List UInt8) (at_ n:Nat):Except Int (Nat × Nat):=if at_+n≤8*bs.length then .ok (zbS bs at_ n,at_+n) else .error 120
def tkB (L:List Int) (bs:List UInt8) (at_:Nat):Int × Int × Nat:=tkF L ⟨0,none,0,bs⟩ at_
def symE (L:List Int) (bs:List UInt8) (at_:Nat):Except Int (Int × Nat):=if (tkB L bs at_).2.1=0 then .ok ((tkB L bs at_).1,(tkB L bs at_).2.2) else .error (tkB L bs at_).2.1
def zkc (bs:List UInt8) (most:Int) (at_:Nat) (o:List Int):DRes :=
 match zfL bs (zb5 at_) 16 with
 | .error e=>.error e
 | .ok (n,a1)=>match zfL bs a1 16 with
  | .error e=>.error e
  | .ok (m,a2) =>
   if Go.bits .xor .u64 (n:Int) (m:Int)=65535 then
    if most-o.length<n then .error 141
    else if n≤(8*bs.length-a2)/8 then .ok (a2+8*n,o++zag ((bs.drop (a2/8)).take n)) else .error 120
   else .error 150
def cpy (far:Nat) (o:List Int):Nat→List Int
 | 0=>o
 | i+1=>cpy far o i++[(cpy far o i).getD ((cpy far o i).length-far) 0]
def zoy (bs:List UInt8) (D:List Int) (most x:Int) (at_:Nat) (o:List Int):DRes :=
 match zfL bs at_ ((lWid 28).getD (x-257).toNat 0).toNat with
 | .error e=>.error e
 | .ok (more,a1) =>
  if x=284∧more=31 then .error 152
  else match symE D bs a1 with
   | .error e=>.error e
   | .ok (y,a2) =>
    if 29<y then .error 152
    else match zfL bs a2 ((dWid 30).getD y.toNat 0).toNat with
     | .error e=>.error e
     | .ok (m2,a3) =>
      if (o.length:Int)<dFir.getD y.toNat 0+m2 then .error 140
      else if most-o.length<lFir.getD (x-257).toNat 0+more then .error 141
      else .ok (a3,cpy (dFir.getD y.toNat 0+m2).toNat o (lFir.getD (x-257).toNat 0+more).toNat)
def zeP (bs:List UInt8) (L D:List Int) (most:Int):Nat→Nat→List Int→DRes
 | 0,_,_=>.error 120
 | f+1,at_,o=>match symE L bs at_ with
  | .error e=>.error e
  | .ok (x,a1) =>
   if x=256 then .ok (a1,o)
   else if 285<x then .error 152
   else if 256<x then match zoy bs D most x a1 o with
    | .error e=>.error e
    | .ok (a2,o2)=>zeP bs L D most f a2 o2
   else if most≤o.length then .error 141
   else zeP bs L D most f a1 (o++[x])
def rowF (bs:List UInt8) (C:List Int) (n:Nat):Nat→Nat→List Int→DRes
 | 0,_,_=>.error 120
 | f+1,at_,r =>
  if r.length=n then .ok (at_,r)
  else match symE C bs at_ with
   | .error e=>.error e
   | .ok (x,a1) =>
    if x=16 then match zfL bs a1 2 with
     | .error e=>.error e
     | .ok (m,a2)=>if r.length=0 then .error 151 else if n<3+m+r.length then .error 151 else rowF bs C n f a2 (r++List.replicate (3+m) (r.getD (r.length-1) 0))
    else if x=17 then match zfL bs a1 3 with
     | .error e=>.error e
     | .ok (m,a2)=>if n<3+m+r.length then .error 151 else rowF bs C n f a2 (r++List.replicate (3+m) 0)
    else if x=18 then match zfL bs a1 7 with
     | .error e=>.error e
     | .ok (m,a2)=>if n<11+m+r.length then .error 151 else rowF bs C n f a2 (r++List.replicate (11+m) 0)
    else rowF bs C n f a1 (r++[x])
def ordL:List Int:=[16,17,18,0,8,7,9,6,10,5,11,4,12,3,13,2,14,1,15]
def zrX (bs:List UInt8):Nat→Nat→Nat→List Int→DRes
 | 0,_,at_,l=>.ok (at_,l)
 | r+1,i,at_,l=>match zfL bs at_ 3 with
  | .error e=>.error e
  | .ok (m,a)=>zrX bs r (i+1) a (l.set (ordL.getD i 0).toNat m)
def zfp (bs:List UInt8):Nat:=8*bs.length+1
def fixL:List Int:=(List.range 288).map fun i=>if 280≤i∨i<144 then 8 else if i<256 then 9 else 7
def fixD:List Int:=List.replicate 32 5
def zoQ (bs:List UInt8) (most:Int) (at_:Nat) (o:List Int):DRes:=zeP bs fixL fixD most (zfp bs) at_ o
def dynK (bs:List UInt8) (most:Int) (a b:Nat) (o:List Int):DRes→DRes
 | .error e=>.error e
 | .ok (a4,l) =>
  if zet l false=0 then
   match rowF bs l (a+b) (zfp bs) a4 [] with
   | .error e=>.error e
   | .ok (a5,r) =>
    if r.getD 256 0=0 then .error 151
    else if zet (r.take a) false=0 then
     if zet (r.drop a) true=0 then zeP bs (r.take a) (r.drop a) most (zfp bs) a5 o
     else .error (zet (r.drop a) true)
    else .error (zet (r.take a) false)
  else .error (zet l false)
def zhK (bs:List UInt8) (most:Int) (at_:Nat) (o:List Int):DRes :=
 match zfL bs at_ 5 with
 | .error e=>.error e
 | .ok (a,a1)=>match zfL bs a1 5 with
  | .error e=>.error e
  | .ok (b,a2)=>match zfL bs a2 4 with
   | .error e=>.error e
   | .ok (c,a3) =>
    if 286<a+257∨30<b+1 then .error 151
    else dynK bs most (a+257) (b+1) o (zrX bs (c+4) 0 a3 (List.replicate 19 0))
def zuV (bs:List UInt8) (most:Int) (kind at_:Nat) (o:List Int):DRes :=
 if kind=0 then zkc bs most at_ o else if kind=1 then zoQ bs most at_ o else if kind=2 then zhK bs most at_ o else .error 150
def zgx (K:Nat→Nat→DRes) (bs:List UInt8) (at_:Nat):Except Int (Bool × Nat × List Int) :=
 match zfL bs at_ 1 with
 | .error e=>.error e
 | .ok (last,a1)=>match zfL bs a1 2 with
  | .error e=>.error e
  | .ok (kind,a2)=>match K kind a2 with
   | .error e=>.error e
   | .ok (a3,o2)=>.ok (decide (last=1),a3,o2)
def zo0 (bs:List UInt8) (most:Int) (at_:Nat) (o:List Int):Except Int (Bool × Nat × List Int):=zgx (fun kd a=>zuV bs most kd a o) bs at_
def zgD (bs:List UInt8) (most:Int):Nat→Nat→List Int→DRes
 | 0,_,_=>.error 120
 | f+1,at_,o=>match zo0 bs most at_ o with
  | .error e=>.error e
  | .ok (last,a,o2)=>if last then .ok (a,o2) else zgD bs most f a o2
def zda (bs:List UInt8) (most:Int):Bool:=match zgD bs most (zfp bs) 0 [] with
 | .error _=>true
 | .ok (_,o)=>!decide ((o.length:Int)=most)
theorem zbq {bs:List UInt8} {a n:Nat} (h:a+n≤8*bs.length):zfL bs a n=.ok (zbS bs a n,a+n):=if_pos h
theorem zbQ {bs:List UInt8} {a n:Nat} (h:¬ a+n≤8*bs.length):zfL bs a n=.error 120:=if_neg h
theorem zvy (ms:List Int) (h:Int):∀ (f n:Nat) (code first index:Int) (v k:Nat) (i c d:Int),tk1 ms h f n code first index v=(some (k,i),c,d)→n≤k∧(k:Int)≤h
 | 0,n,code,first,index,v,k,i,c,d,e=>by rw [tk1] at e;cases e
 | f+1,n,code,first,index,v,k,i,c,d,e=>by
  rw [tk1] at e
  split at e
  ·cases e
  ·rename_i hh
   split at e
   ·injection e with e1 e2
    injection e1 with e1
    injection e1 with e1 e3
    subst e1;omega
   ·have:=zvy ms h f (n+1) _ _ _ _ k i c d e
    omega
theorem zvx (ms:List Int):∀ (f n:Nat) (c d:Int),tk2 ms f n c d≠0
 | 0,n,c,d=>by rw [tk2];decide
 | f+1,n,c,d=>by
  rw [tk2]
  split
  ·decide
  ·exact zvx ms f _ _ _
theorem zt1 {L:List Int} {bs:List UInt8} {at_:Nat} {c d:Int} (h:tk1 (zdf L) (hvqF ⟨0,none,0,bs⟩ at_) 15 1 0 0 0 (zbS bs at_ 15)=(none,c,d)):(tkB L bs at_).2.1≠0:=by
 unfold tkB tkF
 rw [h]
 exact zvx _ _ _ _ _
theorem zt0 {L:List Int} {bs:List UInt8} {at_ k:Nat} {i c d:Int} (h:tk1 (zdf L) (hvqF ⟨0,none,0,bs⟩ at_) 15 1 0 0 0 (zbS bs at_ 15)=(some (k,i),c,d)):tkB L bs at_=((zct L).getD i.toNat 0,0,at_+k):=by
 unfold tkB tkF
 rw [h]
theorem zt7 (L:List Int) (i:Nat):0≤(zct L).getD i 0∧((zct L).getD i 0<L.length∨(zct L).getD i 0=0):=by
 by_cases h:i<(zct L).length
 ·have hm:=zbC h
  have:=zhv L L.length _ ((zeA (keyL L) (sym0 L L.length)).mem_iff.1 hm)
  omega
 ·rw [List.getD_eq_getElem?_getD,List.getElem?_eq_none (by omega)];simp
theorem zmJ {L:List Int} {bs:List UInt8} {at_ a:Nat} {x:Int} (ha:at_≤8*bs.length) (h:symE L bs at_=.ok (x,a)):at_<a∧a≤8*bs.length∧0≤x∧(x<L.length∨x=0):=by
 unfold symE at h
 split at h
 ·rename_i h0
  injection h with h
  injection h with h1 h2
  rcases hk:tk1 (zdf L) (hvqF ⟨0,none,0,bs⟩ at_) 15 1 0 0 0 (zbS bs at_ 15) with ⟨o,c,d⟩
  cases o with
  | none=>exact absurd h0 (zt1 hk)
  | some ki =>
   obtain ⟨k,i⟩:=ki
   have hb:=zvy _ _ _ _ _ _ _ _ _ _ _ _ hk
   have e:=zt0 hk
   rw [e] at h1 h2
   simp only at h1 h2
   have hs:=zt7 L i.toNat
   rw [h1] at hs
   have hh:hvqF ⟨0,none,0,bs⟩ at_≤8*(bs.length:Int)-at_:=by unfold hvqF;split<;>(simp only at *;omega)
   omega
 ·cases h
theorem zmK {L:List Int} {bs:List UInt8} {at_:Nat} {n:Int} (h:symE L bs at_=.error n):n≠0:=by
 unfold symE at h
 split at h
 ·cases h
 ·rename_i h0;injection h with h;subst h;exact h0
theorem zar {q:Rdr} {a n:Nat} (h:a+n≤8*q.bs.length):(zgH q a n).1=zbS q.bs a n∧(zgH q a n).2.1=0∧(zgH q a n).2.2=a+n:=by
 rw [zgH,if_pos h];exact⟨rfl,rfl,rfl⟩
theorem zas {q:Rdr} {a n:Nat} (h:¬ a+n≤8*q.bs.length):(zgH q a n).1=0∧(zgH q a n).2.1=120∧(zgH q a n).2.2=a:=by
 rw [zgH,if_neg h];exact⟨rfl,rfl,rfl⟩
theorem zmL {L:List Int} {bs:List UInt8} {at_:Nat} {n:Int} (h:symE L bs at_=.error n):(tkB L bs at_).2.1=n:=by
 unfold symE at h
 split at h
 ·cases h
 ·injection h
theorem zmM {L:List Int} {bs:List UInt8} {at_ a:Nat} {x:Int} (h:symE L bs at_=.ok (x,a)):(tkB L bs at_).1=x∧(tkB L bs at_).2.1=0∧(tkB L bs at_).2.2=a:=by
 unfold symE at h
 split at h
 ·rename_i h0
  injection h with h
  injection h with h1 h2
  exact⟨h1,h0,h2⟩
 ·cases h
theorem zq5 (L:List Int) (q:Rdr) (at_:Nat):tkF L q at_=tkB L q.bs at_:=rfl
theorem znC (far:Nat) (o:List Int):∀ i,(cpy far o i).length=o.length+i
 | 0=>rfl
 | i+1=>by rw [cpy,List.length_append,znC far o i];simp;omega
theorem zqu {K:Nat→Nat→DRes} {bs:List UInt8} {at_:Nat} (h:¬ at_+1≤8*bs.length):zgx K bs at_=.error 120:=by
 unfold zgx
 rw [zbQ h]
theorem zqt {K:Nat→Nat→DRes} {bs:List UInt8} {at_:Nat} (h:at_+1≤8*bs.length) (h2:¬ at_+1+2≤8*bs.length):zgx K bs at_=.error 120:=by
 unfold zgx
 rw [zbq h]
 simp only
 rw [zbQ h2]
theorem zsN {K:Nat→Nat→DRes} {bs:List UInt8} {at_:Nat} {n:Int} (h:at_+1≤8*bs.length) (h2:at_+1+2≤8*bs.length) (hk:K (zbS bs (at_+1) 2) (at_+1+2)=.error n):zgx K bs at_=.error n:=by
 unfold zgx
 rw [zbq h]
 simp only
 rw [zbq h2]
 simp only
 rw [hk]
theorem zsM {K:Nat→Nat→DRes} {bs:List UInt8} {at_ a3:Nat} {o2:List Int} (h:at_+1≤8*bs.length) (h2:at_+1+2≤8*bs.length) (hk:K (zbS bs (at_+1) 2) (at_+1+2)=.ok (a3,o2)):zgx K bs at_=.ok (decide (zbS bs at_ 1=1),a3,o2):=by
 unfold zgx
 rw [zbq h]
 simp only
 rw [zbq h2]
 simp only
 rw [hk]
/-! ## A world in which what is known is so -/
theorem dr_w {cx:Cx} {id:Nat} {ops:Array Oper} {k:Exit→Env→Mem→Prop} {e:Env} {m:Mem} (h:(∃ w',MemOk cx.w0 cx.S m w')→Dr cx id ops k e m):Dr cx id ops k e m:=fun a w he hm=>h ⟨w,hm⟩ a w he hm
theorem rn_w {cx:Cx} {m:Mem} {I:Sem Value} {K:Value→Mem→Prop} (h:(∃ w',MemOk cx.w0 cx.S m w')→Rn cx m I K):Rn cx m I K:=fun w hm=>h ⟨w,hm⟩ w hm
theorem zxy {xs:List Int} {j:Nat} (h:j<xs.length):(xs.map (Value.int .u8))[j]?=some (.int .u8 (xs.getD j 0)):=by
 rw [List.getElem?_map,List.getD_eq_getElem?_getD,List.getElem?_eq_getElem h];rfl
/-! ## A stream -/
structure Stm where
 B:Nat
 q:Rdr
 most:Int
abbrev stC (s:Stm) (A:Option Addr) (c:Nat) (o:List Int):List Value:=[.pointer (some ⟨s.q.B,0,none⟩),.slice A o.length c,.int .i64 s.most]
abbrev StM (s:Stm) (at_:Nat) (A:Option Addr) (c:Nat) (o:List Int):Mem:=.blk s.B (.cells (stC s A c o).toArray 231)::.row A c o.length 5 1 (o.map (.int .u8))::RM s.q at_
theorem zmO (s:Stm) (a:Nat) (A:Option Addr) (c:Nat) (o ys:List Int):StM s a A c (o++ys)=.blk s.B (.cells [.pointer (some ⟨s.q.B,0,none⟩),.slice A (o.length+ys.length) c,.int .i64 s.most].toArray 231)::.row A c (o.length+ys.length) 5 1 (o.map (.int .u8)++ys.map (.int .u8))::RM s.q a:=by
 unfold StM stC
 rw [List.length_append,List.map_append]
def StR (s:Stm) (at_:Nat) (r:DRes) (e:Ending) (m':Mem):Prop :=
 (∃ n,r=.error n∧n≠0∧e=.panicked (upP n)∧m'=[]) ∨
 ∃ a o A c,r=.ok (a,o)∧at_≤a∧a≤8*s.q.bs.length∧(o.length:Int)≤s.most∧e=.returned (.tuple #[])∧m'=StM s a A c o
def StP (pre:Mem) (s:Stm) (at_:Nat) (r:DRes) (e:Ending) (m':Mem):Prop :=
 (∃ n,r=.error n∧n≠0∧e=.panicked (upP n)∧m'=[]) ∨
 ∃ a o A c,r=.ok (a,o)∧at_≤a∧a≤8*s.q.bs.length∧(o.length:Int)≤s.most∧e=.returned (.tuple #[])∧m'=pre++StM s a A c o
structure Stm.Ok (s:Stm) (at_:Nat) (o:List Int):Prop where
 len:s.q.bs.length≤20000000
 at_:at_≤8*s.q.bs.length
 most:0≤s.most∧s.most≤1048576
 out:(o.length:Int)≤s.most
section
attribute [local irreducible] Br Rn RnU Cl RdG CpG Ld Rd Lp Dr Oth Cut fin Fits Eng.Enters Md NA
theorem zjf:Eng.Enters Tryz.prog 168:=zab fun _ _=>by kernel_rfl
theorem znw (s:Stm) (at_:Nat) (A:Option Addr) (c:Nat) (o:List Int) (w:World) (hs:s.Ok at_ o) (hm:MemOk w (Foot (StM s at_ A c o)) (StM s at_ A c o) w) :
  Ctr Tryz.prog 168 [.pointer (some ⟨s.B,0,none⟩)] (StM s at_ A c o) (StR s at_ (zkc s.q.bs s.most at_ o)) w:=by
 obtain ⟨hl,ha,hmo,ho⟩:=hs
 refine enter (cx:=CXS 62 [] w (Foot (StM s at_ A c o))) [(0,.pointer (some ⟨s.B,0,none⟩))] zaa Tryz.func168 rfl rfl rfl rfl hm ?_
 have ha1:zb5 at_≤8*s.q.bs.length∧at_≤zb5 at_∧zb5 at_%8=0:=by unfold zb5;omega
 generalize hR:zkc s.q.bs s.most at_ o=R
 unfold zkc at hR
 refine gGw ?_
 refine⟨zmB,zac (m1:=RM s.q at_) (by repeat constructor) (fun w' hm'=>zsX s.q at_ w' hl ha hm'.part) ?_⟩
 rintro e m' ⟨rfl,rfl⟩
 generalize zb5 at_=a0 at hR ha1
 refine gGw ?_
 refine⟨zaX,zac (m1:=RM s.q (a0)) (by repeat constructor) (fun w' hm'=>zbN s.q (a0) (16) w' hl (by omega) (by omega) hm'.part) ?_⟩
 rintro e m' ⟨rfl,rfl⟩
 by_cases h1:a0+16≤8*s.q.bs.length
 rotate_left
 ·rw [zbQ h1] at hR
  simp only at hR
  rw [(zas h1).1,(zas h1).2.1,(zas h1).2.2]
  refine gGw ?_
  refine⟨zaq,zac (m1:=[]) .nil (fun w' hm'=>zaD _ 120 w') ?_⟩
  rintro e m' ⟨rfl,rfl⟩
  rw [if_neg (by decide)]
  conv=>whnf
  exact zap (fun w' hm=>⟨_,.inl ⟨120,hR.symm,by decide,rfl,rfl⟩,hm.sublist (List.nil_sublist _)⟩)
 rw [zbq h1] at hR
 simp only at hR
 rw [(zar h1).1,(zar h1).2.1,(zar h1).2.2]
 refine gGw ?_
 refine⟨zaq,zac (m1:=[]) .nil (fun w' hm'=>zaD _ 0 w') ?_⟩
 rintro e m' ⟨rfl,rfl⟩
 rw [if_pos rfl]
 refine gGw ?_
 refine⟨zaX,zac (m1:=RM s.q (a0+16)) (by repeat constructor) (fun w' hm'=>zbN s.q (a0+16) (16) w' hl (by omega) (by omega) hm'.part) ?_⟩
 rintro e m' ⟨rfl,rfl⟩
 by_cases h2:a0+16+16≤8*s.q.bs.length
 rotate_left
 ·rw [zbQ h2] at hR
  simp only at hR
  rw [(zas h2).1,(zas h2).2.1,(zas h2).2.2]
  refine gGw ?_
  refine⟨zaq,zac (m1:=[]) .nil (fun w' hm'=>zaD _ 120 w') ?_⟩
  rintro e m' ⟨rfl,rfl⟩
  rw [if_neg (by decide)]
  conv=>whnf
  exact zap (fun w' hm=>⟨_,.inl ⟨120,hR.symm,by decide,rfl,rfl⟩,hm.sublist (List.nil_sublist _)⟩)
 rw [zbq h2] at hR
 simp only at hR
 rw [(zar h2).1,(zar h2).2.1,(zar h2).2.2]
 refine gGw ?_
 refine⟨zaq,zac (m1:=[]) .nil (fun w' hm'=>zaD _ 0 w') ?_⟩
 rintro e m' ⟨rfl,rfl⟩
 rw [if_pos rfl]
 refine gGw ?_
 have hn1:=zhC s.q.bs a0 16
 generalize zbS s.q.bs (a0+16) 16=m1 at hR ⊢
 generalize zbS s.q.bs a0 16=n1 at hR hn1 ⊢
 have hraw:rawB s.q (a0+16+16) n1↔n1≤(8*s.q.bs.length-(a0+16+16))/8:=by unfold rawB;omega
 by_cases hx:Go.bits .xor .u64 (n1:Int) (m1:Int)=65535
 rotate_left
 ·rw [if_neg hx] at hR
  refine br_n (br_f (decide_eq_false hx) ?_)
  refine gGw ?_
  exact zap (fun w' hm=>⟨_,.inl ⟨150,hR.symm,by decide,rfl,rfl⟩,hm.sublist (List.nil_sublist _)⟩)
 rw [if_pos hx] at hR
 refine br_n (br_t (decide_eq_true hx) ?_)
 conv=>whnf
 refine zao zaa mixed (by kernel_rfl) rfl ?_
 refine gGw ?_
 refine br_d (fun hgt=>?_) (fun hle=>?_)
 ·rw [if_pos (by omega)] at hR
  refine gGw ?_
  exact zap (fun w' hm=>⟨_,.inl ⟨141,hR.symm,by decide,rfl,rfl⟩,hm.sublist (List.nil_sublist _)⟩)
 rw [if_neg (by omega)] at hR
 conv=>whnf
 refine ziP (γ:=Option Addr × Nat) 18 (Tr.hs [0,1,2,3,4,5,6,7,8,9,10] (.sq [11] (.hs [12,13] (.sq [14,15,16,17,18] .done)))) [.blk s.B (.cells (stC s A c o).toArray 231)] zaa mixed (by kernel_rfl) rfl
  (fun _=>n1≤(8*s.q.bs.length-(a0+16+16))/8) (fun _=>[]) (fun g=>StM s (a0+16+16+8*n1) g.1 g.2 (o++zag ((s.q.bs.drop ((a0+16+16)/8)).take n1))) SubM.sl ?_ ?_
 ·refine gGw ?_
  refine⟨zpL,zac (m1:=RM s.q (a0+16+16)) (by repeat constructor) (fun w' hm'=>zwJ s.q (a0+16+16) n1 w' hl (by omega) (by omega) hm'.part) ?_⟩
  rintro e m' hr
  unfold RawR at hr
  by_cases hrb:n1≤(8*s.q.bs.length-(a0+16+16))/8
  ·rw [if_pos (hraw.2 hrb)] at hr
   obtain ⟨rA,rc,rfl,rfl⟩:=hr
   have hyl:(zag ((s.q.bs.drop ((a0+16+16)/8)).take n1)).length=n1:=by rw [zaf,List.length_take,List.length_drop];omega
   generalize zag ((s.q.bs.drop ((a0+16+16)/8)).take n1)=ys at hyl ⊢
   generalize a0+16+16+8*n1=a3
   subst hyl
   refine gGt ?_
   refine⟨zhi,zac (m1:=[]) .nil (fun w' hm'=>zl8 _ 0 w') ?_⟩
   rintro e m' ⟨rfl,rfl⟩
   rw [if_pos rfl]
   conv=>whnf
   refine gGs ?_
   conv=>whnf
   refine⟨?_,trivial⟩
   conv=>whnf
   refine zgO (k:=.u8) (ys:=ys) zaa rfl rfl rfl rfl rfl rfl (by repeat constructor) (fun w' hm'=>rowI (hm'.ok (.row rA rc ys.length 5 1 (ys.map (.int .u8))) (by simp))) (by omega) (fun A1 c1=>?_)
   refine gGt ?_
   refine⟨(A1,c1),hrb,trivial,?_⟩
   rw [zmO]
   exact SubM.sl
  ·rw [if_neg (fun h=>hrb (hraw.1 h))] at hr
   obtain ⟨rfl,rfl⟩:=hr
   rw [if_neg hrb] at hR
   refine gGt ?_
   refine⟨zhi,zac (m1:=[]) .nil (fun w' hm'=>zl8 _ 120 w') ?_⟩
   rintro e m' ⟨rfl,rfl⟩
   rw [if_neg (by decide)]
   conv=>whnf
   exact zap (fun w' hm=>⟨_,.inl ⟨120,hR.symm,by decide,rfl,rfl⟩,hm.sublist (List.nil_sublist _)⟩)
 ·rintro ⟨gA,gc⟩ hrb
  rw [if_pos hrb] at hR
  refine gGw ?_
  refine fin0 rfl (fun w' hm=>⟨_,.inr ⟨_,_,gA,gc,hR.symm,by omega,by omega,?_,rfl,rfl⟩,hm⟩) (.inr rfl)
  rw [List.length_append,zaf,List.length_take,List.length_drop]
  omega
end
section
theorem zfy {x:Int} (h:0≤x):∃ n:Nat,x=(n:Int):=⟨x.toNat,(Int.toNat_of_nonneg h).symm⟩
theorem zej (bs:List UInt8) (a:Nat) {n k:Nat} (h:n≤k):zbS bs a n<2 ^ k:=Nat.lt_of_lt_of_le (zhC bs a n) (Nat.pow_le_pow_right (by omega) h)
attribute [local irreducible] Br Rn RnU Cl RdG CpG Ld Rd Lp Dr Oth Cut fin Fits Eng.Enters Md NA
theorem zk2:Eng.Enters Tryz.prog 217:=zab fun _ _=>by kernel_rfl
set_option maxHeartbeats 1000000 in
theorem zqi (s:Stm) (d:Cd) (x:Int) (at_:Nat) (A:Option Addr) (c:Nat) (o:List Int) (w:World) (hs:s.Ok at_ o) (hd:newE d.L=0) (hx:257≤x∧x≤285) (hm:MemOk w (Foot (CdM d++StM s at_ A c o)) (CdM d++StM s at_ A c o) w) :
  Ctr Tryz.prog 217 [.pointer (some ⟨s.B,0,none⟩),.int .i64 x,.pointer (some ⟨d.B,0,none⟩)] (CdM d++StM s at_ A c o) (StP (CdM d) s at_ (zoy s.q.bs d.L s.most x at_ o)) w:=by
 obtain ⟨hl,ha,hmo,ho⟩:=hs
 refine enter (cx:=CXS 118 [] w (Foot (CdM d++StM s at_ A c o))) [(0,.pointer (some ⟨s.B,0,none⟩)),(1,.int .i64 x),(2,.pointer (some ⟨d.B,0,none⟩))] zaa Tryz.func217 rfl rfl rfl rfl hm ?_
 generalize hR:zoy s.q.bs d.L s.most x at_ o=R
 unfold zoy at hR
 refine gGw ?_
 refine⟨zl5,zac (m1:=[]) .nil (fun w' hm'=>zrL x w' hx) ?_⟩
 rintro e m' ⟨rfl,rfl⟩
 have hk:=zxW (x-257).toNat (by omega)
 have hk2:=zxV (x-257).toNat (by omega)
 generalize lFir.getD (x-257).toNat 0=fi at hk hR ⊢
 obtain ⟨wd,hwd⟩:=zfy hk2.1
 rw [hwd] at hR hk2
 rw [hwd]
 rw [Int.toNat_natCast] at hR
 have hb1:=zej s.q.bs at_ (n:=wd) (k:=5) (by omega)
 refine gGw ?_
 refine⟨zaX,zac (m1:=RM s.q (at_)) (by repeat constructor) (fun w' hm'=>zbN s.q (at_) (wd) w' hl (by omega) (by omega) hm'.part) ?_⟩
 rintro e m' ⟨rfl,rfl⟩
 by_cases h1:at_+wd≤8*s.q.bs.length
 rotate_left
 ·rw [zbQ h1] at hR
  simp only at hR
  rw [(zas h1).1,(zas h1).2.1,(zas h1).2.2]
  refine gGw ?_
  refine⟨zaq,zac (m1:=[]) .nil (fun w' hm'=>zaD _ 120 w') ?_⟩
  rintro e m' ⟨rfl,rfl⟩
  rw [if_neg (by decide)]
  conv=>whnf
  exact zap (fun w' hm=>⟨_,.inl ⟨120,hR.symm,by decide,rfl,rfl⟩,hm.sublist (List.nil_sublist _)⟩)
 rw [zbq h1] at hR
 simp only at hR
 rw [(zar h1).1,(zar h1).2.1,(zar h1).2.2]
 refine gGw ?_
 refine⟨zaq,zac (m1:=[]) .nil (fun w' hm'=>zaD _ 0 w') ?_⟩
 rintro e m' ⟨rfl,rfl⟩
 rw [if_pos rfl]
 refine gGw ?_
 generalize zbS s.q.bs at_ wd=more at hR hb1 ⊢
 by_cases hsp:x=284∧more=31
 ·rw [if_pos hsp] at hR
  refine br_t (by rw [decide_eq_true hsp.1,decide_eq_true (show (more:Int)=31 by omega)];rfl) ?_
  refine gGw ?_
  exact zap (fun w' hm=>⟨_,.inl ⟨152,hR.symm,by decide,rfl,rfl⟩,hm.sublist (List.nil_sublist _)⟩)
 rw [if_neg hsp] at hR
 refine br_f (by rw [← Bool.decide_and];exact decide_eq_false (fun h=>hsp ⟨h.1,by omega⟩)) ?_
 refine gGw ?_
 refine⟨zeU,zac (m1:=CdM d++RM s.q (at_+wd)) (by repeat constructor) (fun w' hm'=>ziD d s.q (at_+wd) w' hl (by omega) hd hm'.part) ?_⟩
 rintro e m' ⟨rfl,rfl⟩
 rw [zq5]
 rcases h2:symE d.L s.q.bs (at_+wd) with n|⟨y,a2⟩
 ·rw [h2] at hR
  simp only at hR
  have hn:=zmK h2
  have he:=zmL h2
  rw [he]
  refine gGw ?_
  refine⟨zch,zac (m1:=[]) .nil (fun w' hm'=>zdX _ n w') ?_⟩
  rintro e m' ⟨rfl,rfl⟩
  rw [if_neg hn]
  conv=>whnf
  exact zap (fun w' hm=>⟨_,.inl ⟨n,hR.symm,hn,rfl,rfl⟩,hm.sublist (List.nil_sublist _)⟩)
 rw [h2] at hR
 simp only at hR
 have h2b:=zmJ (by omega) h2
 obtain ⟨h21,h22,h23⟩:=zmM h2
 rw [h21,h22,h23]
 refine gGw ?_
 refine⟨zch,zac (m1:=[]) .nil (fun w' hm'=>zdX _ 0 w') ?_⟩
 rintro e m' ⟨rfl,rfl⟩
 rw [if_pos rfl]
 refine gGw ?_
 by_cases hy:29<y
 ·rw [if_pos hy] at hR
  refine br_t (decide_eq_true hy) ?_
  refine gGw ?_
  exact zap (fun w' hm=>⟨_,.inl ⟨152,hR.symm,by decide,rfl,rfl⟩,hm.sublist (List.nil_sublist _)⟩)
 rw [if_neg hy] at hR
 refine br_f (decide_eq_false hy) ?_
 refine gGw ?_
 refine⟨zkE,zac (m1:=[]) .nil (fun w' hm'=>zpN y w' (by omega)) ?_⟩
 rintro e m' ⟨rfl,rfl⟩
 have hj:=zyd y.toNat (by omega)
 have hj2:=zyc y.toNat (by omega)
 generalize dFir.getD y.toNat 0=di at hj hR ⊢
 obtain ⟨we,hwe⟩:=zfy hj2.1
 rw [hwe] at hR hj2
 rw [hwe]
 rw [Int.toNat_natCast] at hR
 have hb2:=zej s.q.bs a2 (n:=we) (k:=13) (by omega)
 refine gGw ?_
 refine⟨zaX,zac (m1:=RM s.q (a2)) (by repeat constructor) (fun w' hm'=>zbN s.q (a2) (we) w' hl (by omega) (by omega) hm'.part) ?_⟩
 rintro e m' ⟨rfl,rfl⟩
 by_cases h3:a2+we≤8*s.q.bs.length
 rotate_left
 ·rw [zbQ h3] at hR
  simp only at hR
  rw [(zas h3).1,(zas h3).2.1,(zas h3).2.2]
  refine gGw ?_
  refine⟨zaq,zac (m1:=[]) .nil (fun w' hm'=>zaD _ 120 w') ?_⟩
  rintro e m' ⟨rfl,rfl⟩
  rw [if_neg (by decide)]
  conv=>whnf
  exact zap (fun w' hm=>⟨_,.inl ⟨120,hR.symm,by decide,rfl,rfl⟩,hm.sublist (List.nil_sublist _)⟩)
 rw [zbq h3] at hR
 simp only at hR
 rw [(zar h3).1,(zar h3).2.1,(zar h3).2.2]
 refine gGw ?_
 refine⟨zaq,zac (m1:=[]) .nil (fun w' hm'=>zaD _ 0 w') ?_⟩
 rintro e m' ⟨rfl,rfl⟩
 rw [if_pos rfl]
 refine gGw ?_
 generalize zbS s.q.bs a2 we=m2 at hR hb2 ⊢
 refine br_d (fun hfar=>?_) (fun hfar=>?_)
 ·rw [if_pos (by omega)] at hR
  refine gGw ?_
  exact zap (fun w' hm=>⟨_,.inl ⟨140,hR.symm,by decide,rfl,rfl⟩,hm.sublist (List.nil_sublist _)⟩)
 rw [if_neg (by omega)] at hR
 conv=>whnf
 refine zao zaa mixed (by kernel_rfl) rfl ?_
 refine gGw ?_
 refine br_d (fun hlg=>?_) (fun hlg=>?_)
 ·rw [if_pos (by omega)] at hR
  refine gGw ?_
  exact zap (fun w' hm=>⟨_,.inl ⟨141,hR.symm,by decide,rfl,rfl⟩,hm.sublist (List.nil_sublist _)⟩)
 rw [if_neg (by omega)] at hR
 refine gGw ?_
 obtain ⟨fa,hfa⟩:=zfy (x:=di+(m2:Int)) (by omega)
 obtain ⟨n,hn⟩:=zfy (x:=fi+(more:Int)) (by omega)
 rw [hfa,hn] at hR
 rw [hfa,hn]
 rw [Int.toNat_natCast,Int.toNat_natCast] at hR
 have hfl:1≤fa∧fa≤o.length:=by omega
 have hnl:(o.length:Int)+n≤s.most:=by omega
 have hat:at_≤a2+we:=by omega
 clear hsp hfar hlg hfa hn hwd hwe
 generalize a2+we=a3 at h3 hat hR ⊢
 refine lp zaa (γ:=Nat × Option Addr × Nat) (fun g=>g.1≤n) (fun g=>[(93,.int .i64 (g.1:Int)),(92,.int .i64 (n:Int)),(12,.int .i64 (fa:Int)),(0,.pointer (some ⟨s.B,0,none⟩))]) (fun g=>CdM d++StM s a3 g.2.1 g.2.2 (cpy fa o g.1)) (fun g=>n-g.1) (0,A,c) (by simp) ⟨rfl,rfl,rfl,rfl,trivial⟩ SubM.sl ?_
 rintro ⟨i,gA,gc⟩ hi
 simp only at hi
 dsimp only
 conv=>whnf
 refine br_d (fun hlt=>?_) (fun hge=>?_)
 ·have hcl:=znC fa o i
  have eS:cpy fa o (i+1)=cpy fa o i++[(cpy fa o i).getD ((cpy fa o i).length-fa) 0]:=rfl
  have ej:((cpy fa o i).length:Int)-(fa:Int)=(((cpy fa o i).length-fa:Nat):Int):=by omega
  generalize cpy fa o i=p at hcl eS ej ⊢
  have hjs:=zxy (xs:=p) (j:=p.length-fa) (by omega)
  conv=>whnf
  refine dr_w (fun ⟨w9,hw9⟩=>?_)
  have hpl:Pl gA:=zcV (hw9.ok (.row gA gc p.length 5 1 (p.map (.int .u8))) (by simp)) (by omega)
  refine ziP (γ:=Option Addr × Nat) 22 (Tr.hs [0,1,2,3,4,5,6,7,8,9,10,11,12,13,14,15,16] (.sq [17,18,19,20,21,22] .done)) [.blk s.B (.cells (stC s gA gc p).toArray 231)] zaa mixed (by kernel_rfl) rfl
   (fun _=>True) (fun _=>[(93,.int .i64 (i:Int)),(92,.int .i64 (n:Int)),(12,.int .i64 (fa:Int)),(0,.pointer (some ⟨s.B,0,none⟩))]) (fun g=>CdM d++StM s a3 g.1 g.2 (cpy fa o (i+1))) SubM.sl ?_ ?_
  ·refine gGw ?_
   rw [ej]
   refine And.intro ⟨by omega,by omega,hpl⟩ ?_
   conv=>whnf
   refine⟨?_,trivial⟩
   refine zai (ldR zaa (by repeat constructor) rfl rfl hjs) ?_
   refine gGt ?_;(repeat ((first|refine .mk fun Ap capp=>?_|intro _);(conv=>whnf);refine gGS ?_))
   refine⟨(Ap,capp),trivial,⟨rfl,rfl,rfl,rfl,trivial⟩,?_⟩
   rw [eS,zmO]
   exact SubM.sl
  ·rintro ⟨hA,hc⟩ -
   refine gGw ?_
   exact⟨(i+1,hA,hc),by simp only;omega,by simp only;omega,⟨rfl,rfl,rfl,rfl,trivial⟩,SubM.refl _ _⟩
 ·obtain rfl:i=n:=by omega
  have hcl:=znC fa o i
  refine gGw ?_
  exact fin0 rfl (fun w' hm=>⟨_,.inr ⟨_,_,gA,gc,hR.symm,hat,h3,by omega,rfl,rfl⟩,hm⟩) (.inr rfl)
end
section
attribute [local irreducible] Br Rn RnU Cl RdG CpG Ld Rd Lp Dr Oth Cut fin Fits Eng.Enters Md NA
theorem zfE:Eng.Enters Tryz.prog 198:=zab fun _ _=>by kernel_rfl
set_option maxHeartbeats 1000000 in
theorem ziQ (s:Stm) (k d:Cd) (at_:Nat) (A:Option Addr) (c:Nat) (o:List Int) (w:World) (hs:s.Ok at_ o) (hk:newE k.L=0) (hd:newE d.L=0) (hm:MemOk w (Foot (CdM k++CdM d++StM s at_ A c o)) (CdM k++CdM d++StM s at_ A c o) w) :
  Ctr Tryz.prog 198 [.pointer (some ⟨s.B,0,none⟩),.pointer (some ⟨k.B,0,none⟩),.pointer (some ⟨d.B,0,none⟩)] (CdM k++CdM d++StM s at_ A c o) (StP (CdM k++CdM d) s at_ (zeP s.q.bs k.L d.L s.most (zfp s.q.bs) at_ o)) w:=by
 obtain ⟨hl,ha,hmo,ho⟩:=hs
 refine enter (cx:=CXS 53 [] w (Foot (CdM k++CdM d++StM s at_ A c o))) [(0,.pointer (some ⟨s.B,0,none⟩)),(1,.pointer (some ⟨k.B,0,none⟩)),(2,.pointer (some ⟨d.B,0,none⟩))] zaa Tryz.func198 rfl rfl rfl rfl hm ?_
 generalize hR:zeP s.q.bs k.L d.L s.most (zfp s.q.bs) at_ o=R
 conv=>whnf
 refine lp zaa (γ:=Nat × Nat × Option Addr × Nat × List Int) (fun g=>8*s.q.bs.length<g.1+g.2.1∧g.2.1≤8*s.q.bs.length∧at_≤g.2.1∧(g.2.2.2.2.length:Int)≤s.most∧zeP s.q.bs k.L d.L s.most g.1 g.2.1 g.2.2.2.2=R)
  (fun g=>[(0,.pointer (some ⟨s.B,0,none⟩)),(1,.pointer (some ⟨k.B,0,none⟩)),(2,.pointer (some ⟨d.B,0,none⟩))]) (fun g=>CdM k++CdM d++StM s g.2.1 g.2.2.1 g.2.2.2.1 g.2.2.2.2) (fun g=>g.1) (zfp s.q.bs,at_,A,c,o) ⟨by simp only [zfp];omega,ha,Nat.le_refl _,ho,hR⟩ ⟨rfl,rfl,rfl,trivial⟩ (SubM.refl _ _) ?_
 clear hR
 rintro ⟨f,a0,gA,gc,p⟩ ⟨hf,ha0,hat,hp,hR⟩
 simp only at hf ha0 hat hp hR
 obtain ⟨f,rfl⟩:∃ f',f=f'+1:=⟨f-1,by omega⟩
 rw [zeP] at hR
 dsimp only
 refine gGw ?_
 refine⟨zeU,zac (m1:=CdM k++RM s.q (a0)) (by repeat constructor) (fun w' hm'=>ziD k s.q (a0) w' hl (by omega) hk hm'.part) ?_⟩
 rintro e m' ⟨rfl,rfl⟩
 rw [zq5]
 rcases h1:symE k.L s.q.bs (a0) with n|⟨x,a1⟩
 ·rw [h1] at hR
  simp only at hR
  have hn:=zmK h1
  have he:=zmL h1
  rw [he]
  refine gGw ?_
  refine⟨zch,zac (m1:=[]) .nil (fun w' hm'=>zdX _ n w') ?_⟩
  rintro e m' ⟨rfl,rfl⟩
  rw [if_neg hn]
  conv=>whnf
  exact zap (fun w' hm=>⟨_,.inl ⟨n,hR.symm,hn,rfl,rfl⟩,hm.sublist (List.nil_sublist _)⟩)
 rw [h1] at hR
 simp only at hR
 have h1b:=zmJ (by omega) h1
 obtain ⟨h11,h12,h13⟩:=zmM h1
 rw [h11,h12,h13]
 refine gGw ?_
 refine⟨zch,zac (m1:=[]) .nil (fun w' hm'=>zdX _ 0 w') ?_⟩
 rintro e m' ⟨rfl,rfl⟩
 rw [if_pos rfl]
 refine gGw ?_
 by_cases h256:x=256
 ·rw [if_pos h256] at hR
  refine br_t (decide_eq_true h256) ?_
  refine gGw ?_
  exact fin0 rfl (fun w' hm=>⟨_,.inr ⟨_,_,gA,gc,hR.symm,by omega,by omega,hp,rfl,rfl⟩,hm.sl⟩) (.inl rfl)
 rw [if_neg h256] at hR
 refine br_f (decide_eq_false h256) ?_
 refine gGw ?_
 by_cases h285:285<x
 ·rw [if_pos h285] at hR
  refine br_t (decide_eq_true h285) ?_
  refine gGw ?_
  exact zap (fun w' hm=>⟨_,.inl ⟨152,hR.symm,by decide,rfl,rfl⟩,hm.sublist (List.nil_sublist _)⟩)
 rw [if_neg h285] at hR
 refine br_f (decide_eq_false h285) ?_
 refine gGw ?_
 by_cases hgt:256<x
 ·rw [if_pos hgt] at hR
  refine br_t (decide_eq_true hgt) ?_
  refine gGw ?_
  refine⟨zk2,zac (m1:=CdM d++StM s a1 gA gc p) (by repeat constructor) (fun w' hm'=>zqi s d x a1 gA gc p w' ⟨hl,by omega,hmo,hp⟩ hd (by omega) hm'.part) ?_⟩
  rintro e m' (⟨n,he,hn,rfl,rfl⟩|⟨a2,p2,hA,hc,he,ha2,ha3,hp2,rfl,rfl⟩)
  ·rw [he] at hR
   simp only at hR
   conv=>whnf
   exact zap (fun w' hm=>⟨_,.inl ⟨n,hR.symm,hn,rfl,rfl⟩,hm.sublist (List.nil_sublist _)⟩)
  ·rw [he] at hR
   simp only at hR
   refine gGw ?_
   exact⟨(f,a2,hA,hc,p2),⟨by simp only;omega,ha3,by simp only;omega,hp2,hR⟩,by simp only;omega,⟨rfl,rfl,rfl,trivial⟩,SubM.sl⟩
 rw [if_neg hgt] at hR
 refine br_f (decide_eq_false hgt) ?_
 conv=>whnf
 refine zao zaa mixed (by kernel_rfl) rfl ?_
 refine gGw ?_
 refine br_d (fun hlg=>?_) (fun hlg=>?_)
 ·rw [if_pos (by omega)] at hR
  refine gGw ?_
  exact zap (fun w' hm=>⟨_,.inl ⟨141,hR.symm,by decide,rfl,rfl⟩,hm.sublist (List.nil_sublist _)⟩)
 rw [if_neg (by omega)] at hR
 have hw8:IntKind.u8.wrap x=x:=by rw [IntKind.wrap_u8];omega
 refine gGw ?_;(repeat ((first|refine .mk fun Ap capp=>?_|intro _);(conv=>whnf);refine gG0 ?_))
 refine⟨(f,a1,Ap,capp,p++[x]),⟨by simp only;omega,by simp only;omega,by simp only;omega,by simp only [List.length_append,List.length_cons,List.length_nil];omega,hR⟩,by simp only;omega,⟨rfl,rfl,rfl,trivial⟩,?_⟩
 show SubM _ _ (CdM k++CdM d++StM s a1 Ap capp (p++[x]))
 rw [zmO]
 exact SubM.sl
end
section
attribute [local irreducible] Br Rn RnU Cl RdG CpG Ld Rd Lp Dr Oth Cut fin Fits Eng.Enters Md NA
theorem zl9:Eng.Enters Tryz.prog 258:=zab fun _ _=>by kernel_rfl
theorem zpR:Eng.Enters Tryz.prog 239:=zab fun _ _=>by kernel_rfl
theorem zei:Eng.Enters Tryz.prog 222:=zab fun _ _=>by kernel_rfl
theorem zrR (y:Nat) (w:World) (hy:y<1048576):Ctr Tryz.prog 258 [.int .u64 1,.int .u64 (y:Int)] [] (fun e m'=>e=.returned (.tuple #[.int .u64 0,.int .u64 (y:Int)])∧m'=[]) w:=by
 refine enter (cx:=CXS 51 [] w (Foot [])) [(0,.int .u64 1),(1,.int .u64 (y:Int))] zaa Tryz.func258 rfl rfl rfl rfl (MemOk.nil w _) ?_
 have e1:Go.bits .and .u64 1 4294967295=1:=by decide
 have e2:Go.bits .and .u64 (y:Int) 4294967295=y:=by
  have h:=bits_mask .u64 64 (by decide) wraps_u64 32 (by omega) (y:Int) (by omega) (by omega)
  rw [show (2:Int) ^ 32-1=4294967295 by decide,show (2:Int) ^ 32=4294967296 by decide] at h
  rw [h];omega
 have e3:(y:Int)/2 ^ Int.toNat 32=0:=by rw [show (2:Int) ^ Int.toNat 32=4294967296 by decide];omega
 have e4:(1:Int)/2 ^ Int.toNat 32=0:=by decide
 have e5:Go.bits .and .u64 0 4294967295=0:=by decide
 have e6:(0:Int)/2 ^ Int.toNat 32=0:=by decide
 refine gGw ?_
 rw [e1,e2,e3,e4,Int.one_mul]
 refine And.intro (zbr (by omega)) ?_
 refine gGw ?_
 rw [e3,Int.zero_mul,show (0:Int)+0=0 from rfl,e5]
 refine And.intro (zbr (by omega)) ?_
 refine gGw ?_
 have e7:(0*0+0/2 ^ Int.toNat 32+(0+1*0)/2 ^ Int.toNat 32:Int)=0:=by decide
 refine fin2 rfl rfl rfl (fun w' hm=>⟨_,⟨?_,rfl⟩,hm⟩)
 rw [e7,Int.one_mul]
theorem mul_one (y:Nat) (w:World) (hy:y<1048576):Ctr Tryz.prog 239 [.int .u64 1,.int .u64 (y:Int)] [] (fun e m'=>e=.returned (.tuple #[.int .u64 0,.int .u64 (y:Int)])∧m'=[]) w:=by
 refine enter (cx:=CXS 30 [] w (Foot [])) [(0,.int .u64 1),(1,.int .u64 (y:Int))] zaa Tryz.func239 rfl rfl rfl rfl (MemOk.nil w _) ?_
 conv=>whnf
 refine br_f rfl ?_
 refine gGw ?_
 refine⟨zl9,zac (m1:=[]) .nil (fun w' hm'=>zrR y w' hy) ?_⟩
 rintro e m' ⟨rfl,rfl⟩
 refine gGw ?_
 exact fin2 rfl rfl rfl (fun w' hm=>⟨_,⟨rfl,rfl⟩,hm⟩)
def repL (v:Int) (n k:Nat):List Int:=List.replicate k v++List.replicate (n-k) 0
theorem zuv {v:Int} {n k:Nat} (h:k≤n):(repL v n k).length=n:=by simp [repL];omega
theorem zuw (v:Int) (n:Nat):repL v n n=List.replicate n v:=by simp [repL]
theorem zoh {v:Int} {n k j:Nat} (hj:k+j≤n):(repL v n k).take k++List.replicate j v++(repL v n k).drop (k+j)=repL v n (k+j):=by
 unfold repL
 have h1:(List.replicate k v++List.replicate (n-k) (0:Int)).take k=List.replicate k v:=by
  rw [List.take_append_of_le_length (by simp),List.take_of_length_le (by simp)]
 have h2:(List.replicate k v++List.replicate (n-k) (0:Int)).drop (k+j)=List.replicate (n-(k+j)) 0:=by
  rw [List.drop_append,List.drop_of_length_le (by simp),List.nil_append,List.length_replicate,List.drop_replicate]
  congr 1;omega
 rw [h1,h2,List.replicate_append_replicate]
theorem zxI {w:World} {A:Option Addr} {xs:List Int} {j:Nat} (h:IntsIn .i64 w A xs) (hj:j≤xs.length):IntsIn .i64 w A (xs.take j):=by
 intro h0
 rw [List.length_take] at h0
 obtain ⟨b,o,rfl,hi⟩:=h (by omega)
 refine⟨b,o,rfl,fun i hi2=>?_⟩
 rw [List.length_take] at hi2
 rw [hi i (by omega)]
 congr 2
 rw [List.getD,List.getD,List.getElem?_take,if_pos (by omega)]
theorem zgQ (v:Int) (n:Nat) (A:Option Addr) (c:Nat) (w:World) (hb:IntsIn .i64 w A [v]) (hn:1≤n∧n≤1000) :
  Ctr Tryz.prog 222 [.slice A 1 c,.int .i64 (n:Int)] [] (fun e m'=>∃ rA rc,e=.returned (.slice rA n rc)∧m'=[IR rA rc n (List.replicate n v)]) w:=by
 have hF:∀ w',Fr (Foot []) w w'→IntsIn .i64 w' A [v]:=fun w' hf=>Ints.in_ (IntsIn.ints (cx:=CX 0 [] w) (m:=[]) hb (fun _ h=>h)) ((MemOk.nil w _).same (hf.mono (fun k _ ⟨r,hr,_⟩=>by cases hr)))
 refine enter (cx:=CXS 48 [] w (Foot [])) [(0,.slice A 1 c),(1,.int .i64 (n:Int))] zaa Tryz.func222 rfl rfl rfl rfl (MemOk.nil w _) ?_
 refine gGw ?_
 refine br_f (decide_eq_false (by omega)) ?_
 refine gGw ?_
 refine⟨zpR,zac (m1:=[]) .nil (fun w' hm'=>mul_one n w' (by omega)) ?_⟩
 rintro e m' ⟨rfl,rfl⟩
 refine gGw ?_
 refine br_f (by rw [decide_eq_false (by omega),decide_eq_false (by omega)];rfl) ?_
 refine gGw ?_
 refine zc2 zaa rfl rfl rfl rfl rfl (by omega) (by rw [Int.toNat_natCast];show 8*_≤_;omega) (by omega) (fun rB=>?_)
 rw [Int.toNat_natCast]
 refine gGw ?_
 refine zhB (k:=.i64) (ys:=[v]) zaa rfl rfl rfl rfl (by repeat constructor) (by rfl:some (⟨rB,0,none⟩:Addr)=pl (some ⟨rB,0,none⟩) 0) (fun w' hm'=>hF w' hm'.fr) (by show 0+Nat.min 1 n≤n;rw [Nat.zero_add];exact Nat.min_le_right _ _) ?_
 rw [show Nat.min [v].length n=1 from Nat.min_eq_left hn.1]
 refine gGw ?_
 have e0:zbp 0 (([v].take 1).map (Value.int .i64)) (List.replicate n (.int .i64 0))=(repL v n 1).map (Value.int .i64):=by
  have:=zh3 [v] (List.replicate n 0) 0 (by simp;omega)
  rw [List.map_replicate] at this
  rw [show [v].take 1=[v] from rfl,this]
  have h2:=zoh (v:=v) (n:=n) (k:=0) (j:=1) (by omega)
  rw [show repL v n 0=List.replicate n 0 by simp [repL],Nat.zero_add] at h2
  rw [← h2];rfl
 refine lp zaa (γ:=Nat) (fun k=>1≤k∧k≤n) (fun k=>[(8,.int .i64 (k:Int)),(7,.slice (some ⟨rB,0,none⟩) n n)]) (fun k=>[IR (some ⟨rB,0,none⟩) n n (repL v n k)]) (fun k=>n-k) 1 (by omega) ⟨rfl,rfl,trivial⟩ (SubM.row e0 rfl (List.Sublist.refl _)) ?_
 rintro k ⟨hk1,hkn⟩
 dsimp only
 have hrl:=zuv (v:=v) hkn
 refine gGw ?_
 refine br_d (fun hlt=>?_) (fun hge=>?_)
 ·conv=>whnf
  refine za5 (γ:=Unit) (Tr.hs [0,1,2,3,4,5,6] (.sq [7] (.hs [8,9] .done))) [] zaa mixed (by kernel_rfl) rfl (fun _=>True) (fun _=>[(8,.int .i64 ((k:Int)+(min k (n-k):Nat))),(7,.slice (some ⟨rB,0,none⟩) n n)]) (fun _=>[IR (some ⟨rB,0,none⟩) n n (repL v n (k+min k (n-k)))]) (SubM.sel .nil) ?_ ?_
  ·refine gGw ?_
   refine And.intro ⟨by omega,by omega,by omega,.inr (Pl.mk _ _)⟩ ?_
   refine gGw ?_
   refine And.intro ⟨by omega,by omega,by omega,.inr (Pl.mk _ _)⟩ ?_
   refine gGw ?_
   rw [Int.toNat_natCast,Int.toNat_natCast]
   have hc1:cutA (some ⟨rB,0,none⟩) n k ty3.cells=pl (some ⟨rB,0,none⟩) k:=by
    show cutA (some ⟨rB,0,none⟩) n k 1=_
    unfold cutA
    rw [if_neg (by omega),zcp,Nat.mul_one]
   have hc2:cutA (some ⟨rB,0,none⟩) n (Int.toNat 0) ty3.cells=some ⟨rB,0,none⟩:=by
    show cutA (some ⟨rB,0,none⟩) n 0 1=_
    unfold cutA
    rw [if_neg (by omega)];rfl
   have hpre:(repL v n k).take k=List.replicate k v:=by
    unfold repL;rw [List.take_append_of_le_length (by simp),List.take_of_length_le (by simp)]
   have hset:=zoh (v:=v) (n:=n) (k:=k) (j:=min k (n-k)) (by omega)
   have hml:Nat.min (List.replicate k v).length (n-k)=min k (n-k):=by rw [List.length_replicate]
   have e8:zbp k (((List.replicate k v).take (min k (n-k))).map (Value.int .i64)) ((repL v n k).map (Value.int .i64))=(repL v n (k+min k (n-k))).map (Value.int .i64):=by
    have h3:=zh3 ((List.replicate k v).take (min k (n-k))) (repL v n k) k (by rw [List.length_take,List.length_replicate,hrl];omega)
    rw [h3,List.take_replicate,List.length_replicate]
    rw [show min (min k (n-k)) k=min k (n-k) by omega,hset]
   rw [hc1,hc2]
   have hlk:k-Int.toNat 0=(List.replicate k v).length:=by rw [List.length_replicate];rfl
   rw [hlk]
   refine zhB (k:=.i64) (ys:=List.replicate k v) zaa rfl rfl rfl rfl (by repeat constructor) rfl (fun w' hm'=>hpre ▸ zxI (rowI (hm'.ok (IR (some ⟨rB,0,none⟩) n n (repL v n k)) (by simp))) (by omega)) (by rw [hml];omega) ?_
   rw [hml,e8]
   refine gGt ?_
   exact⟨(),trivial,⟨rfl,rfl,trivial⟩,SubM.sl⟩
  ·rintro ⟨⟩ -
   refine gGw ?_
   exact⟨k+min k (n-k),by omega,by omega,⟨congrArg (fun x=>some (Value.int .i64 x)) (Int.natCast_add ..).symm,rfl,trivial⟩,SubM.refl _ _⟩
 ·obtain rfl:k=n:=by omega
  rw [zuw]
  refine gGw ?_
  exact fin1 rfl rfl (fun w' hm=>⟨_,⟨_,_,rfl,rfl⟩,hm⟩)
end
end Go.Proofs.YtlmgelmloddfgaaGreat
namespace Go.Proofs.YtlmgelmloddfgaaGreat.Eng
open Go Go.RowKit
theorem lp_w {cx:Cx} {γ:Type} (ht:TabOk cx.P cx.tab) {c:Code} {k:Exit→Env→Mem→Prop} {e:Env} {m:Mem} (I:γ→Prop) (E:γ→Env) (M:γ→Mem) (μ:γ→Nat) (g0:γ) (h0:I g0) (he0:Env.sub (E g0) e) (hm0:SubM cx m (M g0))
  (round:∀ g,I g→(∃ w,MemOk cx.w0 cx.S (M g) w)→XC cx c (fun ex e m=>match ex with
   | .normal=>∃ g',I g'∧μ g'<μ g∧Env.sub (E g') e∧SubM cx m (M g')
   | ex=>k ex e m) (E g) (M g)):Lp cx c k e m:=by
 intro a w he hm
 refine wp_loop (fun a w=>∃ g,I g∧EnvOk cx.n cx.df (E g) a∧MemOk cx.w0 cx.S (M g) w) (fun a w=>Classical.epsilon fun n=>∃ g,I g∧EnvOk cx.n cx.df (E g) a∧MemOk cx.w0 cx.S (M g) w∧μ g=n∧∀ g',I g'→EnvOk cx.n cx.df (E g') a→MemOk cx.w0 cx.S (M g') w→n≤μ g') ⟨g0,h0,he.sub he0,hm0 w hm⟩ ?_
 have least:∀ a w,(∃ g,I g∧EnvOk cx.n cx.df (E g) a∧MemOk cx.w0 cx.S (M g) w)→∃ n g,I g∧EnvOk cx.n cx.df (E g) a∧MemOk cx.w0 cx.S (M g) w∧μ g=n∧∀ g',I g'→EnvOk cx.n cx.df (E g') a→MemOk cx.w0 cx.S (M g') w→n≤μ g':=by
  intro a w ⟨g,h1,h2,h3⟩
  have:∀ n,∀ g,μ g=n→I g→EnvOk cx.n cx.df (E g) a→MemOk cx.w0 cx.S (M g) w→∃ n g,I g∧EnvOk cx.n cx.df (E g) a∧MemOk cx.w0 cx.S (M g) w∧μ g=n∧∀ g',I g'→EnvOk cx.n cx.df (E g') a→MemOk cx.w0 cx.S (M g') w→n≤μ g':=by
   intro n
   induction n using Nat.strongRecOn with
   | _ n ih =>
    intro g hn h1 h2 h3
    by_cases hall:∀ g',I g'→EnvOk cx.n cx.df (E g') a→MemOk cx.w0 cx.S (M g') w→n≤μ g'
    ·exact⟨n,g,h1,h2,h3,hn,hall⟩
    ·simp only [Classical.not_forall] at hall
     obtain ⟨g',k1,k2,k3,k4⟩:=hall
     exact ih (μ g') (by omega) g' rfl k1 k2 k3
  exact this _ g rfl h1 h2 h3
 intro a w hI
 have hsp:=Classical.epsilon_spec (least a w hI)
 obtain ⟨g,h1,h2,h3,h4,_⟩:=hsp
 refine wp_mono (zg5 ht c _ (E g) (M g) a w h2 h3 (round g h1 ⟨w,h3⟩)) ?_
 rintro ex a' w' ⟨e',m',he',hm',hk⟩
 cases ex with
 | normal =>
  obtain ⟨g',q1,q2,q3,q4⟩:=hk
  have hI':∃ g,I g∧EnvOk cx.n cx.df (E g) a'∧MemOk cx.w0 cx.S (M g) w':=⟨g',q1,he'.sub q3,q4 w' hm'⟩
  refine⟨hI',?_⟩
  have hsp':=Classical.epsilon_spec (least a' w' hI')
  obtain ⟨g2,_,_,_,_,r5⟩:=hsp'
  have:=r5 g' q1 (he'.sub q3) (q4 w' hm')
  show _<_
  omega
 | exit id=>exact⟨e',m',he',hm',hk⟩
 | goto l=>exact⟨e',m',he',hm',hk⟩
 | ret=>exact⟨e',m',he',hm',hk⟩
 | panic ch=>exact⟨e',m',he',hm',hk⟩
 | outgrown=>exact⟨e',m',he',hm',hk⟩
end Go.Proofs.YtlmgelmloddfgaaGreat.Eng
namespace Go.Proofs.YtlmgelmloddfgaaGreat
open Go Go.RowKit Eng
section
theorem zeh {cx:Cx} {nn:Nat} {m m':Mem} {t e ty:Nat} {i ti:TyI} {A:Option Addr} {cap n:Nat} {xs:List Value} {p:Option Addr} {c:Nat} {k:IntKind} {ys:List Int} {K:Value→Mem→Prop} (hl:ys.length=nn) (ht:TabOk cx.P cx.tab)
  (hi:cx.tab.get t=some i) (hk:i.kind=.slice e) (hti:cx.tab.get e=some ti) (hz:ti.zero.length=ti.cells) (hs:ti.cells=1) (hp:(Nat.ble 1 ti.cells&&Nat.ble ti.bytes 4096)=true)
  (hu:Out m (.row A cap n e 1 xs) m') (hy:∀ w,MemOk cx.w0 cx.S m w→IntsIn k w p ys)
  (hb:n+nn≤34359738368) (hK:∀ A' cap',K (.slice A' (n+nn) cap') (.row A' cap' (n+nn) e 1 (xs++ys.map (.int k))::m')) :
  Rn cx m (Builtin.append_ #[t,t] ty #[.slice A n cap,.slice p nn c]) K:=by
 subst hl
 exact zgO ht hi hk hti hz hs hp hu hy hb hK
def RowR (s:Stm) (d:Cd) (at_:Nat) (A:Option Addr) (c:Nat) (o:List Int) (n:Nat) (R:DRes) (e:Ending) (m':Mem):Prop :=
 (∃ n,R=.error n∧n≠0∧e=.panicked (upP n)∧m'=[]) ∨
 ∃ a r rA rc,R=.ok (a,r)∧at_≤a∧a≤8*s.q.bs.length∧r.length=n∧e=.returned (.slice rA r.length rc)∧m'=IR rA rc r.length r::(CdM d++StM s a A c o)
attribute [local irreducible] Br Rn RnU Cl RdG CpG Ld Rd Lp Dr Oth Cut fin Fits Eng.Enters Md NA
theorem znx:Eng.Enters Tryz.prog 202:=zab fun _ _=>by kernel_rfl
set_option maxHeartbeats 1000000 in
theorem zvc (s:Stm) (d:Cd) (n at_:Nat) (A:Option Addr) (c:Nat) (o:List Int) (w:World) (hs:s.Ok at_ o) (hd:newE d.L=0) (hn:n≤400) (hm:MemOk w (Foot (CdM d++StM s at_ A c o)) (CdM d++StM s at_ A c o) w) :
  Ctr Tryz.prog 202 [.pointer (some ⟨s.B,0,none⟩),.pointer (some ⟨d.B,0,none⟩),.int .i64 (n:Int)] (CdM d++StM s at_ A c o) (RowR s d at_ A c o n (rowF s.q.bs d.L n (zfp s.q.bs) at_ [])) w:=by
 obtain ⟨hl,ha,hmo,ho⟩:=hs
 refine enter (cx:=CXS 89 [] w (Foot (CdM d++StM s at_ A c o))) [(0,.pointer (some ⟨s.B,0,none⟩)),(1,.pointer (some ⟨d.B,0,none⟩)),(2,.int .i64 (n:Int))] zaa Tryz.func202 rfl rfl rfl rfl hm ?_
 generalize hR:rowF s.q.bs d.L n (zfp s.q.bs) at_ []=R
 refine gGw ?_
 refine zdd zaa ?_
 refine gGw ?_
 refine lp_w zaa (γ:=Nat × Nat × Option Addr × Nat × List Int) (fun g=>8*s.q.bs.length<g.1+g.2.1∧g.2.1≤8*s.q.bs.length∧at_≤g.2.1∧g.2.2.2.2.length≤n∧rowF s.q.bs d.L n g.1 g.2.1 g.2.2.2.2=R)
  (fun g=>[(0,.pointer (some ⟨s.B,0,none⟩)),(1,.pointer (some ⟨d.B,0,none⟩)),(2,.int .i64 (n:Int)),(7,.slice g.2.2.1 g.2.2.2.2.length g.2.2.2.1)]) (fun g=>IR g.2.2.1 g.2.2.2.1 g.2.2.2.2.length g.2.2.2.2::(CdM d++StM s g.2.1 A c o)) (fun g=>g.1) (zfp s.q.bs,at_,none,0,[]) ⟨by simp only [zfp];omega,ha,Nat.le_refl _,Nat.zero_le _,hR⟩ ⟨rfl,rfl,rfl,rfl,trivial⟩ (SubM.row0 (SubM.refl _ _) _ _) ?_
 clear hR
 rintro ⟨f,a0,gA,gc,r⟩ ⟨hf,ha0,hat,hrn,hR⟩ ⟨w9,hw9⟩
 simp only at hf ha0 hat hrn hR hw9
 obtain ⟨f,rfl⟩:∃ f',f=f'+1:=⟨f-1,by omega⟩
 rw [rowF] at hR
 dsimp only
 refine gGw ?_
 by_cases hen:r.length=n
 ·rw [if_pos hen] at hR
  refine br_t (decide_eq_true (by omega)) ?_
  refine gGw ?_
  exact fin1 rfl rfl (fun w' hm=>⟨_,.inr ⟨_,_,gA,gc,hR.symm,hat,ha0,hen,rfl,rfl⟩,hm⟩)
 rw [if_neg hen] at hR
 refine br_f (decide_eq_false (by omega)) ?_
 refine gGw ?_
 refine⟨zeU,zac (m1:=CdM d++RM s.q (a0)) (by repeat constructor) (fun w' hm'=>ziD d s.q (a0) w' hl (by omega) hd hm'.part) ?_⟩
 rintro e m' ⟨rfl,rfl⟩
 rw [zq5]
 rcases h1:symE d.L s.q.bs (a0) with n|⟨x,a1⟩
 ·rw [h1] at hR
  simp only at hR
  have hn:=zmK h1
  have he:=zmL h1
  rw [he]
  refine gGw ?_
  refine⟨zch,zac (m1:=[]) .nil (fun w' hm'=>zdX _ n w') ?_⟩
  rintro e m' ⟨rfl,rfl⟩
  rw [if_neg hn]
  conv=>whnf
  exact zap (fun w' hm=>⟨_,.inl ⟨n,hR.symm,hn,rfl,rfl⟩,hm.sublist (List.nil_sublist _)⟩)
 rw [h1] at hR
 simp only at hR
 have h1b:=zmJ (by omega) h1
 obtain ⟨h11,h12,h13⟩:=zmM h1
 rw [h11,h12,h13]
 refine gGw ?_
 refine⟨zch,zac (m1:=[]) .nil (fun w' hm'=>zdX _ 0 w') ?_⟩
 rintro e m' ⟨rfl,rfl⟩
 rw [if_pos rfl]
 refine gGw ?_
 by_cases h16:x=16
 ·rw [if_pos h16] at hR
  refine br_t (decide_eq_true h16) ?_
  have hb:=zej s.q.bs a1 (n:=2) (k:=2) (by omega)
  refine gGw ?_
  refine⟨zaX,zac (m1:=RM s.q (a1)) (by repeat constructor) (fun w' hm'=>zbN s.q (a1) (2) w' hl (by omega) (by omega) hm'.part) ?_⟩
  rintro e m' ⟨rfl,rfl⟩
  by_cases h2:a1+2≤8*s.q.bs.length
  rotate_left
  ·rw [zbQ h2] at hR
   simp only at hR
   rw [(zas h2).1,(zas h2).2.1,(zas h2).2.2]
   refine gGw ?_
   refine⟨zaq,zac (m1:=[]) .nil (fun w' hm'=>zaD _ 120 w') ?_⟩
   rintro e m' ⟨rfl,rfl⟩
   rw [if_neg (by decide)]
   conv=>whnf
   exact zap (fun w' hm=>⟨_,.inl ⟨120,hR.symm,by decide,rfl,rfl⟩,hm.sublist (List.nil_sublist _)⟩)
  rw [zbq h2] at hR
  simp only at hR
  rw [(zar h2).1,(zar h2).2.1,(zar h2).2.2]
  refine gGw ?_
  refine⟨zaq,zac (m1:=[]) .nil (fun w' hm'=>zaD _ 0 w') ?_⟩
  rintro e m' ⟨rfl,rfl⟩
  rw [if_pos rfl]
  refine gGw ?_
  generalize zbS s.q.bs a1 2=m at hR hb ⊢
  by_cases h0:r.length=0
  ·rw [if_pos h0] at hR
   refine br_t (decide_eq_true (by omega)) ?_
   refine gGw ?_
   exact zap (fun w' hm=>⟨_,.inl ⟨151,hR.symm,by decide,rfl,rfl⟩,hm.sublist (List.nil_sublist _)⟩)
  rw [if_neg h0] at hR
  refine br_f (decide_eq_false (by omega)) ?_
  refine gGw ?_
  have hpl:Pl gA:=zcV (hw9.ok (IR gA gc r.length r) (List.mem_cons_self ..)) (by omega)
  have ej:(r.length:Int)-1=((r.length-1:Nat):Int):=by omega
  rw [ej]
  refine And.intro ⟨by omega,by omega,hpl⟩ ?_
  conv=>whnf
  refine zai (ldR zaa (by repeat constructor) rfl rfl (zbg (xs:=r) (j:=r.length-1) (by omega))) ?_
  refine gGw ?_
  generalize r.getD (r.length-1) 0=v at hR ⊢
  have ec:(3:Int)+(m:Int)=((3+m:Nat):Int):=by omega
  rw [ec]
  by_cases hlg:n<3+m+r.length
  ·rw [if_pos hlg] at hR
   refine br_t (decide_eq_true (by omega)) ?_
   refine gGw ?_
   exact zap (fun w' hm=>⟨_,.inl ⟨151,hR.symm,by decide,rfl,rfl⟩,hm.sublist (List.nil_sublist _)⟩)
  rw [if_neg hlg] at hR
  refine br_f (decide_eq_false (by omega)) ?_
  refine gGw ?_;(repeat ((first|refine .mk fun Ap capp=>?_|intro _);(conv=>whnf);refine gG0 ?_))
  refine⟨zei,zcj (SubM.torow (n:=1) (by repeat constructor) rfl rfl) (zac (m1:=[]) .nil (fun w' hm'=>zgQ (v) (3+m) _ _ w' (rowI (xs:=[v]) (hm'.ok _ (List.mem_cons_self ..))) (by omega)) ?_)⟩
  rintro e m' ⟨rA,rc,rfl,rfl⟩
  conv=>whnf
  refine zeh (k:=.i64) (ys:=List.replicate (3+m) (v)) List.length_replicate zaa rfl rfl rfl rfl rfl rfl (by repeat constructor) (fun w' hm'=>rowI (hm'.ok (IR rA rc (3+m) (List.replicate (3+m) (v))) (by simp))) (by omega) (fun A1 c1=>?_)
  refine gGw ?_
  have el:(r++List.replicate (3+m) (v)).length=r.length+(3+m):=by rw [List.length_append,List.length_replicate]
  refine⟨(f,a1+2,A1,c1,r++List.replicate (3+m) (v)),⟨by simp only;omega,by simp only;omega,by simp only;omega,by simp only [el];omega,hR⟩,by simp only;omega,⟨rfl,rfl,rfl,congrArg (fun z=>some (Value.slice A1 z c1)) el.symm,trivial⟩,?_⟩
  show SubM _ _ (.row A1 c1 (r++List.replicate (3+m) (v)).length 3 1 ((r++List.replicate (3+m) (v)).map (.int .i64))::(CdM d++StM s (a1+2) A c o))
  rw [el,List.map_append]
  exact SubM.sl
 rw [if_neg h16] at hR
 refine br_f (decide_eq_false h16) ?_
 refine gGw ?_
 by_cases h17:x=17
 ·rw [if_pos h17] at hR
  refine br_t (decide_eq_true h17) ?_
  have hb:=zej s.q.bs a1 (n:=3) (k:=3) (by omega)
  refine gGw ?_
  refine⟨zaX,zac (m1:=RM s.q (a1)) (by repeat constructor) (fun w' hm'=>zbN s.q (a1) (3) w' hl (by omega) (by omega) hm'.part) ?_⟩
  rintro e m' ⟨rfl,rfl⟩
  by_cases h2:a1+3≤8*s.q.bs.length
  rotate_left
  ·rw [zbQ h2] at hR
   simp only at hR
   rw [(zas h2).1,(zas h2).2.1,(zas h2).2.2]
   refine gGw ?_
   refine⟨zaq,zac (m1:=[]) .nil (fun w' hm'=>zaD _ 120 w') ?_⟩
   rintro e m' ⟨rfl,rfl⟩
   rw [if_neg (by decide)]
   conv=>whnf
   exact zap (fun w' hm=>⟨_,.inl ⟨120,hR.symm,by decide,rfl,rfl⟩,hm.sublist (List.nil_sublist _)⟩)
  rw [zbq h2] at hR
  simp only at hR
  rw [(zar h2).1,(zar h2).2.1,(zar h2).2.2]
  refine gGw ?_
  refine⟨zaq,zac (m1:=[]) .nil (fun w' hm'=>zaD _ 0 w') ?_⟩
  rintro e m' ⟨rfl,rfl⟩
  rw [if_pos rfl]
  refine gGw ?_
  generalize zbS s.q.bs a1 3=m at hR hb ⊢
  have ec:(3:Int)+(m:Int)=((3+m:Nat):Int):=by omega
  rw [ec]
  by_cases hlg:n<3+m+r.length
  ·rw [if_pos hlg] at hR
   refine br_t (decide_eq_true (by omega)) ?_
   refine gGw ?_
   exact zap (fun w' hm=>⟨_,.inl ⟨151,hR.symm,by decide,rfl,rfl⟩,hm.sublist (List.nil_sublist _)⟩)
  rw [if_neg hlg] at hR
  refine br_f (decide_eq_false (by omega)) ?_
  refine gGw ?_;(repeat ((first|refine .mk fun Ap capp=>?_|intro _);(conv=>whnf);refine gG0 ?_))
  refine⟨zei,zcj (SubM.torow (n:=1) (by repeat constructor) rfl rfl) (zac (m1:=[]) .nil (fun w' hm'=>zgQ (0) (3+m) _ _ w' (rowI (xs:=[0]) (hm'.ok _ (List.mem_cons_self ..))) (by omega)) ?_)⟩
  rintro e m' ⟨rA,rc,rfl,rfl⟩
  conv=>whnf
  refine zeh (k:=.i64) (ys:=List.replicate (3+m) (0)) List.length_replicate zaa rfl rfl rfl rfl rfl rfl (by repeat constructor) (fun w' hm'=>rowI (hm'.ok (IR rA rc (3+m) (List.replicate (3+m) (0))) (by simp))) (by omega) (fun A1 c1=>?_)
  refine gGw ?_
  have el:(r++List.replicate (3+m) (0)).length=r.length+(3+m):=by rw [List.length_append,List.length_replicate]
  refine⟨(f,a1+3,A1,c1,r++List.replicate (3+m) (0)),⟨by simp only;omega,by simp only;omega,by simp only;omega,by simp only [el];omega,hR⟩,by simp only;omega,⟨rfl,rfl,rfl,congrArg (fun z=>some (Value.slice A1 z c1)) el.symm,trivial⟩,?_⟩
  show SubM _ _ (.row A1 c1 (r++List.replicate (3+m) (0)).length 3 1 ((r++List.replicate (3+m) (0)).map (.int .i64))::(CdM d++StM s (a1+3) A c o))
  rw [el,List.map_append]
  exact SubM.sl
 rw [if_neg h17] at hR
 refine br_f (decide_eq_false h17) ?_
 refine gGw ?_
 by_cases h18:x=18
 ·rw [if_pos h18] at hR
  refine br_t (decide_eq_true h18) ?_
  have hb:=zej s.q.bs a1 (n:=7) (k:=7) (by omega)
  refine gGw ?_
  refine⟨zaX,zac (m1:=RM s.q (a1)) (by repeat constructor) (fun w' hm'=>zbN s.q (a1) (7) w' hl (by omega) (by omega) hm'.part) ?_⟩
  rintro e m' ⟨rfl,rfl⟩
  by_cases h2:a1+7≤8*s.q.bs.length
  rotate_left
  ·rw [zbQ h2] at hR
   simp only at hR
   rw [(zas h2).1,(zas h2).2.1,(zas h2).2.2]
   refine gGw ?_
   refine⟨zaq,zac (m1:=[]) .nil (fun w' hm'=>zaD _ 120 w') ?_⟩
   rintro e m' ⟨rfl,rfl⟩
   rw [if_neg (by decide)]
   conv=>whnf
   exact zap (fun w' hm=>⟨_,.inl ⟨120,hR.symm,by decide,rfl,rfl⟩,hm.sublist (List.nil_sublist _)⟩)
  rw [zbq h2] at hR
  simp only at hR
  rw [(zar h2).1,(zar h2).2.1,(zar h2).2.2]
  refine gGw ?_
  refine⟨zaq,zac (m1:=[]) .nil (fun w' hm'=>zaD _ 0 w') ?_⟩
  rintro e m' ⟨rfl,rfl⟩
  rw [if_pos rfl]
  refine gGw ?_
  generalize zbS s.q.bs a1 7=m at hR hb ⊢
  have ec:(11:Int)+(m:Int)=((11+m:Nat):Int):=by omega
  rw [ec]
  by_cases hlg:n<11+m+r.length
  ·rw [if_pos hlg] at hR
   refine br_t (decide_eq_true (by omega)) ?_
   refine gGw ?_
   exact zap (fun w' hm=>⟨_,.inl ⟨151,hR.symm,by decide,rfl,rfl⟩,hm.sublist (List.nil_sublist _)⟩)
  rw [if_neg hlg] at hR
  refine br_f (decide_eq_false (by omega)) ?_
  refine gGw ?_;(repeat ((first|refine .mk fun Ap capp=>?_|intro _);(conv=>whnf);refine gG0 ?_))
  refine⟨zei,zcj (SubM.torow (n:=1) (by repeat constructor) rfl rfl) (zac (m1:=[]) .nil (fun w' hm'=>zgQ (0) (11+m) _ _ w' (rowI (xs:=[0]) (hm'.ok _ (List.mem_cons_self ..))) (by omega)) ?_)⟩
  rintro e m' ⟨rA,rc,rfl,rfl⟩
  conv=>whnf
  refine zeh (k:=.i64) (ys:=List.replicate (11+m) (0)) List.length_replicate zaa rfl rfl rfl rfl rfl rfl (by repeat constructor) (fun w' hm'=>rowI (hm'.ok (IR rA rc (11+m) (List.replicate (11+m) (0))) (by simp))) (by omega) (fun A1 c1=>?_)
  refine gGw ?_
  have el:(r++List.replicate (11+m) (0)).length=r.length+(11+m):=by rw [List.length_append,List.length_replicate]
  refine⟨(f,a1+7,A1,c1,r++List.replicate (11+m) (0)),⟨by simp only;omega,by simp only;omega,by simp only;omega,by simp only [el];omega,hR⟩,by simp only;omega,⟨rfl,rfl,rfl,congrArg (fun z=>some (Value.slice A1 z c1)) el.symm,trivial⟩,?_⟩
  show SubM _ _ (.row A1 c1 (r++List.replicate (11+m) (0)).length 3 1 ((r++List.replicate (11+m) (0)).map (.int .i64))::(CdM d++StM s (a1+7) A c o))
  rw [el,List.map_append]
  exact SubM.sl
 rw [if_neg h18] at hR
 refine br_f (decide_eq_false h18) ?_
 refine gGw ?_;(repeat ((first|refine .mk fun Ap capp=>?_|intro _);(conv=>whnf);refine gG0 ?_))
 have el:(r++[x]).length=r.length+1:=by rw [List.length_append];rfl
 refine⟨(f,a1,Ap,capp,r++[x]),⟨by simp only;omega,by simp only;omega,by simp only;omega,by simp only [el];omega,hR⟩,by simp only;omega,⟨rfl,rfl,rfl,congrArg (fun z=>some (Value.slice Ap z capp)) el.symm,trivial⟩,?_⟩
 show SubM _ _ (.row Ap capp (r++[x]).length 3 1 ((r++[x]).map (.int .i64))::(CdM d++StM s a1 A c o))
 rw [el,List.map_append]
 exact SubM.sl
end
end Go.Proofs.YtlmgelmloddfgaaGreat
