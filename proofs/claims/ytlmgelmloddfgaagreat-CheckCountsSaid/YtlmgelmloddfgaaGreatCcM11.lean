/- Part of a proof: contracts of the functions that the law reaches. No statement of the seat is proved here. -/
import Derived.Test.YtlmgelmloddfgaaGreatCcM10
set_option linter.unusedVariables false
set_option linter.unusedSimpArgs false
set_option linter.unusedSectionVars false
set_option maxRecDepth 100000
namespace Go.Proofs.YtlmgelmloddfgaaGreat
open Go Go.RowKit Eng
section
theorem zov (bs:List UInt8) (a:Nat) (ok:Bool):a+1≤(zbT bs a ok).2.1∧((zbT bs a ok).2.1≤a+1∨(zbT bs a ok).2.1≤bs.length):=by
 unfold zbT
 split
 ·rename_i h
  have:=(zcY h.1).2.2.2
  exact⟨by show a+1≤a+1+_;omega,.inr (by show a+1+_≤_;omega)⟩
 ·exact⟨Nat.le_refl _,.inl (Nat.le_refl _)⟩
theorem zw5 (q:Rr) (a:Nat) (ok:Bool):Foot (RrM q a ok)=fun b=>b=q.B:=by
 funext b
 unfold Foot RrM
 simp [Res.foot,eq_comm]
theorem znu {q:Rr} {a a':Nat} {ok ok':Bool} {w w':World} (h:Fr (Foot (RrM q a ok)) w w'):Fr (Foot (RrM q a' ok')) w w':=by
 rw [zw5] at h ⊢;exact h
theorem zfd {bs:List UInt8} {a n:Nat} {ok:Bool} (hn:1≤n∧n≤8) (h:numK bs a n ok=true):a+n≤bs.length:=by
 obtain ⟨_,h2,_,_,_⟩:=zcY h
 unfold getF at h2
 rw [if_neg (by omega)] at h2
 split at h2
 ·rename_i hl
  have h1:=liesB_iff.1 hl
  omega
 ·simp at h2
def okB:Except Int (List UInt8)→List UInt8→Bool
 | .ok x,bs=>decide (x=bs)
 | .error _,_=>false
attribute [local irreducible] Br Rn RnU Cl RdG CpG Ld Rd Lp Dr Oth Cut fin Fits Eng.Enters Md NA
theorem zim {bits:Int} {L:List Snp} {out:List UInt8} (h:zb2 bits L=.ok out):zbX bits [] L=true∧L.length≤64∧out=L.flatMap zal∧out.length≤6400:=by
 unfold zb2 at h
 split at h
 ·rename_i hg
  split at h
  ·cases h
  ·rename_i h64
   injection h with h
   subst h
   have hlen:=zdi (L:=L) (f:=zal) (k:=100) (fun y hy=>by have hy2:=(zck (zdg hg y hy)).1;rw [zeB];omega)
   exact⟨hg,by omega,rfl,by omega⟩
 ·cases h
def zdG (bs:List UInt8) (a:Nat) (ok:Bool):Snp × Nat × Bool:=(⟨(zbT bs a ok).1,numV bs ((zbT bs a ok).2.1) 8,numV bs ((zbT bs a ok).2.1+8) 4,numV bs ((zbT bs a ok).2.1+12) 8⟩,(zbT bs a ok).2.1+20,numK bs ((zbT bs a ok).2.1+12) 8 (numK bs ((zbT bs a ok).2.1+8) 4 (numK bs ((zbT bs a ok).2.1) 8 ((zbT bs a ok).2.2))))
theorem zku:Eng.Enters Tryz.prog 138:=zab fun _ _=>by kernel_rfl
theorem zrA (q:Rr) (a:Nat) (ok:Bool) (w:World) (hb:Stb (RrM q a ok) w (fun w=>BytsIn w q.A q.bs)) (hl:q.bs.length≤20000000) (hc:q.bs.length≤q.c) (ha:a≤30000000) (hm:MemOk w (Foot (RrM q a ok)) (RrM q a ok) w) :
  Ctr Tryz.prog 138 [.pointer (some ⟨q.B,0,none⟩)] (RrM q a ok) (fun e m'=>e=.returned (.agg (zdG q.bs a ok).1.cells.toArray)∧m'=RrM q (zdG q.bs a ok).2.1 (zdG q.bs a ok).2.2) w:=by
 refine enter (cx:=CXS 17 [] w (Foot (RrM q a ok))) [(0,.pointer (some ⟨q.B,0,none⟩))] zaa Tryz.func138 rfl rfl rfl rfl hm ?_
 have ha1:=zov q.bs a ok
 unfold zdG
 refine gGw ?_;(repeat ((first|refine .mk fun Ap capp=>?_|intro _);(conv=>whnf);refine gG0 ?_))
 refine⟨zhh,zac (m1:=RrM q a ok) (by repeat constructor) (fun w' hm'=>zlV q a ok w' (fun w2 hf=>hb w2 (hm'.fr.trans hf)) hl hc (by omega) hm'.part) ?_⟩
 rintro e m' ⟨rfl,rfl⟩
 generalize zbT q.bs a ok=r at ha1 ⊢
 obtain ⟨nm,a1,k1⟩:=r
 simp only at ha1 ⊢
 refine gGw ?_;(repeat ((first|refine .mk fun Ap capp=>?_|intro _);(conv=>whnf);refine gG0 ?_))
 refine⟨zbF,zac (m1:=RrM q (a1) (k1)) (by repeat constructor) (fun w' hm'=>zdu q (a1) 8 (k1) w' (fun w2 hf=>hb w2 (hm'.fr.trans (znu hf))) hl (by omega) ⟨by omega,by omega⟩ hm'.part) ?_⟩
 rintro e m' ⟨rfl,rfl⟩
 refine gGw ?_
 refine⟨zbF,zac (m1:=RrM q (a1+8) (numK q.bs (a1) 8 (k1))) (by repeat constructor) (fun w' hm'=>zdu q (a1+8) 4 (numK q.bs (a1) 8 (k1)) w' (fun w2 hf=>hb w2 (hm'.fr.trans (znu hf))) hl (by omega) ⟨by omega,by omega⟩ hm'.part) ?_⟩
 rintro e m' ⟨rfl,rfl⟩
 refine gGw ?_
 refine⟨zbF,zac (m1:=RrM q (a1+12) (numK q.bs (a1+8) 4 (numK q.bs (a1) 8 (k1)))) (by repeat constructor) (fun w' hm'=>zdu q (a1+12) 8 (numK q.bs (a1+8) 4 (numK q.bs (a1) 8 (k1))) w' (fun w2 hf=>hb w2 (hm'.fr.trans (znu hf))) hl (by omega) ⟨by omega,by omega⟩ hm'.part) ?_⟩
 rintro e m' ⟨rfl,rfl⟩
 refine gGw ?_
 exact zw7 rfl rfl (ldN zaa (by repeat constructor) rfl rfl rfl rfl) (fun w' hm=>⟨_,⟨rfl,rfl⟩,hm.sl⟩)
theorem zuy {bs:List UInt8} {a:Nat} {ok:Bool} (h:(zdG bs a ok).2.2=true):(zdG bs a ok).2.1≤bs.length:=by
 unfold zdG at h ⊢
 have:=zfd (by omega) h
 exact this
def zcm (bs:List UInt8):Nat→Nat→Bool→List Snp→List Snp × Bool
 | 0,_,ok,acc=>(acc,ok)
 | n+1,a,ok,acc=>if (zdG bs a ok).2.2=true then zcm bs n (zdG bs a ok).2.1 true (acc++[(zdG bs a ok).1]) else (acc++[(zdG bs a ok).1],false)
theorem zjB (bs:List UInt8):∀ (n a:Nat) (ok:Bool) (acc:List Snp),(zcm bs n a ok acc).1.length≤acc.length+n
 | 0,_,_,_=>Nat.le_refl _
 | n+1,a,ok,acc=>by
  rw [zcm]
  split
  ·have:=zjB bs n (zdG bs a ok).2.1 true (acc++[(zdG bs a ok).1])
   rw [List.length_append,List.length_singleton] at this
   omega
  ·simp
def zaU (bits:Int) (bs:List UInt8) (n:Int):Option (List Snp) :=
 if (zcm bs n.toNat 0 true []).2=true∧okB (zb2 bits (zcm bs n.toNat 0 true []).1) bs=true then some (zcm bs n.toNat 0 true []).1 else none
theorem zkv:Eng.Enters Tryz.prog 137:=zab fun _ _=>by kernel_rfl
def zvY (R:Option (List Snp)) (e:Ending) (m':Mem):Prop:=(R=none∧(∃ no,no≠0∧e=.returned (.tuple #[.slice none 0 0,.int .i64 no]))∧m'=[]) ∨
  ∃ l lA lc,R=some l∧e=.returned (.tuple #[.slice lA l.length lc,.int .i64 0])∧m'=[.row lA lc l.length 175 4 (l.flatMap Snp.cells)]
theorem zpH (A:Option Addr) (c:Nat) (bs:List UInt8) (bits n:Int) (bB:Nat) (w:World) (hb:BytsIn w A bs) (hl:bs.length≤20000000) (hc:bs.length≤c) (hbits:9≤bits∧bits≤16) (hn:0≤n∧n≤64) (hcell:w.cell? ⟨bB,0,none⟩=some (.int .i64 bits)) :
  Ctr Tryz.prog 137 [.int .i64 bits,.int .i64 n,.slice A bs.length c,.func (.func 138) #[] #[],.func (.func 139) #[] #[.pointer (some ⟨bB,0,none⟩)]] [] (zvY (zaU bits bs n)) w:=by
 refine enter (cx:=CXS 66 [] w (Foot [])) [(0,.int .i64 bits),(1,.int .i64 n),(2,.slice A bs.length c),(3,.func (.func 138) #[] #[]),(4,.func (.func 139) #[] #[.pointer (some ⟨bB,0,none⟩)])] zaa Tryz.func137 rfl rfl rfl rfl (MemOk.nil w _) ?_
 have hlenT:=zjB bs n.toNat 0 true []
 unfold zaU
 generalize hT:zcm bs n.toNat 0 true []=T at hlenT
 refine gGw ?_
 refine zdd zaa ?_
 refine gGw ?_
 refine br_f (by rw [decide_eq_false (by omega),decide_eq_false (by omega),decide_eq_false (by omega)];rfl) ?_
 refine gGw ?_;(repeat ((first|refine .mk fun Ap capp=>?_|intro _);(conv=>whnf);refine gG0 ?_))
 rename_i rB
 refine lp zaa (γ:=Nat × Nat × List Snp × Option Addr × Nat) (fun g=>g.1≤n.toNat∧g.2.1≤bs.length∧g.2.2.1.length=g.1∧zcm bs (n.toNat-g.1) g.2.1 true g.2.2.1=T)
  (fun g=>[(30,.int .i64 (g.1:Int)),(29,.int .i64 n),(13,.slice g.2.2.2.1 g.2.2.1.length g.2.2.2.2),(12,.pointer (some ⟨rB,0,none⟩)),(0,.int .i64 bits),(2,.slice A bs.length c),(3,.func (.func 138) #[] #[]),(4,.func (.func 139) #[] #[.pointer (some ⟨bB,0,none⟩)])])
  (fun g=>.row g.2.2.2.1 g.2.2.2.2 g.2.2.1.length 175 4 (g.2.2.1.flatMap Snp.cells)::RrM ⟨bs,A,c,rB⟩ g.2.1 true) (fun g=>n.toNat-g.1) (0,0,[],none,0) ⟨Nat.zero_le _,Nat.zero_le _,rfl,hT⟩ ⟨rfl,rfl,rfl,rfl,rfl,rfl,rfl,rfl,trivial⟩ (SubM.row0 SubM.sl _ _) ?_
 clear hT
 rintro ⟨i,a,l,lA,lc⟩ ⟨hi,ha,hli,hT⟩
 simp only at hi ha hli hT
 dsimp only
 conv=>whnf
 refine br_d (fun hlt=>?_) (fun hge=>?_)
 ·obtain ⟨f,hf⟩:∃ f,n.toNat-i=f+1:=⟨n.toNat-i-1,by omega⟩
  rw [hf,zcm] at hT
  refine gGw ?_
  refine⟨zku,zac (m1:=RrM ⟨bs,A,c,rB⟩ a true) (by repeat constructor) (fun w' hm'=>zrA ⟨bs,A,c,rB⟩ a true w' (stb hm' (fun w3 h3=>(BytsIn.byts (cx:=CXS 66 [] w (Foot [])) hb zam).in_ h3)) hl hc (by omega) hm'.part) ?_⟩
  rintro e m' ⟨rfl,rfl⟩
  have hrok:=zuy (bs:=bs) (a:=a) (ok:=true)
  dsimp only
  generalize zdG bs a true=r at hT hrok ⊢
  obtain ⟨x,a1,k1⟩:=r
  simp only at hT hrok ⊢
  have el:(l++[x]).flatMap Snp.cells=l.flatMap Snp.cells++x.cells:=by rw [List.flatMap_append];simp
  have ll:(l++[x]).length=l.length+1:=by simp
  refine gGw ?_;(repeat ((first|refine .mk fun Ap capp=>?_|intro _);(conv=>whnf);refine gG0 ?_))
  refine br_n (br (fun hk=>?_) (fun hk=>?_))
  ·subst hk
   rw [if_pos rfl] at hT
   refine gGw ?_
   refine⟨(i+1,a1,l++[x],Ap,capp),⟨by show i+1≤n.toNat;omega,hrok rfl,by show (l++[x]).length=i+1;omega,by show zcm bs (n.toNat-(i+1)) a1 true (l++[x])=T;rw [show n.toNat-(i+1)=f by omega];exact hT⟩,by show n.toNat-(i+1)<n.toNat-i;omega,⟨rfl,rfl,?_,rfl,rfl,rfl,rfl,rfl,trivial⟩,?_⟩
   ·show some _=some _
    simp only [ll]
   ·show SubM _ _ (.row Ap capp (l++[x]).length 175 4 ((l++[x]).flatMap Snp.cells)::RrM ⟨bs,A,c,rB⟩ a1 true)
    rw [el,ll]
    exact SubM.sl
  ·subst hk
   rw [if_neg (by decide)] at hT
   subst hT
   simp only at hlenT ⊢
   rw [← ll]
   refine gGw ?_
   have hrow:=fun (w':World) (hm':MemOk w (Foot []) (.row Ap capp (l++[x]).length 175 4 (l.flatMap Snp.cells++x.cells)::RrM ⟨bs,A,c,rB⟩ a1 false) w')=>RowIn.of_row (L:=(l++[x])) (f:=Snp.cells) (k:=4) (fun _=>rfl) (by omega) (by rw [el];exact hm'.ok _ (List.mem_cons_self ..))
   refine⟨zf2,zcj (m1:=.row Ap capp (l++[x]).length 175 4 (l.flatMap Snp.cells++x.cells)::RrM ⟨bs,A,c,rB⟩ a1 false) SubM.sl (zac (m1:=[]) .nil (fun w' hm'=>zjo bits (l++[x]) Ap capp bB w' hbits (by omega) (hrow w' (hm'.sel (by repeat constructor))) (hm'.far hcell (zam _))) ?_)⟩
   rintro e m' (⟨no,hno,hno0,rfl,rfl⟩|⟨out,oA,oc,hno,rfl,rfl⟩)
   ·have hz:okB (zb2 bits (l++[x])) bs=false:=by rw [hno];rfl
    refine gGw ?_
    refine br_t (by rw [decide_eq_false hno0];simp) ?_
    refine gGw ?_
    refine br_t rfl ?_
    refine gGw ?_
    exact fin2 rfl rfl rfl (fun w' hm=>⟨_,.inl ⟨if_neg (by rw [hz];simp),⟨210,by decide,rfl⟩,rfl⟩,hm.sublist (List.nil_sublist _)⟩)
   ·have hz:okB (zb2 bits (l++[x])) bs=decide (out=bs):=by rw [hno];rfl
    refine gGw ?_
    refine br_t rfl ?_
    refine gGw ?_
    refine br_t rfl ?_
    refine gGw ?_
    exact fin2 rfl rfl rfl (fun w' hm=>⟨_,.inl ⟨if_neg (by simp),⟨210,by decide,rfl⟩,rfl⟩,hm.sublist (List.nil_sublist _)⟩)
 ·obtain rfl:i=n.toNat:=by omega
  rw [Nat.sub_self,zcm] at hT
  subst hT
  simp only at hlenT ⊢
  refine gGw ?_
  have hrow:=fun (w':World) (hm':MemOk w (Foot []) (.row lA lc l.length 175 4 (l.flatMap Snp.cells)::RrM ⟨bs,A,c,rB⟩ a true) w')=>RowIn.of_row (L:=l) (f:=Snp.cells) (k:=4) (fun _=>rfl) (by omega) (hm'.ok _ (List.mem_cons_self ..))
  refine⟨zf2,zcj (m1:=.row lA lc l.length 175 4 (l.flatMap Snp.cells)::RrM ⟨bs,A,c,rB⟩ a true) SubM.sl (zac (m1:=[]) .nil (fun w' hm'=>zjo bits l lA lc bB w' hbits (by omega) (hrow w' (hm'.sel (by repeat constructor))) (hm'.far hcell (zam _))) ?_)⟩
  rintro e m' (⟨no,hno,hno0,rfl,rfl⟩|⟨out,oA,oc,hno,rfl,rfl⟩)
  ·have hz:okB (zb2 bits l) bs=false:=by rw [hno];rfl
   refine gGw ?_
   refine br_t (by rw [decide_eq_false hno0];simp) ?_
   refine gGw ?_
   refine br_t rfl ?_
   refine gGw ?_
   exact fin2 rfl rfl rfl (fun w' hm=>⟨_,.inl ⟨if_neg (by rw [hz];simp),⟨210,by decide,rfl⟩,rfl⟩,hm.sublist (List.nil_sublist _)⟩)
  ·have hz:okB (zb2 bits l) bs=decide (out=bs):=by rw [hno];rfl
   refine gGw ?_
   refine br_f rfl ?_
   refine gGw ?_
   have hout:=(zim hno).2.2.2
   refine⟨zh2,zae _ (fun w' hm'=>zn7 out bs oA A oc c w' (rowI (hm'.ok (BR8 oA oc out.length out) (by simp))) ((BytsIn.byts (cx:=CXS 66 [] w (Foot [])) hb zam).in_ hm') (by omega)) ?_⟩
   refine gGw ?_
   refine br_n (br (fun he=>?_) (fun he=>?_))
   ·refine gGw ?_
    refine fin2 rfl rfl rfl (fun w' hm=>⟨_,.inr ⟨l,lA,lc,if_pos ⟨trivial,by rw [hz];exact he⟩,rfl,rfl⟩,hm.sl⟩)
   ·refine gGw ?_
    exact fin2 rfl rfl rfl (fun w' hm=>⟨_,.inl ⟨if_neg (by rw [hz,he];simp),⟨210,by decide,rfl⟩,rfl⟩,hm.sublist (List.nil_sublist _)⟩)
theorem zpI (A:Option Addr) (c:Nat) (bs:List UInt8) (bits n:Int) (w:World) (hb:BytsIn w A bs) (hl:bs.length≤20000000) (hc:bs.length≤c) (hbits:9≤bits∧bits≤16) (hn:0≤n∧n≤64) :
  Ctr Tryz.prog 97 [.int .i64 bits,.slice A bs.length c,.int .i64 n] [] (zvY (zaU bits bs n)) w:=by
 refine enter (cx:=CXS 15 [] w (Foot [])) [(0,.int .i64 bits),(1,.slice A bs.length c),(2,.int .i64 n)] zaa Tryz.func97 rfl rfl rfl rfl (MemOk.nil w _) ?_
 refine gGw ?_;(repeat ((first|refine .mk fun Ap capp=>?_|intro _);(conv=>whnf);refine gG0 ?_))
 rename_i bB
 refine⟨zkv,zac (m1:=[]) .nil (fun w' hm'=>zpH A c bs bits n bB w' ((BytsIn.byts (cx:=CXS 15 [] w (Foot [])) hb zam).in_ hm') hl hc hbits hn (by rw [zaJ (hm'.ok (.blk bB (.cells [Value.int .i64 bits].toArray 3)) (List.mem_singleton.2 rfl))];rfl)) ?_⟩
 rintro e m' (⟨hno,⟨no,hno0,rfl⟩,rfl⟩|⟨l,lA,lc,hno,rfl,rfl⟩)
 ·refine gGw ?_
  exact fin2 rfl rfl rfl (fun w' hm=>⟨_,.inl ⟨hno,⟨no,hno0,rfl⟩,rfl⟩,hm.sublist (List.nil_sublist _)⟩)
 ·refine gGw ?_
  exact fin2 rfl rfl rfl (fun w' hm=>⟨_,.inr ⟨l,lA,lc,hno,rfl,rfl⟩,hm.sl⟩)
theorem zjz {bits n:Int} {bs:List UInt8} {l:List Snp} (h:zaU bits bs n=some l):zbX bits [] l=true∧l.length≤64∧bs=l.flatMap zal∧l=(zcm bs n.toNat 0 true []).1:=by
 unfold zaU at h
 split at h
 ·rename_i hk
  injection h with h
  subst h
  rcases hp:zb2 bits (zcm bs n.toNat 0 true []).1 with no|out
  ·rw [hp] at hk;exact absurd hk.2 (by simp [okB])
  ·rw [hp] at hk
   have h1:=zim hp
   have h2:out=bs:=of_decide_eq_true hk.2
   exact⟨h1.1,h1.2.1,h2 ▸ h1.2.2.1,rfl⟩
 ·cases h
theorem zrc:zvV zaU:=by
 intro A c bs bits n w hb hl hc hbits hn
 refine⟨fun l h=>?_,zpI A c bs bits n w hb hl hc hbits hn⟩
 obtain ⟨h1,h2,_,_⟩:=zjz h
 refine⟨fun x hx=>?_,h2⟩
 have hy:=zdg h1 x hx
 have hl1:=(zck hy).2.1
 have hl2:=(zck hy).2.2.1
 exact⟨by omega,by omega⟩
theorem zin {bits:Int} {L:List Rwp} {out:List UInt8} (h:zb3 bits L=.ok out):zbY bits [] L=true∧L.length≤64∧out=L.flatMap zaj∧out.length≤6400:=by
 unfold zb3 at h
 split at h
 ·rename_i hg
  split at h
  ·cases h
  ·rename_i h64
   injection h with h
   subst h
   have hlen:=zdi (L:=L) (f:=zaj) (k:=100) (fun y hy=>by have hy2:=(zcW (zdh hg y hy)).1;rw [zeD];omega)
   exact⟨hg,by omega,rfl,by omega⟩
 ·cases h
def zdH (bs:List UInt8) (a:Nat) (ok:Bool):Rwp × Nat × Bool:=(⟨(zbT bs a ok).1,numV bs ((zbT bs a ok).2.1) 1,numV bs ((zbT bs a ok).2.1+1) 1,numV bs ((zbT bs a ok).2.1+2) 8,numV bs ((zbT bs a ok).2.1+10) 4⟩,(zbT bs a ok).2.1+14,numK bs ((zbT bs a ok).2.1+10) 4 (numK bs ((zbT bs a ok).2.1+2) 8 (numK bs ((zbT bs a ok).2.1+1) 1 (numK bs ((zbT bs a ok).2.1) 1 ((zbT bs a ok).2.2)))))
theorem zkw:Eng.Enters Tryz.prog 142:=zab fun _ _=>by kernel_rfl
theorem zrB (q:Rr) (a:Nat) (ok:Bool) (w:World) (hb:Stb (RrM q a ok) w (fun w=>BytsIn w q.A q.bs)) (hl:q.bs.length≤20000000) (hc:q.bs.length≤q.c) (ha:a≤30000000) (hm:MemOk w (Foot (RrM q a ok)) (RrM q a ok) w) :
  Ctr Tryz.prog 142 [.pointer (some ⟨q.B,0,none⟩)] (RrM q a ok) (fun e m'=>e=.returned (.agg (zdH q.bs a ok).1.cells.toArray)∧m'=RrM q (zdH q.bs a ok).2.1 (zdH q.bs a ok).2.2) w:=by
 refine enter (cx:=CXS 20 [] w (Foot (RrM q a ok))) [(0,.pointer (some ⟨q.B,0,none⟩))] zaa Tryz.func142 rfl rfl rfl rfl hm ?_
 have ha1:=zov q.bs a ok
 unfold zdH
 refine gGw ?_;(repeat ((first|refine .mk fun Ap capp=>?_|intro _);(conv=>whnf);refine gG0 ?_))
 refine⟨zhh,zac (m1:=RrM q a ok) (by repeat constructor) (fun w' hm'=>zlV q a ok w' (fun w2 hf=>hb w2 (hm'.fr.trans hf)) hl hc (by omega) hm'.part) ?_⟩
 rintro e m' ⟨rfl,rfl⟩
 generalize zbT q.bs a ok=r at ha1 ⊢
 obtain ⟨nm,a1,k1⟩:=r
 simp only at ha1 ⊢
 refine gGw ?_;(repeat ((first|refine .mk fun Ap capp=>?_|intro _);(conv=>whnf);refine gG0 ?_))
 refine⟨zbF,zac (m1:=RrM q (a1) (k1)) (by repeat constructor) (fun w' hm'=>zdu q (a1) 1 (k1) w' (fun w2 hf=>hb w2 (hm'.fr.trans (znu hf))) hl (by omega) ⟨by omega,by omega⟩ hm'.part) ?_⟩
 rintro e m' ⟨rfl,rfl⟩
 refine gGw ?_
 refine⟨zbF,zac (m1:=RrM q (a1+1) (numK q.bs (a1) 1 (k1))) (by repeat constructor) (fun w' hm'=>zdu q (a1+1) 1 (numK q.bs (a1) 1 (k1)) w' (fun w2 hf=>hb w2 (hm'.fr.trans (znu hf))) hl (by omega) ⟨by omega,by omega⟩ hm'.part) ?_⟩
 rintro e m' ⟨rfl,rfl⟩
 refine gGw ?_
 refine⟨zbF,zac (m1:=RrM q (a1+2) (numK q.bs (a1+1) 1 (numK q.bs (a1) 1 (k1)))) (by repeat constructor) (fun w' hm'=>zdu q (a1+2) 8 (numK q.bs (a1+1) 1 (numK q.bs (a1) 1 (k1))) w' (fun w2 hf=>hb w2 (hm'.fr.trans (znu hf))) hl (by omega) ⟨by omega,by omega⟩ hm'.part) ?_⟩
 rintro e m' ⟨rfl,rfl⟩
 refine gGw ?_
 refine⟨zbF,zac (m1:=RrM q (a1+10) (numK q.bs (a1+2) 8 (numK q.bs (a1+1) 1 (numK q.bs (a1) 1 (k1))))) (by repeat constructor) (fun w' hm'=>zdu q (a1+10) 4 (numK q.bs (a1+2) 8 (numK q.bs (a1+1) 1 (numK q.bs (a1) 1 (k1)))) w' (fun w2 hf=>hb w2 (hm'.fr.trans (znu hf))) hl (by omega) ⟨by omega,by omega⟩ hm'.part) ?_⟩
 rintro e m' ⟨rfl,rfl⟩
 refine gGw ?_
 exact zw7 rfl rfl (ldN zaa (by repeat constructor) rfl rfl rfl rfl) (fun w' hm=>⟨_,⟨rfl,rfl⟩,hm.sl⟩)
theorem zuz {bs:List UInt8} {a:Nat} {ok:Bool} (h:(zdH bs a ok).2.2=true):(zdH bs a ok).2.1≤bs.length:=by
 unfold zdH at h ⊢
 have:=zfd (by omega) h
 exact this
def zcn (bs:List UInt8):Nat→Nat→Bool→List Rwp→List Rwp × Bool
 | 0,_,ok,acc=>(acc,ok)
 | n+1,a,ok,acc=>if (zdH bs a ok).2.2=true then zcn bs n (zdH bs a ok).2.1 true (acc++[(zdH bs a ok).1]) else (acc++[(zdH bs a ok).1],false)
theorem zjC (bs:List UInt8):∀ (n a:Nat) (ok:Bool) (acc:List Rwp),(zcn bs n a ok acc).1.length≤acc.length+n
 | 0,_,_,_=>Nat.le_refl _
 | n+1,a,ok,acc=>by
  rw [zcn]
  split
  ·have:=zjC bs n (zdH bs a ok).2.1 true (acc++[(zdH bs a ok).1])
   rw [List.length_append,List.length_singleton] at this
   omega
  ·simp
def za6 (bits:Int) (bs:List UInt8) (n:Int):Option (List Rwp) :=
 if (zcn bs n.toNat 0 true []).2=true∧okB (zb3 bits (zcn bs n.toNat 0 true []).1) bs=true then some (zcn bs n.toNat 0 true []).1 else none
theorem zkx:Eng.Enters Tryz.prog 141:=zab fun _ _=>by kernel_rfl
def zvZ (R:Option (List Rwp)) (e:Ending) (m':Mem):Prop:=(R=none∧(∃ no,no≠0∧e=.returned (.tuple #[.slice none 0 0,.int .i64 no]))∧m'=[]) ∨
  ∃ l lA lc,R=some l∧e=.returned (.tuple #[.slice lA l.length lc,.int .i64 0])∧m'=[.row lA lc l.length 180 5 (l.flatMap Rwp.cells)]
theorem zpJ (A:Option Addr) (c:Nat) (bs:List UInt8) (bits n:Int) (bB:Nat) (w:World) (hb:BytsIn w A bs) (hl:bs.length≤20000000) (hc:bs.length≤c) (hbits:9≤bits∧bits≤16) (hn:0≤n∧n≤64) (hcell:w.cell? ⟨bB,0,none⟩=some (.int .i64 bits)) :
  Ctr Tryz.prog 141 [.int .i64 bits,.int .i64 n,.slice A bs.length c,.func (.func 142) #[] #[],.func (.func 143) #[] #[.pointer (some ⟨bB,0,none⟩)]] [] (zvZ (za6 bits bs n)) w:=by
 refine enter (cx:=CXS 66 [] w (Foot [])) [(0,.int .i64 bits),(1,.int .i64 n),(2,.slice A bs.length c),(3,.func (.func 142) #[] #[]),(4,.func (.func 143) #[] #[.pointer (some ⟨bB,0,none⟩)])] zaa Tryz.func141 rfl rfl rfl rfl (MemOk.nil w _) ?_
 have hlenT:=zjC bs n.toNat 0 true []
 unfold za6
 generalize hT:zcn bs n.toNat 0 true []=T at hlenT
 refine gGw ?_
 refine zdd zaa ?_
 refine gGw ?_
 refine br_f (by rw [decide_eq_false (by omega),decide_eq_false (by omega),decide_eq_false (by omega)];rfl) ?_
 refine gGw ?_;(repeat ((first|refine .mk fun Ap capp=>?_|intro _);(conv=>whnf);refine gG0 ?_))
 rename_i rB
 refine lp zaa (γ:=Nat × Nat × List Rwp × Option Addr × Nat) (fun g=>g.1≤n.toNat∧g.2.1≤bs.length∧g.2.2.1.length=g.1∧zcn bs (n.toNat-g.1) g.2.1 true g.2.2.1=T)
  (fun g=>[(30,.int .i64 (g.1:Int)),(29,.int .i64 n),(13,.slice g.2.2.2.1 g.2.2.1.length g.2.2.2.2),(12,.pointer (some ⟨rB,0,none⟩)),(0,.int .i64 bits),(2,.slice A bs.length c),(3,.func (.func 142) #[] #[]),(4,.func (.func 143) #[] #[.pointer (some ⟨bB,0,none⟩)])])
  (fun g=>.row g.2.2.2.1 g.2.2.2.2 g.2.2.1.length 180 5 (g.2.2.1.flatMap Rwp.cells)::RrM ⟨bs,A,c,rB⟩ g.2.1 true) (fun g=>n.toNat-g.1) (0,0,[],none,0) ⟨Nat.zero_le _,Nat.zero_le _,rfl,hT⟩ ⟨rfl,rfl,rfl,rfl,rfl,rfl,rfl,rfl,trivial⟩ (SubM.row0 SubM.sl _ _) ?_
 clear hT
 rintro ⟨i,a,l,lA,lc⟩ ⟨hi,ha,hli,hT⟩
 simp only at hi ha hli hT
 dsimp only
 conv=>whnf
 refine br_d (fun hlt=>?_) (fun hge=>?_)
 ·obtain ⟨f,hf⟩:∃ f,n.toNat-i=f+1:=⟨n.toNat-i-1,by omega⟩
  rw [hf,zcn] at hT
  refine gGw ?_
  refine⟨zkw,zac (m1:=RrM ⟨bs,A,c,rB⟩ a true) (by repeat constructor) (fun w' hm'=>zrB ⟨bs,A,c,rB⟩ a true w' (stb hm' (fun w3 h3=>(BytsIn.byts (cx:=CXS 66 [] w (Foot [])) hb zam).in_ h3)) hl hc (by omega) hm'.part) ?_⟩
  rintro e m' ⟨rfl,rfl⟩
  have hrok:=zuz (bs:=bs) (a:=a) (ok:=true)
  dsimp only
  generalize zdH bs a true=r at hT hrok ⊢
  obtain ⟨x,a1,k1⟩:=r
  simp only at hT hrok ⊢
  have el:(l++[x]).flatMap Rwp.cells=l.flatMap Rwp.cells++x.cells:=by rw [List.flatMap_append];simp
  have ll:(l++[x]).length=l.length+1:=by simp
  refine gGw ?_;(repeat ((first|refine .mk fun Ap capp=>?_|intro _);(conv=>whnf);refine gG0 ?_))
  refine br_n (br (fun hk=>?_) (fun hk=>?_))
  ·subst hk
   rw [if_pos rfl] at hT
   refine gGw ?_
   refine⟨(i+1,a1,l++[x],Ap,capp),⟨by show i+1≤n.toNat;omega,hrok rfl,by show (l++[x]).length=i+1;omega,by show zcn bs (n.toNat-(i+1)) a1 true (l++[x])=T;rw [show n.toNat-(i+1)=f by omega];exact hT⟩,by show n.toNat-(i+1)<n.toNat-i;omega,⟨rfl,rfl,?_,rfl,rfl,rfl,rfl,rfl,trivial⟩,?_⟩
   ·show some _=some _
    simp only [ll]
   ·show SubM _ _ (.row Ap capp (l++[x]).length 180 5 ((l++[x]).flatMap Rwp.cells)::RrM ⟨bs,A,c,rB⟩ a1 true)
    rw [el,ll]
    exact SubM.sl
  ·subst hk
   rw [if_neg (by decide)] at hT
   subst hT
   simp only at hlenT ⊢
   rw [← ll]
   refine gGw ?_
   have hrow:=fun (w':World) (hm':MemOk w (Foot []) (.row Ap capp (l++[x]).length 180 5 (l.flatMap Rwp.cells++x.cells)::RrM ⟨bs,A,c,rB⟩ a1 false) w')=>RowIn.of_row (L:=(l++[x])) (f:=Rwp.cells) (k:=5) (fun _=>rfl) (by omega) (by rw [el];exact hm'.ok _ (List.mem_cons_self ..))
   refine⟨zhe,zcj (m1:=.row Ap capp (l++[x]).length 180 5 (l.flatMap Rwp.cells++x.cells)::RrM ⟨bs,A,c,rB⟩ a1 false) SubM.sl (zac (m1:=[]) .nil (fun w' hm'=>zlq bits (l++[x]) Ap capp bB w' hbits (by omega) (hrow w' (hm'.sel (by repeat constructor))) (hm'.far hcell (zam _))) ?_)⟩
   rintro e m' (⟨no,hno,hno0,rfl,rfl⟩|⟨out,oA,oc,hno,rfl,rfl⟩)
   ·have hz:okB (zb3 bits (l++[x])) bs=false:=by rw [hno];rfl
    refine gGw ?_
    refine br_t (by rw [decide_eq_false hno0];simp) ?_
    refine gGw ?_
    refine br_t rfl ?_
    refine gGw ?_
    exact fin2 rfl rfl rfl (fun w' hm=>⟨_,.inl ⟨if_neg (by rw [hz];simp),⟨210,by decide,rfl⟩,rfl⟩,hm.sublist (List.nil_sublist _)⟩)
   ·have hz:okB (zb3 bits (l++[x])) bs=decide (out=bs):=by rw [hno];rfl
    refine gGw ?_
    refine br_t rfl ?_
    refine gGw ?_
    refine br_t rfl ?_
    refine gGw ?_
    exact fin2 rfl rfl rfl (fun w' hm=>⟨_,.inl ⟨if_neg (by simp),⟨210,by decide,rfl⟩,rfl⟩,hm.sublist (List.nil_sublist _)⟩)
 ·obtain rfl:i=n.toNat:=by omega
  rw [Nat.sub_self,zcn] at hT
  subst hT
  simp only at hlenT ⊢
  refine gGw ?_
  have hrow:=fun (w':World) (hm':MemOk w (Foot []) (.row lA lc l.length 180 5 (l.flatMap Rwp.cells)::RrM ⟨bs,A,c,rB⟩ a true) w')=>RowIn.of_row (L:=l) (f:=Rwp.cells) (k:=5) (fun _=>rfl) (by omega) (hm'.ok _ (List.mem_cons_self ..))
  refine⟨zhe,zcj (m1:=.row lA lc l.length 180 5 (l.flatMap Rwp.cells)::RrM ⟨bs,A,c,rB⟩ a true) SubM.sl (zac (m1:=[]) .nil (fun w' hm'=>zlq bits l lA lc bB w' hbits (by omega) (hrow w' (hm'.sel (by repeat constructor))) (hm'.far hcell (zam _))) ?_)⟩
  rintro e m' (⟨no,hno,hno0,rfl,rfl⟩|⟨out,oA,oc,hno,rfl,rfl⟩)
  ·have hz:okB (zb3 bits l) bs=false:=by rw [hno];rfl
   refine gGw ?_
   refine br_t (by rw [decide_eq_false hno0];simp) ?_
   refine gGw ?_
   refine br_t rfl ?_
   refine gGw ?_
   exact fin2 rfl rfl rfl (fun w' hm=>⟨_,.inl ⟨if_neg (by rw [hz];simp),⟨210,by decide,rfl⟩,rfl⟩,hm.sublist (List.nil_sublist _)⟩)
  ·have hz:okB (zb3 bits l) bs=decide (out=bs):=by rw [hno];rfl
   refine gGw ?_
   refine br_f rfl ?_
   refine gGw ?_
   have hout:=(zin hno).2.2.2
   refine⟨zh2,zae _ (fun w' hm'=>zn7 out bs oA A oc c w' (rowI (hm'.ok (BR8 oA oc out.length out) (by simp))) ((BytsIn.byts (cx:=CXS 66 [] w (Foot [])) hb zam).in_ hm') (by omega)) ?_⟩
   refine gGw ?_
   refine br_n (br (fun he=>?_) (fun he=>?_))
   ·refine gGw ?_
    refine fin2 rfl rfl rfl (fun w' hm=>⟨_,.inr ⟨l,lA,lc,if_pos ⟨trivial,by rw [hz];exact he⟩,rfl,rfl⟩,hm.sl⟩)
   ·refine gGw ?_
    exact fin2 rfl rfl rfl (fun w' hm=>⟨_,.inl ⟨if_neg (by rw [hz,he];simp),⟨210,by decide,rfl⟩,rfl⟩,hm.sublist (List.nil_sublist _)⟩)
theorem zpK (A:Option Addr) (c:Nat) (bs:List UInt8) (bits n:Int) (w:World) (hb:BytsIn w A bs) (hl:bs.length≤20000000) (hc:bs.length≤c) (hbits:9≤bits∧bits≤16) (hn:0≤n∧n≤64) :
  Ctr Tryz.prog 98 [.int .i64 bits,.slice A bs.length c,.int .i64 n] [] (zvZ (za6 bits bs n)) w:=by
 refine enter (cx:=CXS 15 [] w (Foot [])) [(0,.int .i64 bits),(1,.slice A bs.length c),(2,.int .i64 n)] zaa Tryz.func98 rfl rfl rfl rfl (MemOk.nil w _) ?_
 refine gGw ?_;(repeat ((first|refine .mk fun Ap capp=>?_|intro _);(conv=>whnf);refine gG0 ?_))
 rename_i bB
 refine⟨zkx,zac (m1:=[]) .nil (fun w' hm'=>zpJ A c bs bits n bB w' ((BytsIn.byts (cx:=CXS 15 [] w (Foot [])) hb zam).in_ hm') hl hc hbits hn (by rw [zaJ (hm'.ok (.blk bB (.cells [Value.int .i64 bits].toArray 3)) (List.mem_singleton.2 rfl))];rfl)) ?_⟩
 rintro e m' (⟨hno,⟨no,hno0,rfl⟩,rfl⟩|⟨l,lA,lc,hno,rfl,rfl⟩)
 ·refine gGw ?_
  exact fin2 rfl rfl rfl (fun w' hm=>⟨_,.inl ⟨hno,⟨no,hno0,rfl⟩,rfl⟩,hm.sublist (List.nil_sublist _)⟩)
 ·refine gGw ?_
  exact fin2 rfl rfl rfl (fun w' hm=>⟨_,.inr ⟨l,lA,lc,hno,rfl,rfl⟩,hm.sl⟩)
theorem zjA {bits n:Int} {bs:List UInt8} {l:List Rwp} (h:za6 bits bs n=some l):zbY bits [] l=true∧l.length≤64∧bs=l.flatMap zaj∧l=(zcn bs n.toNat 0 true []).1:=by
 unfold za6 at h
 split at h
 ·rename_i hk
  injection h with h
  subst h
  rcases hp:zb3 bits (zcn bs n.toNat 0 true []).1 with no|out
  ·rw [hp] at hk;exact absurd hk.2 (by simp [okB])
  ·rw [hp] at hk
   have h1:=zin hp
   have h2:out=bs:=of_decide_eq_true hk.2
   exact⟨h1.1,h1.2.1,h2 ▸ h1.2.2.1,rfl⟩
 ·cases h
theorem zvC:zys za6:=by
 intro A c bs bits n w hb hl hc hbits hn
 refine⟨fun l h=>?_,zpK A c bs bits n w hb hl hc hbits hn⟩
 obtain ⟨h1,h2,_,_⟩:=zjA h
 refine⟨fun x hx=>?_,h2⟩
 have hy:=zdh h1 x hx
 have hl1:=(zcW hy).2.2.2.1
 have hl2:=(zcW hy).2.2.2.2
 exact⟨by omega,by omega⟩
end
def zi8:List UInt8→Option (Snp × List UInt8)
 | []=>none
 | k::r=>if r.length<k.toNat+20 then none else some (⟨Str (r.take k.toNat),numT (leV ((r.drop k.toNat).take 8)),numT (leV (((r.drop k.toNat).drop 8).take 4)),numT (leV (((r.drop k.toNat).drop 12).take 8))⟩,(r.drop k.toNat).drop 20)
def zgR:Nat→List UInt8→List Snp→Option (List Snp)
 | 0,_,acc=>some acc
 | n+1,rest,acc=>match zi8 rest with
  | none=>none
  | some (x,r)=>zgR n r (acc++[x])
def zky (bits:Int) (bs:List UInt8) (n:Int):Option (List Snp):=match zgR n.toNat bs [] with
 | none=>none
 | some l=>if okB (zb2 bits l) bs=true then some l else none
theorem znt {bs:List UInt8} {a n:Nat} (hn:1≤n∧n≤8) (h:a+n≤bs.length):getF bs a n=(getV bs a n,0):=by
 rw [getF,if_neg (by omega),liesB_iff.2 ⟨by omega,by omega,by omega⟩,if_pos rfl,Int.toNat_natCast,Int.toNat_natCast]
theorem zfc {bs:List UInt8} {a n:Nat} {ok:Bool} (hn:1≤n∧n≤8) (h:numK bs a n ok=true):numV bs a n=numT (getV bs a n):=by
 have h1:=zfd hn h
 have h2:=zcY h
 have h3:=znt hn h1
 rw [h2.2.2.1,h3]
 have h4:=h2.2.2.2.2
 rw [h2.2.2.1,h3] at h4
 simp only at h4 ⊢
 rw [numT,if_neg (by omega)]
theorem znd {bs:List UInt8} {a n:Nat} (hn:1≤n∧n≤8) (hl:a+n≤bs.length) (h:numK bs a n true=false):numT (getV bs a n)=-1:=by
 unfold numK at h
 rw [znt hn hl] at h
 simp only [decide_true,Bool.true_and,decide_eq_false_iff_not] at h
 rw [numT,if_pos (by omega)]
theorem zwS {bs:List UInt8} (n a:Nat):getV bs a n<256 ^ n:=by
 unfold getV
 refine Nat.lt_of_lt_of_le (zjG _) (Nat.pow_le_pow_right (by omega) ?_)
 rw [List.length_take];omega
theorem zfe {bs:List UInt8} {a n:Nat} (hn:1≤n∧n≤7) (hl:a+n≤bs.length):numK bs a n true=true:=by
 unfold numK
 rw [znt (by omega) hl]
 have h1:getV bs a n<256 ^ n:=zwS n a
 have h2:(256:Nat) ^ n≤256 ^ 7:=Nat.pow_le_pow_right (by omega) hn.2
 simp only [decide_true,Bool.true_and,decide_eq_true_eq]
 have:(256:Nat) ^ 7=72057594037927936:=by decide
 omega
theorem zeY {bs:List UInt8} {a:Nat} (h:a<bs.length):bs.drop a=bs.getD a 0::bs.drop (a+1):=by
 rw [List.drop_eq_getElem_cons h,List.getD_eq_getElem?_getD,List.getElem?_eq_getElem h];rfl
theorem zuM {bs:List UInt8} {a:Nat} (h:a<bs.length):numV bs a 1=((bs.getD a 0).toNat:Int):=by
 rw [zfc (ok:=true) (by omega) (zfe (by omega) (by omega))]
 have e:getV bs a 1=(bs.getD a 0).toNat:=by
  unfold getV
  rw [zeY h,List.take_succ_cons,List.take_zero]
  show (bs.getD a 0).toNat+256*0=_
  omega
 rw [e,numT,if_neg]
 have:=(bs.getD a 0).toNat_lt
 omega
theorem zgk {bs:List UInt8} {a:Nat} (h:a<bs.length) (hk:a+1+(bs.getD a 0).toNat≤bs.length):zbT bs a true=(Str ((bs.drop (a+1)).take (bs.getD a 0).toNat),a+1+(bs.getD a 0).toNat,true):=by
 unfold zbT
 rw [zuM h,if_pos ⟨zfe (by omega) (by omega),by omega⟩,Int.toNat_natCast]
theorem zou {bs:List UInt8} {a:Nat} (h:¬ (a<bs.length∧a+1+(bs.getD a 0).toNat≤bs.length)):(zbT bs a true).2.2=false:=by
 unfold zbT
 rw [if_neg]
 rintro ⟨h1,h2⟩
 have h3:=zfd (by omega) h1
 rw [zuM (by omega)] at h2
 exact h ⟨by omega,by omega⟩
theorem zc7 {bs:List UInt8} (a k n i:Nat):leV ((((bs.drop (a+1)).drop k).drop i).take n)=getV bs (a+1+k+i) n:=by
 unfold getV
 rw [List.drop_drop,List.drop_drop,Nat.add_assoc (a+1)]
theorem zjK {bs:List UInt8} (a k n:Nat):leV (((bs.drop (a+1)).drop k).take n)=getV bs (a+1+k) n:=by
 unfold getV
 rw [List.drop_drop]
theorem zrD {bs:List UInt8} {a:Nat} (h:(zdG bs a true).2.2=true):zi8 (bs.drop a)=some ((zdG bs a true).1,bs.drop (zdG bs a true).2.1):=by
 unfold zdG at h ⊢
 simp only at h ⊢
 have h3:=zcY h
 have h4:=zfd (by omega) h
 have h5:=zcY h3.1
 have h6:=zcY h5.1
 by_cases hc:a<bs.length∧a+1+(bs.getD a 0).toNat≤bs.length
 ·rw [zgk hc.1 hc.2] at h h4 h3 h5 ⊢
  simp only at h h4 h3 h5 ⊢
  rw [zeY hc.1]
  unfold zi8
  simp only
  rw [if_neg (by rw [List.length_drop];omega),zjK,zc7,zc7,zfc (by omega) h,zfc (by omega) h3.1,zfc (by omega) h5.1,List.drop_drop,List.drop_drop,Nat.add_assoc (a+1) _ 20]
 ·have:=zou hc
  rw [this] at h6
  exact absurd h6.1 (by decide)
theorem zuC {bs:List UInt8} {a:Nat} (h:(zdG bs a true).2.2=false):zi8 (bs.drop a)=none∨∃ x r,zi8 (bs.drop a)=some (x,r)∧(x.l1=-1∨x.size=-1):=by
 by_cases ha:a<bs.length
 ·rw [zeY ha]
  unfold zi8
  simp only
  split
  ·exact .inl rfl
  ·rename_i hlen
   rw [List.length_drop] at hlen
   refine .inr ⟨_,_,rfl,?_⟩
   simp only
   rw [zjK,zc7]
   unfold zdG at h
   simp only at h
   rw [zgk ha (by omega)] at h
   simp only at h
   by_cases h1:numK bs (a+1+(bs.getD a 0).toNat) 8 true=true
   ·rw [h1,zfe (by omega) (by omega)] at h
    exact .inr (znd (by omega) (by omega) h)
   ·rw [Bool.not_eq_true] at h1
    exact .inl (znd (by omega) (by omega) h1)
 ·rw [List.drop_eq_nil_of_le (by omega)]
  exact .inl rfl
def badS (x:Snp):Prop:=x.l1=-1∨x.size=-1
theorem zsR {x:Snp} {bits:Int} (h:badS x):zh1 x bits=false:=by
 rw [Bool.eq_false_iff]
 intro hs
 have:=zck hs
 rcases h with h|h<;>omega
theorem zlX:∀ (n:Nat) (r:List UInt8) (acc l:List Snp),zgR n r acc=some l→∀ x∈acc,x∈l
 | 0,_,acc,l,h,x,hx=>by injection h with h;exact h ▸ hx
 | n+1,r,acc,l,h,x,hx=>by
  rw [zgR] at h
  split at h
  ·cases h
  ·exact zlX n _ _ _ h x (List.mem_append_left _ hx)
theorem zoi (bs:List UInt8):∀ (n a:Nat) (acc:List Snp),
  ((zcm bs n a true acc).2=true→zgR n (bs.drop a) acc=some (zcm bs n a true acc).1) ∧
  ((zcm bs n a true acc).2=false→∀ l,zgR n (bs.drop a) acc=some l→∃ x∈l,badS x)
 | 0,a,acc=>⟨fun _=>rfl,fun h=>by rw [zcm] at h;cases h⟩
 | n+1,a,acc=>by
  rw [zcm]
  by_cases h:(zdG bs a true).2.2=true
  ·rw [if_pos h,zgR,zrD h]
   exact zoi bs n _ _
  ·rw [if_neg h]
   rw [Bool.not_eq_true] at h
   refine⟨fun h'=>absurd h' (by simp),fun _ l hl=>?_⟩
   rw [zgR] at hl
   rcases zuC h with hn|⟨x,r,hn,hx⟩
   ·rw [hn] at hl;cases hl
   ·rw [hn] at hl
    exact⟨x,zlX _ _ _ _ hl x (by simp),hx⟩
theorem zwP {bits:Int} {l:List Snp} {bs:List UInt8} (h:∃ x∈l,badS x):okB (zb2 bits l) bs=false:=by
 obtain ⟨x,hx,hb⟩:=h
 cases hp:zb2 bits l with
 | error n=>rfl
 | ok out =>
  have:=zdg (zim hp).1 x hx
  rw [zsR hb] at this
  cases this
theorem zm7 (bits:Int) (bs:List UInt8) (n:Int):zky bits bs n=zaU bits bs n:=by
 have h:=zoi bs n.toNat 0 []
 rw [List.drop_zero] at h
 unfold zky zaU
 by_cases hk:(zcm bs n.toNat 0 true []).2=true
 ·rw [h.1 hk]
  simp only [hk,true_and]
 ·rw [Bool.not_eq_true] at hk
  rw [hk]
  simp only [Bool.false_eq_true,false_and,if_false]
  split
  ·rfl
  ·rename_i l hl
   rw [zwP (h.2 hk l hl)];rfl
section
theorem zvE {cx:Cx} {g:Prop} {m:Mem} {s:Sem Value} {v:Value} (h:¬ g):RdG cx g m s v:=fun hg=>absurd hg h
theorem zom {D:Option Addr} {c k:Nat} (h:Pl D):Pl (cutA D c k 1):=by
 obtain ⟨b,o,rfl⟩:=h
 unfold cutA
 split
 ·exact⟨_,_,rfl⟩
 ·exact⟨_,_,rfl⟩
theorem zjT (w:World) (D:Option Addr):BytsIn w D []:=fun h=>absurd h (by simp [zag])
theorem zcE {w:World} {D:Option Addr} {r:List UInt8} (h:BytsIn w D r) {dc:Nat} (hc:r.length≤dc) (k:Nat) (hk:k≤r.length):BytsIn w (cutA D dc k 1) (r.drop k):=by
 have:=BytsIn.sub h dc k (r.length-k) (by omega) hc
 rwa [List.take_of_length_le (by rw [List.length_drop];omega)] at this
theorem zuD {r:List UInt8} (h:¬ r.length<1+(r.getD 0 0).toNat+20):zi8 r=some (⟨Str ((r.drop 1).take (r.getD 0 0).toNat),numT (leV (((r.drop 1).drop (r.getD 0 0).toNat).take 8)),numT (leV ((((r.drop 1).drop (r.getD 0 0).toNat).drop 8).take 4)),numT (leV ((((r.drop 1).drop (r.getD 0 0).toNat).drop 12).take 8))⟩,((r.drop 1).drop (r.getD 0 0).toNat).drop 20):=by
 rcases r with _|⟨k0,r'⟩
 ·exact absurd (by simp) h
 ·simp only [List.length_cons,List.getD_cons_zero] at h
  unfold zi8
  simp only
  rw [if_neg (by omega)];rfl
def zvW (R:Option (List Snp)) (e:Ending) (m':Mem):Prop:=(R=none∧e=.returned (.tuple #[.slice none 0 0,.bool false])∧m'=[]) ∨
  ∃ l lA lc,R=some l∧e=.returned (.tuple #[.slice lA l.length lc,.bool true])∧m'=[.row lA lc l.length 175 4 (l.flatMap Snp.cells)]
attribute [local irreducible] Br Rn RnU Cl RdG CpG Ld Rd Lp Dr Oth Cut fin Fits Eng.Enters Md NA
theorem zlQ:Eng.Enters Tryz.prog 116:=zab fun _ _=>by kernel_rfl
theorem zic (bs:List UInt8) (A:Option Addr) (c n:Nat) (w:World) (hb:BytsIn w A bs) (hn:bs.length=n) (hl:n≤8) :
  Calls Tryz.prog 158 #[.slice A n c] w fun e w'=>e=.returned (.int .i64 (numT (leV bs)))∧Fr (fun _=>False) w w':=by
 subst hn
 exact zro bs A c w hb hl
set_option maxHeartbeats 2000000 in
theorem zrm (A:Option Addr) (c:Nat) (bs:List UInt8) (bits n:Int) (w:World) (hb:BytsIn w A bs) (hl:bs.length≤20000000) (hc:bs.length≤c) (hbits:9≤bits∧bits≤16) (hn:0≤n∧n≤64) :
  Ctr Tryz.prog 116 [.int .i64 bits,.slice A bs.length c,.int .i64 n] [] (zvW (zaU bits bs n)) w:=by
 refine enter (cx:=CXS 82 [] w (Foot [])) [(0,.int .i64 bits),(1,.slice A bs.length c),(2,.int .i64 n)] zaa Tryz.func116 rfl rfl rfl rfl (MemOk.nil w _) ?_
 rw [← zm7]
 unfold zky
 generalize hT:zgR n.toNat bs []=T
 refine gGw ?_
 refine lp zaa (γ:=Nat × List UInt8 × Option Addr × Nat × List Snp × Option Addr × Nat) (fun g=>g.1≤n.toNat∧BytsIn w g.2.2.1 g.2.1∧g.2.1.length≤g.2.2.2.1∧g.2.1.length≤20000000∧g.2.2.2.2.1.length=g.1∧zgR (n.toNat-g.1) g.2.1 g.2.2.2.2.1=T∧∀ x∈g.2.2.2.2.1,x.name.size≤255)
  (fun g=>[(10,.int .i64 (g.1:Int)),(9,.slice g.2.2.1 g.2.1.length g.2.2.2.1),(8,.slice g.2.2.2.2.2.1 g.2.2.2.2.1.length g.2.2.2.2.2.2),(0,.int .i64 bits),(1,.slice A bs.length c),(2,.int .i64 n)])
  (fun g=>[.row g.2.2.2.2.2.1 g.2.2.2.2.2.2 g.2.2.2.2.1.length 175 4 (g.2.2.2.2.1.flatMap Snp.cells)]) (fun g=>n.toNat-g.1) (0,bs,A,c,[],none,0) ⟨Nat.zero_le _,hb,hc,hl,rfl,hT,fun x hx=>by cases hx⟩ ⟨rfl,rfl,rfl,rfl,rfl,rfl,trivial⟩ (SubM.row0 SubM.sl _ _) ?_
 clear hT
 rintro ⟨i,r,D,dc,l,lA,lc⟩ ⟨hi,hD,hdc,hr,hli,hT,hnm⟩
 simp only at hi hD hdc hr hli hT hnm
 dsimp only
 conv=>whnf
 refine br_d (fun hlt=>?_) (fun hge=>?_)
 ·obtain ⟨f,hf⟩:∃ f,n.toNat-i=f+1:=⟨n.toNat-i-1,by omega⟩
  rw [hf,zgR] at hT
  have hk0:=(r.getD 0 0).toNat_lt
  have hDb:=fun m=>BytsIn.byts (cx:=CXS 82 [] w (Foot [])) (m:=m) hD zam
  refine gGw ?_
  refine And.intro (fun hg=>⟨by omega,by rw [decide_eq_false_iff_not] at hg;omega,(hDb []).plain (by rw [decide_eq_false_iff_not] at hg;omega)⟩) ?_
  refine gGw ?_
  refine⟨_,ldg (fun hg=>(hDb _).ld zaa rfl rfl (j:=0) (by simp only [decide_eq_false_iff_not] at hg;omega)),?_⟩
  refine gGw ?_
  refine And.intro (fun _=>zaB (by omega)) ?_
  refine gGw ?_
  refine And.intro (fun _=>zaB (by omega)) ?_
  refine gGw ?_
  refine And.intro (fun _=>zaB (by omega)) ?_
  refine gGw ?_
  by_cases hlong:r.length<1+(r.getD 0 0).toNat+20
  ·have hno:zi8 r=none:=by
    rcases r with _|⟨k0,r'⟩
    ·rfl
    ·unfold zi8
     simp only [List.length_cons,List.getD_cons_zero] at hlong
     simp only
     rw [if_pos (by omega)]
   rw [hno] at hT
   subst hT
   refine br_t (by simp only [Bool.or_eq_true,decide_eq_true_eq];omega) ?_
   refine gGw ?_
   exact fin2 rfl rfl rfl (fun w' hm=>⟨_,.inl ⟨rfl,rfl,rfl⟩,hm.sublist (List.nil_sublist _)⟩)
  refine br_f (by simp only [Bool.or_eq_false_iff,decide_eq_false_iff_not];omega) ?_
  have hPl:Pl D:=(hDb []).plain (by omega)
  refine gGw ?_
  refine And.intro ⟨by omega,by omega,hPl⟩ ?_
  conv=>whnf
  refine zai ((hDb _).ld zaa rfl rfl (j:=0) (by omega)) ?_
  refine gGw ?_
  refine And.intro ⟨by omega,by omega,by omega,.inr hPl⟩ ?_
  refine gGw ?_
  have hs1:=zuD hlong
  rw [hs1] at hT
  simp only at hT
  have hD1:BytsIn w (cutA D dc 1 1) (r.drop 1):=zcE hD hdc 1 (by omega)
  have hPl1:Pl (cutA D dc 1 1):=zom hPl
  have hl1:(r.drop 1).length=r.length-1:=List.length_drop
  generalize (r.getD 0 0).toNat=kk at hT hlong hk0 ⊢
  refine⟨zgd,zae _ (fun w' _=>zjv (r.length-1) (dc-1) kk (cutA D dc 1 1) w' (.inr hPl1) (by omega) (by omega)) ?_⟩
  generalize hr1:r.drop 1=r1 at hT hD1 hl1
  generalize cutA D dc 1 1=D1 at hD1 hPl1 ⊢
  have hDn:BytsIn w D1 (r1.take kk):=by
   have:=BytsIn.sub hD1 (dc-1) 0 kk (by omega) (by omega)
   rw [List.drop_zero] at this
   rcases Nat.eq_zero_or_pos kk with h0|h0
   ·subst h0;rw [List.take_zero];exact zjT _ _
   ·have e:cutA D1 (dc-1) 0 1=D1:=by
     unfold cutA
     rw [if_neg (by omega)]
     obtain ⟨b,o,rfl⟩:=hPl1;rfl
    rwa [e] at this
  have hD2:BytsIn w (cutA D1 (dc-1) kk 1) (r1.drop kk):=zcE hD1 (by omega) kk (by omega)
  have hPl2:Pl (cutA D1 (dc-1) kk 1):=zom hPl1
  generalize hr2:r1.drop kk=r2 at hT hD2
  have hl2:r2.length=r.length-1-kk:=by rw [← hr2,List.length_drop];omega
  have hc2:r.length-1-kk≤dc-1-kk:=by omega
  rw [← hl2] at hc2 ⊢
  generalize dc-1-kk=dc2 at hc2 ⊢
  generalize cutA D1 (dc-1) kk 1=D2 at hD2 hPl2 ⊢
  have hs8:=fun lo n h=>BytsIn.sub hD2 dc2 lo n h hc2
  have hl20:20≤r2.length:=by omega
  have hln:(r1.take kk).length=kk:=by rw [List.length_take];omega
  refine gGw ?_
  refine zcb (γ:=Option Addr × Nat) (Tr.hs [0,1,2,3,4,6,7,9,10] (.sq [5,8,11] (.hs [12] (.sq [13,14] (.hs [15] .done))))) [] zaa mixed (by kernel_rfl) rfl (fun _=>True)
   (fun g=>[(10,.int .i64 (i:Int)),(13,.slice D2 r2.length dc2),(8,.slice g.1 (l.length+1) g.2),(0,.int .i64 bits),(1,.slice A bs.length c),(2,.int .i64 n)])
   (fun g=>[.row g.1 g.2 (l.length+1) 175 4 (l.flatMap Snp.cells++Snp.cells ⟨Str (r1.take kk),numT (leV (r2.take 8)),numT (leV ((r2.drop 8).take 4)),numT (leV ((r2.drop 12).take 8))⟩)]) SubM.sl ?_ ?_
  ·refine gGw ?_
   refine⟨.string (Str (r1.take kk)),?_,?_⟩
   ·have h9:=zcy (cx:=CXS 82 [] w (Foot [])) (m:=[]) (s:=22) (d:=9) (bs:=r1.take kk) zaa rfl rfl rfl rfl rfl rfl (BytsIn.byts hDn zam) (dc-1)
    rw [hln] at h9
    exact Rd.g h9
   refine gGw ?_
   refine And.intro ⟨by omega,by omega,by omega,.inr hPl2⟩ ?_
   refine gGw ?_
   refine And.intro ⟨by omega,by omega,by omega,.inr hPl2⟩ ?_
   refine gGw ?_
   refine And.intro ⟨by omega,by omega,by omega,.inr hPl2⟩ ?_
   refine gGw ?_
   refine⟨zcL,zae _ (fun w' hm'=>zic (r2.take 8) _ dc2 8 w' ((BytsIn.byts (cx:=CXS 82 [] w (Foot [])) (hs8 0 8 (by omega)) zam).in_ hm') (by rw [List.length_take];omega) (by omega)) ?_⟩
   conv=>whnf
   refine gGs ?_
   refine gGw ?_
   refine⟨zcL,zae _ (fun w' hm'=>zic ((r2.drop 8).take 4) _ (dc2-8) 4 w' ((BytsIn.byts (cx:=CXS 82 [] w (Foot [])) (hs8 8 4 (by omega)) zam).in_ hm') (by rw [List.length_take,List.length_drop];omega) (by omega)) ?_⟩
   conv=>whnf
   refine gGs ?_
   refine gGw ?_
   refine⟨zcL,zae _ (fun w' hm'=>zic ((r2.drop 12).take 8) _ (dc2-12) 8 w' ((BytsIn.byts (cx:=CXS 82 [] w (Foot [])) (hs8 12 8 (by omega)) zam).in_ hm') (by rw [List.length_take,List.length_drop];omega) (by omega)) ?_⟩
   conv=>whnf
   refine gGs ?_
   refine gGw ?_;(repeat ((first|refine .mk fun Ap capp=>?_|intro _);(conv=>whnf);refine gG0 ?_))
   exact⟨(Ap,capp),trivial,⟨rfl,rfl,rfl,rfl,rfl,rfl,trivial⟩,SubM.sl⟩
  ·rintro ⟨lA2,lc2⟩ _
   have hx:(Snp.mk (Str (r1.take kk)) (numT (leV (r2.take 8))) (numT (leV ((r2.drop 8).take 4))) (numT (leV ((r2.drop 12).take 8)))).name.size≤255:=by show (Str (r1.take kk)).size≤255;rw [Str.size];omega
   generalize Snp.mk (Str (r1.take kk)) (numT (leV (r2.take 8))) (numT (leV ((r2.drop 8).take 4))) (numT (leV ((r2.drop 12).take 8)))=x at hT hx ⊢
   simp only
   refine gGw ?_
   refine And.intro ⟨by omega,by omega,by omega,.inr hPl2⟩ ?_
   refine gGw ?_
   have hD3:BytsIn w (cutA D2 dc2 20 1) (r2.drop 20):=zcE hD2 hc2 20 hl20
   have hl3:(r2.drop 20).length=r2.length-20:=List.length_drop
   have el:(l++[x]).flatMap Snp.cells=l.flatMap Snp.cells++x.cells:=by rw [List.flatMap_append];simp
   have ll:(l++[x]).length=l.length+1:=by simp
   refine⟨(i+1,r2.drop 20,cutA D2 dc2 20 1,dc2-20,l++[x],lA2,lc2),⟨by show i+1≤n.toNat;omega,hD3,by show (r2.drop 20).length≤dc2-20;omega,by show (r2.drop 20).length≤20000000;omega,by show (l++[x]).length=i+1;omega,?_,?_⟩,by show n.toNat-(i+1)<n.toNat-i;omega,⟨rfl,?_,?_,rfl,rfl,rfl,trivial⟩,?_⟩
   ·show zgR (n.toNat-(i+1)) (r2.drop 20) (l++[x])=T
    rw [show n.toNat-(i+1)=f by omega];exact hT
   ·show ∀ y∈l++[x],y.name.size≤255
    intro y hy
    rcases List.mem_append.1 hy with hy|hy
    ·exact hnm y hy
    ·rw [List.mem_singleton] at hy;subst hy;exact hx
   ·show some _=some (Value.slice (cutA D2 dc2 20 1) (r2.drop 20).length (dc2-20))
    rw [hl3];rfl
   ·show some _=some (Value.slice lA2 (l++[x]).length lc2)
    rw [ll]
   ·show SubM _ _ [.row lA2 lc2 (l++[x]).length 175 4 ((l++[x]).flatMap Snp.cells)]
    rw [el,ll]
    exact SubM.sl
 ·obtain rfl:i=n.toNat:=by omega
  rw [Nat.sub_self,zgR] at hT
  subst hT
  refine gGw ?_
  have hrow:=fun (w':World) (hm':MemOk w (Foot []) [.row lA lc l.length 175 4 (l.flatMap Snp.cells)] w')=>RowIn.of_row (L:=l) (f:=Snp.cells) (k:=4) (fun _=>rfl) (by omega) (hm'.ok _ (List.mem_cons_self ..))
  refine⟨zi6,zac (m1:=[]) .nil (fun w' hm'=>zmZ bits l lA lc w' hbits (by omega) (hrow w' (hm'.sel (by repeat constructor))) hnm) ?_⟩
  rintro e m' (⟨no,hno,hno0,rfl,rfl⟩|⟨out,oA,oc,hno,rfl,rfl⟩)
  ·have hz:okB (zb2 bits l) bs=false:=by rw [hno];rfl
   refine gGw ?_
   refine⟨.string (Str []),zvE (by rw [decide_eq_false hno0];decide),?_⟩
   refine gGw ?_
   refine⟨.string (Str bs),Rd.g (zcy zaa rfl rfl rfl rfl rfl rfl (BytsIn.byts hb zam) _),?_⟩
   refine gGw ?_
   refine br_t (by rw [decide_eq_false hno0];rfl) ?_
   refine gGw ?_
   exact fin2 rfl rfl rfl (fun w' hm=>⟨_,.inl ⟨if_neg (by rw [hz];decide),rfl,rfl⟩,hm.sublist (List.nil_sublist _)⟩)
  ·have hz:okB (zb2 bits l) bs=decide (out=bs):=by rw [hno];rfl
   refine gGw ?_
   refine⟨.string (Str out),Rd.g (zik (bs:=out) (t:=5) zaa rfl rfl rfl rfl rfl rfl .here rfl),?_⟩
   refine gGw ?_
   refine⟨.string (Str bs),Rd.g (zcy zaa rfl rfl rfl rfl rfl rfl (BytsIn.byts hb zam) _),?_⟩
   refine gGw ?_
   by_cases he:out=bs
   ·subst he
    refine br_f (by rw [decide_eq_true (rfl:Str out=Str out)];rfl) ?_
    refine gGw ?_
    exact fin2 rfl rfl rfl (fun w' hm=>⟨_,.inr ⟨l,lA,lc,if_pos (by rw [hz];exact decide_eq_true rfl),rfl,rfl⟩,hm.sl⟩)
   ·refine br_t (by rw [decide_eq_false (fun h=>he (Str.inj.1 h))];rfl) ?_
    refine gGw ?_
    exact fin2 rfl rfl rfl (fun w' hm=>⟨_,.inl ⟨if_neg (by rw [hz];simpa using he),rfl,rfl⟩,hm.sublist (List.nil_sublist _)⟩)
end
def zi9:List UInt8→Option (Rwp × List UInt8)
 | []=>none
 | k::r=>if r.length<k.toNat+14 then none else some (⟨Str (r.take k.toNat),(((r.drop k.toNat).getD 0 0).toNat:Nat),(((r.drop k.toNat).getD 1 0).toNat:Nat),numT (leV (((r.drop k.toNat).drop 2).take 8)),numT (leV (((r.drop k.toNat).drop 10).take 4))⟩,(r.drop k.toNat).drop 14)
def zgS:Nat→List UInt8→List Rwp→Option (List Rwp)
 | 0,_,acc=>some acc
 | n+1,rest,acc=>match zi9 rest with
  | none=>none
  | some (x,r)=>zgS n r (acc++[x])
def zkz (bits:Int) (bs:List UInt8) (n:Int):Option (List Rwp):=match zgS n.toNat bs [] with
 | none=>none
 | some l=>if okB (zb3 bits l) bs=true then some l else none
theorem zjL {bs:List UInt8} (a k i:Nat):((bs.drop (a+1)).drop k).getD i 0=bs.getD (a+1+k+i) 0:=by
 rw [List.drop_drop,List.getD_eq_getElem?_getD,List.getD_eq_getElem?_getD,List.getElem?_drop]
theorem zrE {bs:List UInt8} {a:Nat} (h:(zdH bs a true).2.2=true):zi9 (bs.drop a)=some ((zdH bs a true).1,bs.drop (zdH bs a true).2.1):=by
 unfold zdH at h ⊢
 simp only at h ⊢
 have h3:=zcY h
 have h4:=zfd (by omega) h
 have h5:=zcY h3.1
 have h6:=zcY h5.1
 have h7:=zcY h6.1
 by_cases hc:a<bs.length∧a+1+(bs.getD a 0).toNat≤bs.length
 ·rw [zgk hc.1 hc.2] at h h4 h3 h5 ⊢
  simp only at h h4 h3 h5 ⊢
  rw [zeY hc.1]
  unfold zi9
  simp only
  rw [if_neg (by rw [List.length_drop];omega),zjL,zjL,zc7,zc7,zfc (by omega) h,zfc (by omega) h3.1,zuM (by omega),zuM (by omega),List.drop_drop,List.drop_drop,Nat.add_assoc (a+1) _ 14]
  rfl
 ·have:=zou hc
  rw [this] at h7
  exact absurd h7.1 (by decide)
theorem zuE {bs:List UInt8} {a:Nat} (h:(zdH bs a true).2.2=false):zi9 (bs.drop a)=none∨∃ x r,zi9 (bs.drop a)=some (x,r)∧x.at_=-1:=by
 by_cases ha:a<bs.length
 ·rw [zeY ha]
  unfold zi9
  simp only
  split
  ·exact .inl rfl
  ·rename_i hlen
   rw [List.length_drop] at hlen
   refine .inr ⟨_,_,rfl,?_⟩
   simp only
   rw [zc7]
   unfold zdH at h
   simp only at h
   rw [zgk ha (by omega)] at h
   simp only at h
   rw [zfe (bs:=bs) (a:=a+1+(bs.getD a 0).toNat) (n:=1) (by omega) (by omega),zfe (bs:=bs) (a:=a+1+(bs.getD a 0).toNat+1) (n:=1) (by omega) (by omega)] at h
   by_cases h1:numK bs (a+1+(bs.getD a 0).toNat+2) 8 true=true
   ·rw [h1,zfe (by omega) (by omega)] at h
    cases h
   ·rw [Bool.not_eq_true] at h1
    exact znd (by omega) (by omega) h1
 ·rw [List.drop_eq_nil_of_le (by omega)]
  exact .inl rfl
def badR (x:Rwp):Prop:=x.at_=-1
theorem zsS {x:Rwp} {bits:Int} (h:badR x):rowB x bits=false:=by
 rw [Bool.eq_false_iff]
 intro hs
 have:=zcW hs
 unfold badR at h
 omega
theorem zlY:∀ (n:Nat) (r:List UInt8) (acc l:List Rwp),zgS n r acc=some l→∀ x∈acc,x∈l
 | 0,_,acc,l,h,x,hx=>by injection h with h;exact h ▸ hx
 | n+1,r,acc,l,h,x,hx=>by
  rw [zgS] at h
  split at h
  ·cases h
  ·exact zlY n _ _ _ h x (List.mem_append_left _ hx)
theorem zoj (bs:List UInt8):∀ (n a:Nat) (acc:List Rwp),
  ((zcn bs n a true acc).2=true→zgS n (bs.drop a) acc=some (zcn bs n a true acc).1) ∧
  ((zcn bs n a true acc).2=false→∀ l,zgS n (bs.drop a) acc=some l→∃ x∈l,badR x)
 | 0,a,acc=>⟨fun _=>rfl,fun h=>by rw [zcn] at h;cases h⟩
 | n+1,a,acc=>by
  rw [zcn]
  by_cases h:(zdH bs a true).2.2=true
  ·rw [if_pos h,zgS,zrE h]
   exact zoj bs n _ _
  ·rw [if_neg h]
   rw [Bool.not_eq_true] at h
   refine⟨fun h'=>absurd h' (by simp),fun _ l hl=>?_⟩
   rw [zgS] at hl
   rcases zuE h with hn|⟨x,r,hn,hx⟩
   ·rw [hn] at hl;cases hl
   ·rw [hn] at hl
    exact⟨x,zlY _ _ _ _ hl x (by simp),hx⟩
theorem zuL {bits:Int} {l:List Rwp} {bs:List UInt8} (h:∃ x∈l,badR x):okB (zb3 bits l) bs=false:=by
 obtain ⟨x,hx,hb⟩:=h
 cases hp:zb3 bits l with
 | error n=>rfl
 | ok out =>
  have:=zdh (zin hp).1 x hx
  rw [zsS hb] at this
  cases this
theorem zm8 (bits:Int) (bs:List UInt8) (n:Int):zkz bits bs n=za6 bits bs n:=by
 have h:=zoj bs n.toNat 0 []
 rw [List.drop_zero] at h
 unfold zkz za6
 by_cases hk:(zcn bs n.toNat 0 true []).2=true
 ·rw [h.1 hk]
  simp only [hk,true_and]
 ·rw [Bool.not_eq_true] at hk
  rw [hk]
  simp only [Bool.false_eq_true,false_and,if_false]
  split
  ·rfl
  ·rename_i l hl
   rw [zuL (h.2 hk l hl)];rfl
section
theorem zuF {r:List UInt8} (h:¬ r.length<1+(r.getD 0 0).toNat+14):zi9 r=some (⟨Str ((r.drop 1).take (r.getD 0 0).toNat),((((r.drop 1).drop (r.getD 0 0).toNat).getD 0 0).toNat:Nat),((((r.drop 1).drop (r.getD 0 0).toNat).getD 1 0).toNat:Nat),numT (leV ((((r.drop 1).drop (r.getD 0 0).toNat).drop 2).take 8)),numT (leV ((((r.drop 1).drop (r.getD 0 0).toNat).drop 10).take 4))⟩,((r.drop 1).drop (r.getD 0 0).toNat).drop 14):=by
 rcases r with _|⟨k0,r'⟩
 ·exact absurd (by simp) h
 ·simp only [List.length_cons,List.getD_cons_zero] at h
  unfold zi9
  simp only
  rw [if_neg (by omega)];rfl
def zvX (R:Option (List Rwp)) (e:Ending) (m':Mem):Prop:=(R=none∧e=.returned (.tuple #[.slice none 0 0,.bool false])∧m'=[]) ∨
  ∃ l lA lc,R=some l∧e=.returned (.tuple #[.slice lA l.length lc,.bool true])∧m'=[.row lA lc l.length 180 5 (l.flatMap Rwp.cells)]
attribute [local irreducible] Br Rn RnU Cl RdG CpG Ld Rd Lp Dr Oth Cut fin Fits Eng.Enters Md NA
theorem zlR:Eng.Enters Tryz.prog 118:=zab fun _ _=>by kernel_rfl
set_option maxHeartbeats 2000000 in
theorem zrn (A:Option Addr) (c:Nat) (bs:List UInt8) (bits n:Int) (w:World) (hb:BytsIn w A bs) (hl:bs.length≤20000000) (hc:bs.length≤c) (hbits:9≤bits∧bits≤16) (hn:0≤n∧n≤64) :
  Ctr Tryz.prog 118 [.int .i64 bits,.slice A bs.length c,.int .i64 n] [] (zvX (za6 bits bs n)) w:=by
 refine enter (cx:=CXS 87 [] w (Foot [])) [(0,.int .i64 bits),(1,.slice A bs.length c),(2,.int .i64 n)] zaa Tryz.func118 rfl rfl rfl rfl (MemOk.nil w _) ?_
 rw [← zm8]
 unfold zkz
 generalize hT:zgS n.toNat bs []=T
 refine gGw ?_
 refine lp zaa (γ:=Nat × List UInt8 × Option Addr × Nat × List Rwp × Option Addr × Nat) (fun g=>g.1≤n.toNat∧BytsIn w g.2.2.1 g.2.1∧g.2.1.length≤g.2.2.2.1∧g.2.1.length≤20000000∧g.2.2.2.2.1.length=g.1∧zgS (n.toNat-g.1) g.2.1 g.2.2.2.2.1=T∧∀ x∈g.2.2.2.2.1,x.name.size≤255)
  (fun g=>[(10,.int .i64 (g.1:Int)),(9,.slice g.2.2.1 g.2.1.length g.2.2.2.1),(8,.slice g.2.2.2.2.2.1 g.2.2.2.2.1.length g.2.2.2.2.2.2),(0,.int .i64 bits),(1,.slice A bs.length c),(2,.int .i64 n)])
  (fun g=>[.row g.2.2.2.2.2.1 g.2.2.2.2.2.2 g.2.2.2.2.1.length 180 5 (g.2.2.2.2.1.flatMap Rwp.cells)]) (fun g=>n.toNat-g.1) (0,bs,A,c,[],none,0) ⟨Nat.zero_le _,hb,hc,hl,rfl,hT,fun x hx=>by cases hx⟩ ⟨rfl,rfl,rfl,rfl,rfl,rfl,trivial⟩ (SubM.row0 SubM.sl _ _) ?_
 clear hT
 rintro ⟨i,r,D,dc,l,lA,lc⟩ ⟨hi,hD,hdc,hr,hli,hT,hnm⟩
 simp only at hi hD hdc hr hli hT hnm
 dsimp only
 conv=>whnf
 refine br_d (fun hlt=>?_) (fun hge=>?_)
 ·obtain ⟨f,hf⟩:∃ f,n.toNat-i=f+1:=⟨n.toNat-i-1,by omega⟩
  rw [hf,zgS] at hT
  have hk0:=(r.getD 0 0).toNat_lt
  have hDb:=fun m=>BytsIn.byts (cx:=CXS 87 [] w (Foot [])) (m:=m) hD zam
  refine gGw ?_
  refine And.intro (fun hg=>⟨by omega,by rw [decide_eq_false_iff_not] at hg;omega,(hDb []).plain (by rw [decide_eq_false_iff_not] at hg;omega)⟩) ?_
  refine gGw ?_
  refine⟨_,ldg (fun hg=>(hDb _).ld zaa rfl rfl (j:=0) (by simp only [decide_eq_false_iff_not] at hg;omega)),?_⟩
  refine gGw ?_
  refine And.intro (fun _=>zaB (by omega)) ?_
  refine gGw ?_
  refine And.intro (fun _=>zaB (by omega)) ?_
  refine gGw ?_
  refine And.intro (fun _=>zaB (by omega)) ?_
  refine gGw ?_
  by_cases hlong:r.length<1+(r.getD 0 0).toNat+14
  ·have hno:zi9 r=none:=by
    rcases r with _|⟨k0,r'⟩
    ·rfl
    ·unfold zi9
     simp only [List.length_cons,List.getD_cons_zero] at hlong
     simp only
     rw [if_pos (by omega)]
   rw [hno] at hT
   subst hT
   refine br_t (by simp only [Bool.or_eq_true,decide_eq_true_eq];omega) ?_
   refine gGw ?_
   exact fin2 rfl rfl rfl (fun w' hm=>⟨_,.inl ⟨rfl,rfl,rfl⟩,hm.sublist (List.nil_sublist _)⟩)
  refine br_f (by simp only [Bool.or_eq_false_iff,decide_eq_false_iff_not];omega) ?_
  have hPl:Pl D:=(hDb []).plain (by omega)
  refine gGw ?_
  refine And.intro ⟨by omega,by omega,hPl⟩ ?_
  conv=>whnf
  refine zai ((hDb _).ld zaa rfl rfl (j:=0) (by omega)) ?_
  refine gGw ?_
  refine And.intro ⟨by omega,by omega,by omega,.inr hPl⟩ ?_
  refine gGw ?_
  have hs1:=zuF hlong
  rw [hs1] at hT
  simp only at hT
  have hD1:BytsIn w (cutA D dc 1 1) (r.drop 1):=zcE hD hdc 1 (by omega)
  have hPl1:Pl (cutA D dc 1 1):=zom hPl
  have hl1:(r.drop 1).length=r.length-1:=List.length_drop
  generalize (r.getD 0 0).toNat=kk at hT hlong hk0 ⊢
  refine⟨zgd,zae _ (fun w' _=>zjv (r.length-1) (dc-1) kk (cutA D dc 1 1) w' (.inr hPl1) (by omega) (by omega)) ?_⟩
  generalize hr1:r.drop 1=r1 at hT hD1 hl1
  generalize cutA D dc 1 1=D1 at hD1 hPl1 ⊢
  have hDn:BytsIn w D1 (r1.take kk):=by
   have:=BytsIn.sub hD1 (dc-1) 0 kk (by omega) (by omega)
   rw [List.drop_zero] at this
   rcases Nat.eq_zero_or_pos kk with h0|h0
   ·subst h0;rw [List.take_zero];exact zjT _ _
   ·have e:cutA D1 (dc-1) 0 1=D1:=by
     unfold cutA
     rw [if_neg (by omega)]
     obtain ⟨b,o,rfl⟩:=hPl1;rfl
    rwa [e] at this
  have hD2:BytsIn w (cutA D1 (dc-1) kk 1) (r1.drop kk):=zcE hD1 (by omega) kk (by omega)
  have hPl2:Pl (cutA D1 (dc-1) kk 1):=zom hPl1
  generalize hr2:r1.drop kk=r2 at hT hD2
  have hl2:r2.length=r.length-1-kk:=by rw [← hr2,List.length_drop];omega
  have hc2:r.length-1-kk≤dc-1-kk:=by omega
  rw [← hl2] at hc2 ⊢
  generalize dc-1-kk=dc2 at hc2 ⊢
  generalize cutA D1 (dc-1) kk 1=D2 at hD2 hPl2 ⊢
  have hs8:=fun lo n h=>BytsIn.sub hD2 dc2 lo n h hc2
  have hl14:14≤r2.length:=by omega
  have hln:(r1.take kk).length=kk:=by rw [List.length_take];omega
  refine gGw ?_
  have hD2b:=fun m=>BytsIn.byts (cx:=CXS 87 [] w (Foot [])) (m:=m) hD2 zam
  refine zcb (γ:=Option Addr × Nat) (Tr.hs [0,1,2,3,4,5,6,7,8,9,10,11,12,14,15] (.sq [13,16] (.hs [17] (.sq [18,19] (.hs [20] .done))))) [] zaa mixed (by kernel_rfl) rfl (fun _=>True)
   (fun g=>[(10,.int .i64 (i:Int)),(13,.slice D2 r2.length dc2),(8,.slice g.1 (l.length+1) g.2),(0,.int .i64 bits),(1,.slice A bs.length c),(2,.int .i64 n)])
   (fun g=>[.row g.1 g.2 (l.length+1) 180 5 (l.flatMap Rwp.cells++Rwp.cells ⟨Str (r1.take kk),((r2.getD 0 0).toNat:Nat),((r2.getD 1 0).toNat:Nat),numT (leV ((r2.drop 2).take 8)),numT (leV ((r2.drop 10).take 4))⟩)]) SubM.sl ?_ ?_
  ·have hu0:=(r2.getD 0 0).toNat_lt
   have hu1:=(r2.getD 1 0).toNat_lt
   refine gGw ?_
   refine⟨.string (Str (r1.take kk)),?_,?_⟩
   ·have h9:=zcy (cx:=CXS 87 [] w (Foot [])) (m:=[]) (s:=22) (d:=9) (bs:=r1.take kk) zaa rfl rfl rfl rfl rfl rfl (BytsIn.byts hDn zam) (dc-1)
    rw [hln] at h9
    exact Rd.g h9
   refine gGw ?_
   refine And.intro ⟨by omega,by omega,hPl2⟩ ?_
   refine gGw ?_
   refine⟨_,Ld.g ((hD2b _).ld zaa rfl rfl (j:=0) (by omega)),?_⟩
   refine gGw ?_
   refine And.intro ⟨by omega,by omega,hPl2⟩ ?_
   refine gGw ?_
   refine⟨_,Ld.g ((hD2b _).ld zaa rfl rfl (j:=1) (by omega)),?_⟩
   refine gGw ?_
   refine And.intro ⟨by omega,by omega,by omega,.inr hPl2⟩ ?_
   refine gGw ?_
   refine And.intro ⟨by omega,by omega,by omega,.inr hPl2⟩ ?_
   refine gGw ?_
   refine⟨zcL,zae _ (fun w' hm'=>zic ((r2.drop 2).take 8) _ (dc2-2) 8 w' ((BytsIn.byts (cx:=CXS 87 [] w (Foot [])) (hs8 2 8 (by omega)) zam).in_ hm') (by rw [List.length_take,List.length_drop];omega) (by omega)) ?_⟩
   conv=>whnf
   refine gGs ?_
   refine gGw ?_
   refine⟨zcL,zae _ (fun w' hm'=>zic ((r2.drop 10).take 4) _ (dc2-10) 4 w' ((BytsIn.byts (cx:=CXS 87 [] w (Foot [])) (hs8 10 4 (by omega)) zam).in_ hm') (by rw [List.length_take,List.length_drop];omega) (by omega)) ?_⟩
   conv=>whnf
   refine gGs ?_
   refine gGw ?_;(repeat ((first|refine .mk fun Ap capp=>?_|intro _);(conv=>whnf);refine gG0 ?_))
   exact⟨(Ap,capp),trivial,⟨rfl,rfl,rfl,rfl,rfl,rfl,trivial⟩,SubM.sl⟩
  ·rintro ⟨lA2,lc2⟩ _
   have hx:(Rwp.mk (Str (r1.take kk)) ((r2.getD 0 0).toNat:Nat) ((r2.getD 1 0).toNat:Nat) (numT (leV ((r2.drop 2).take 8))) (numT (leV ((r2.drop 10).take 4)))).name.size≤255:=by show (Str (r1.take kk)).size≤255;rw [Str.size];omega
   generalize Rwp.mk (Str (r1.take kk)) ((r2.getD 0 0).toNat:Nat) ((r2.getD 1 0).toNat:Nat) (numT (leV ((r2.drop 2).take 8))) (numT (leV ((r2.drop 10).take 4)))=x at hT hx ⊢
   simp only
   refine gGw ?_
   refine And.intro ⟨by omega,by omega,by omega,.inr hPl2⟩ ?_
   refine gGw ?_
   have hD3:BytsIn w (cutA D2 dc2 14 1) (r2.drop 14):=zcE hD2 hc2 14 hl14
   have hl3:(r2.drop 14).length=r2.length-14:=List.length_drop
   have el:(l++[x]).flatMap Rwp.cells=l.flatMap Rwp.cells++x.cells:=by rw [List.flatMap_append];simp
   have ll:(l++[x]).length=l.length+1:=by simp
   refine⟨(i+1,r2.drop 14,cutA D2 dc2 14 1,dc2-14,l++[x],lA2,lc2),⟨by show i+1≤n.toNat;omega,hD3,by show (r2.drop 14).length≤dc2-14;omega,by show (r2.drop 14).length≤20000000;omega,by show (l++[x]).length=i+1;omega,?_,?_⟩,by show n.toNat-(i+1)<n.toNat-i;omega,⟨rfl,?_,?_,rfl,rfl,rfl,trivial⟩,?_⟩
   ·show zgS (n.toNat-(i+1)) (r2.drop 14) (l++[x])=T
    rw [show n.toNat-(i+1)=f by omega];exact hT
   ·show ∀ y∈l++[x],y.name.size≤255
    intro y hy
    rcases List.mem_append.1 hy with hy|hy
    ·exact hnm y hy
    ·rw [List.mem_singleton] at hy;subst hy;exact hx
   ·show some _=some (Value.slice (cutA D2 dc2 14 1) (r2.drop 14).length (dc2-14))
    rw [hl3];rfl
   ·show some _=some (Value.slice lA2 (l++[x]).length lc2)
    rw [ll]
   ·show SubM _ _ [.row lA2 lc2 (l++[x]).length 180 5 ((l++[x]).flatMap Rwp.cells)]
    rw [el,ll]
    exact SubM.sl
 ·obtain rfl:i=n.toNat:=by omega
  rw [Nat.sub_self,zgS] at hT
  subst hT
  refine gGw ?_
  have hrow:=fun (w':World) (hm':MemOk w (Foot []) [.row lA lc l.length 180 5 (l.flatMap Rwp.cells)] w')=>RowIn.of_row (L:=l) (f:=Rwp.cells) (k:=5) (fun _=>rfl) (by omega) (hm'.ok _ (List.mem_cons_self ..))
  refine⟨zkm,zac (m1:=[]) .nil (fun w' hm'=>zpB bits l lA lc w' hbits (by omega) (hrow w' (hm'.sel (by repeat constructor))) hnm) ?_⟩
  rintro e m' (⟨no,hno,hno0,rfl,rfl⟩|⟨out,oA,oc,hno,rfl,rfl⟩)
  ·have hz:okB (zb3 bits l) bs=false:=by rw [hno];rfl
   refine gGw ?_
   refine⟨.string (Str []),zvE (by rw [decide_eq_false hno0];decide),?_⟩
   refine gGw ?_
   refine⟨.string (Str bs),Rd.g (zcy zaa rfl rfl rfl rfl rfl rfl (BytsIn.byts hb zam) _),?_⟩
   refine gGw ?_
   refine br_t (by rw [decide_eq_false hno0];rfl) ?_
   refine gGw ?_
   exact fin2 rfl rfl rfl (fun w' hm=>⟨_,.inl ⟨if_neg (by rw [hz];decide),rfl,rfl⟩,hm.sublist (List.nil_sublist _)⟩)
  ·have hz:okB (zb3 bits l) bs=decide (out=bs):=by rw [hno];rfl
   refine gGw ?_
   refine⟨.string (Str out),Rd.g (zik (bs:=out) (t:=5) zaa rfl rfl rfl rfl rfl rfl .here rfl),?_⟩
   refine gGw ?_
   refine⟨.string (Str bs),Rd.g (zcy zaa rfl rfl rfl rfl rfl rfl (BytsIn.byts hb zam) _),?_⟩
   refine gGw ?_
   by_cases he:out=bs
   ·subst he
    refine br_f (by rw [decide_eq_true (rfl:Str out=Str out)];rfl) ?_
    refine gGw ?_
    exact fin2 rfl rfl rfl (fun w' hm=>⟨_,.inr ⟨l,lA,lc,if_pos (by rw [hz];exact decide_eq_true rfl),rfl,rfl⟩,hm.sl⟩)
   ·refine br_t (by rw [decide_eq_false (fun h=>he (Str.inj.1 h))];rfl) ?_
    refine gGw ?_
    exact fin2 rfl rfl rfl (fun w' hm=>⟨_,.inl ⟨if_neg (by rw [hz];simpa using he),rfl,rfl⟩,hm.sublist (List.nil_sublist _)⟩)
end
theorem zgj {α:Type}:∀ {l m:List α},l.Nodup→(∀ x∈l,x∈m)→l.length≤m.length
 | [],_,_,_=>Nat.zero_le _
 | x::l,m,hn,hs=>by
  obtain ⟨s,t,rfl⟩:=List.append_of_mem (hs x (List.mem_cons_self ..))
  rw [List.nodup_cons] at hn
  have ih:=zgj (l:=l) (m:=s++t) hn.2 (fun y hy=>by
   have h1:=hs y (List.mem_cons_of_mem _ hy)
   rw [List.mem_append,List.mem_cons] at h1
   rw [List.mem_append]
   rcases h1 with h1|rfl|h1
   ·exact .inl h1
   ·exact absurd hy hn.1
   ·exact .inr h1)
  rw [List.length_append] at ih
  rw [List.length_cons,List.length_append,List.length_cons]
  omega
theorem zmo {α β:Type} {f:α→List β} {n:Nat} (hf:∀ x,(f x).length≤n):∀ L:List α,(L.flatMap f).length≤L.length*n
 | []=>by simp
 | x::L=>by
  have h1:=hf x
  have h2:=zmo hf L
  rw [List.flatMap_cons,List.length_append,List.length_cons,Nat.succ_mul];omega
def evAt:Ev→Prop
 | .find x=>0≤x.kind∧0≤x.at_∧x.at_≤300000000
 | _=>True
theorem zgc {p:WP} {a l t k:Int} (ht:0≤t∧t≤300000000):∀ e∈tRun p a l t k,evAt e:=by
 intro e he
 unfold tRun at he
 split at he
 ·obtain ⟨i,hi,he⟩:=mem_rng.1 he
  rw [List.mem_singleton] at he
  subst he
  exact trivial
 ·rw [List.mem_singleton] at he
  subst he
  exact⟨(by decide:(0:Int)≤1),ht.1,ht.2⟩
theorem zsw {n:Nat} {f:Nat→List Ev} (h:∀ i,i<n→∀ e∈f i,evAt e):∀ e∈rng n f,evAt e:=by
 intro e he
 obtain ⟨i,hi,he⟩:=mem_rng.1 he
 exact h i hi e he
theorem zfD {l k:List Ev} (h1:∀ e∈l,evAt e) (h2:∀ e∈k,evAt e):∀ e∈l++k,evAt e:=fun e he=>(List.mem_append.1 he).elim (h1 e) (h2 e)
theorem zdy:∀ e∈([]:List Ev),evAt e:=fun e he=>by cases he
theorem zcQ {b:Prop} [Decidable b] {l k:List Ev} (h1:b→∀ e∈l,evAt e) (h2:¬ b→∀ e∈k,evAt e):∀ e∈(if b then l else k),evAt e:=by
 split
 ·rename_i h;exact h1 h
 ·rename_i h;exact h2 h
theorem zoq {x:Fi} (h:0≤x.kind∧0≤x.at_∧x.at_≤300000000):∀ e∈[Ev.find x],evAt e:=fun e he=>by rw [List.mem_singleton] at he;subst he;exact h
theorem zq3 {U:List UInt8→Int→Bool} {p:WP} {a:Int} {x:En} (ha:0≤a∧a≤300000000):∀ e∈zcu U p a x,evAt e:=by
 unfold zcu
 refine zcQ (fun _=>zfD (zgc ha) (zcQ (fun _=>?_) fun _=>zdy)) fun _=>zcQ (fun _=>zfD (zgc ha) (zcQ (fun _=>?_) fun _=>zdy)) fun _=>zcQ (fun _=>?_) fun _=>zdy
 ·intro e he;rw [List.mem_singleton] at he;subst he;exact trivial
 ·intro e he
  rcases List.mem_cons.1 he with rfl|he
  ·exact trivial
  ·split at he
   ·exact zoq (x:=⟨5,a,0,0⟩) ⟨(by decide:(0:Int)≤5),ha.1,ha.2⟩ e he
   ·cases he
 ·intro e he;rw [List.mem_singleton] at he;subst he;exact trivial
theorem zn3 {U:List UInt8→Int→Bool} {p:WP} (hp:p.Ok) {l1 long st:Int} (hs:0≤st∧st≤300000000):∀ e∈zby U p l1 long st,evAt e:=by
 have hlen:=hp.len
 have hc:=hp.c0
 have hc1:=hp.c1
 unfold zby
 refine zcQ (fun _=>zdy) fun _=>zfD (zgc hs) (zcQ (fun hw=>zsw fun i hi=>?_) fun _=>zdy)
 have hle:=zaF hp hw
 unfold tL1
 refine zcQ (fun _=>zdy) fun _=>zfD (zgc (by omega)) (zcQ (fun hw2=>zsw fun k hk=>?_) fun _=>zdy)
 have hle2:=zaF hp hw2
 generalize zaY (zaz p (l1+8*(i:Int)))=t at hw2 hle2 ⊢
 unfold tEnt
 exact zcQ (fun _=>zq3 (by omega)) fun _=>zoq ⟨(by decide:(0:Int)≤2),by show 0≤t+8*(k:Int);omega,by show t+8*(k:Int)≤300000000;omega⟩
theorem zpi {p:WP} (hp:p.Ok):∀ e∈zbk p,evAt e:=by
 have hlen:=hp.len
 unfold zbk
 refine zfD (zgc (by decide)) (zcQ (fun hw=>zsw fun i hi=>?_) fun _=>zdy)
 have hle:=zaF hp hw
 unfold zbo
 exact zcQ (fun _=>zdy) fun _=>zgc (by omega)
theorem zsg {α:Type} {l:List α} {f:α→List Ev} (h:∀ x,∀ e∈f x,evAt e):∀ e∈l.flatMap f,evAt e:=by
 intro e he
 obtain ⟨x,_,he⟩:=List.mem_flatMap.1 he
 exact h x e he
theorem zq0 {U:List UInt8→Int→Bool} {S:Int→List UInt8→Int→Option (List Snp)} {p:WP} (hp:p.Ok) (hh:HL p.h):∀ e∈zbA U S p,evAt e:=by
 have hsa:=hh.sa
 unfold zbA
 refine zcQ (fun _=>zdy) fun _=>zfD (zgc (by decide)) (zcQ (fun _=>?_) fun _=>zdy)
 split
 ·exact zoq ⟨(by decide:(0:Int)≤3),by show 0≤p.h.snapsAt;omega,by show p.h.snapsAt≤300000000;omega⟩
 ·intro e he;exact zsg (fun x=>zn3 hp (by omega)) e (List.mem_filter.1 he).1
theorem zt5 {R:Int→List UInt8→Int→Option (List Rwp)} {p:WP} (hh:HL p.h):∀ e∈zdQ R p,evAt e:=by
 have hba:=hh.ba
 unfold zdQ
 refine zcQ (fun _=>zdy) fun _=>zfD (zgc (by decide)) (zcQ (fun _=>?_) fun _=>zdy)
 split
 ·exact zoq ⟨(by decide:(0:Int)≤3),by show 0≤p.h.bitmapsAt;omega,by show p.h.bitmapsAt≤300000000;omega⟩
 ·exact zsg fun x=>zcQ (fun _=>zgc (by omega)) fun _=>zdy
theorem zt3 {U:List UInt8→Int→Bool} {S:Int→List UInt8→Int→Option (List Snp)} {R:Int→List UInt8→Int→Option (List Rwp)} {p:WP} (hp:p.Ok) (hh:HL p.h):∀ e∈zfn U S R p,evAt e:=by
 intro e he
 rcases List.mem_cons.1 he with rfl|he
 ·exact trivial
 ·exact zfD (zpi hp) (zfD (zn3 hp (by decide)) (zfD (zq0 hp hh) (zt5 hh))) e he
theorem zxn {l:List Ev}:∀ {s:WS},(∀ x∈keys s.finds,0≤x.kind∧0≤x.at_∧x.at_≤300000000)→(∀ e∈l,evAt e)→∀ x∈keys (appL s l).finds,0≤x.kind∧0≤x.at_∧x.at_≤300000000:=by
 induction l with
 | nil=>intro s h _;exact h
 | cons e r ih =>
  intro s h he
  refine ih (s:=appS s e) ?_ fun e' h'=>he e' (List.mem_cons_of_mem _ h')
  have hev:=he e (List.mem_cons_self ..)
  cases e with
  | find x =>
   intro y hy
   rcases mem_mset.1 hy with hy|rfl
   ·exact h _ hy
   ·exact hev
  | _=>exact h
theorem zoK (bs:List UInt8) (order base:Int) (l:List (Int × Int)):∀ n:Nat,(zeW bs order base l n).length≤l.length+n
 | 0=>Nat.le_refl _
 | n+1=>by
  have ih:=zoK bs order base l n
  unfold zeW
  split
  ·omega
  ·have h1:(keys (mset (zeW bs order base l n) (base+n) (cntF bs order n))).length≤(keys (zeW bs order base l n)).length+1:=by
    rw [zgn]
    split
    ·omega
    ·simp
   simp only [List.length_map] at h1
   omega
theorem zmn (p:WP):∀ n:Nat,(zdp p n).length≤n*(zcO p).toNat
 | 0=>Nat.zero_le _
 | n+1=>by
  have ih:=zmn p n
  unfold zdp
  rw [Nat.succ_mul]
  split
  ·omega
  ·split
   ·have:=zoK (liB p (zd2 p n) p.c) p.h.order (n*zcO p) (zdp p n) (zcO p).toNat
    omega
   ·omega
theorem zsf {p:WP} (hp:p.Ok) (hl:p.bs.length≤100000):(zbh p).length≤6600000000:=by
 have hc0:=hp.c0
 have hc1:=hp.c1
 unfold zbh
 split
 ·rename_i h
  have hle:=zaF hp h
  have hm:(zcO p).toNat≤524288:=by
   unfold zcO
   have hw:=zcd p.h.order
   have h1:8*p.c/zaG p.h.order≤8*p.c:=Int.ediv_le_self _ (by omega)
   omega
  have hn:(p.h.countsLen*p.c/8).toNat≤12500:=by omega
  have h1:=zmn p (p.h.countsLen*p.c/8).toNat
  have h2:=Nat.mul_le_mul hn hm
  omega
 ·exact Nat.zero_le _
theorem zsq {s:WS} (hs:SOk s) (ha:∀ x∈keys s.finds,0≤x.kind∧0≤x.at_∧x.at_≤300000000):s.finds.length≤1800000006:=by
 have key:∀ N:Nat,(N:Int)=300000000→(keys s.finds).length≤(List.range 6).length*(N+1):=by
  intro N hN
  refine Nat.le_trans (zgj (m:=(List.range 6).flatMap fun k:Nat=>(List.range (N+1)).map fun a:Nat=>(⟨(k:Int),(a:Int),0,0⟩:Fi)) hs.fn fun x hx=>?_) (zmo (fun k=>by rw [List.length_map,List.length_range];exact Nat.le_refl _) _)
  have h1:=hs.fb x hx
  have h2:=ha x hx
  refine List.mem_flatMap.2 ⟨x.kind.toNat,List.mem_range.2 (by omega),List.mem_map.2 ⟨x.at_.toNat,List.mem_range.2 (by omega),?_⟩⟩
  exact Fi.ext' (by show ((x.kind.toNat:Nat):Int)=x.kind;omega) (by show ((x.at_.toNat:Nat):Int)=x.at_;omega) h1.2.2.1.symm h1.2.2.2.symm
 have:=key 300000000 rfl
 rw [List.length_map,List.length_range] at this
 omega
theorem zns {s:WS} (hs:SOk s):s.holders.length≤40001:=by
 have key:∀ N:Nat,(N:Int)=40000→(keys s.holders).length≤N+1:=by
  intro N hN
  refine Nat.le_trans (zgj (m:=(List.range (N+1)).map fun a=>((a:Nat):Int)) hs.hn fun x hx=>?_) (by rw [List.length_map,List.length_range];exact Nat.le_refl _)
  have h1:=hs.hb x hx
  exact List.mem_map.2 ⟨x.toNat,List.mem_range.2 (by omega),by omega⟩
 have:=key 40000 rfl
 rw [List.length_map] at this
 exact this
theorem zxl {p:WP} {s s':WS} (hp:p.Ok) (hl:p.bs.length≤100000) (hs:SOk s) (ha:∀ x∈keys s.finds,0≤x.kind∧0≤x.at_∧x.at_≤300000000) (h:CmpR p s s') (hn:(keys s'.finds).Nodup):s'.finds.length≤16000000000:=by
 have h1:=zsq hs ha
 have h2:=zns hs
 have h3:=zsf hp hl
 have h4:(keys s'.finds).length≤(keys s.finds++((s.holders.flatMap fun q=>[(⟨4,IntKind.i64.wrap (q.1*p.c),1,q.2.n⟩:Fi),⟨6,IntKind.i64.wrap (q.1*p.c),q.2.n,(mget (zbh p) q.1).getD 0⟩,⟨7,IntKind.i64.wrap (q.1*p.c),q.2.n,(mget (zbh p) q.1).getD 0⟩]) ++
   ((zbh p).flatMap fun q=>[(⟨6,IntKind.i64.wrap (q.1*p.c),0,q.2⟩:Fi),⟨7,IntKind.i64.wrap (q.1*p.c),0,q.2⟩]))).length:=by
  refine zgj hn fun x hx=>?_
  rcases (h.2 x).1 hx with (hx|⟨q,hq,hx⟩)|⟨q,hq,hx⟩
  ·exact List.mem_append_left _ hx
  ·refine List.mem_append_right _ (List.mem_append_left _ (List.mem_flatMap.2 ⟨q,hq,?_⟩))
   rcases hx with ⟨_,rfl⟩|⟨_,rfl⟩|⟨_,rfl⟩<;>simp
  ·refine List.mem_append_right _ (List.mem_append_right _ (List.mem_flatMap.2 ⟨q,hq,?_⟩))
   rcases hx with ⟨_,⟨_,rfl⟩|⟨_,rfl⟩⟩<;>simp
 rw [List.length_append,List.length_append,List.length_map,List.length_map] at h4
 have h5:=zmo (n:=3) (f:=fun q:Int × Hl=>[(⟨4,IntKind.i64.wrap (q.1*p.c),1,q.2.n⟩:Fi),⟨6,IntKind.i64.wrap (q.1*p.c),q.2.n,(mget (zbh p) q.1).getD 0⟩,⟨7,IntKind.i64.wrap (q.1*p.c),q.2.n,(mget (zbh p) q.1).getD 0⟩]) (fun _=>Nat.le_refl _) s.holders
 have h6:=zmo (n:=2) (f:=fun q:Int × Int=>[(⟨6,IntKind.i64.wrap (q.1*p.c),0,q.2⟩:Fi),⟨7,IntKind.i64.wrap (q.1*p.c),0,q.2⟩]) (fun _=>Nat.le_refl _) (zbh p)
 omega
section
theorem zdm:∀ (l:List Ev) (s:RS),s.active=false→zav s (zek l)=zav s l∧(zav s l).active=false
 | [],s,h=>⟨rfl,h⟩
 | e::l,s,h=>by
  have hs:(appR s e).active=false:=by cases e<;>simp [appR,h]
  have ih:=zdm l (appR s e) hs
  refine⟨?_,ih.2⟩
  have h2:zek (e::l)=if e.count then zek l else e::zek l:=by
   unfold zek
   cases hc:e.count<;>simp [List.filter_cons,hc]
  rw [h2]
  show _=zav (appR s e) l
  cases e<;>simp only [Ev.count,if_true,Bool.false_eq_true,if_false]
  ·exact ih.1
  ·exact ih.1
  ·have e1:appR s .data=s:=by simp [appR,h]
   rw [e1] at ih ⊢;exact ih.1
  ·have e1:appR s .packed=s:=by simp [appR,h]
   rw [e1] at ih ⊢;exact ih.1
  ·have e1:appR s .zero=s:=by simp [appR,h]
   rw [e1] at ih ⊢;exact ih.1
theorem zf5 {U:List UInt8→Int→Bool} {p:WP} (hp:p.Ok) (hlb:p.bs.length≤20000) (a long st:Int):(zby U p a long st).length≤90000000:=by
 have hnb:=n_bd hp
 have h1:=zb6 hp a (8*long) st 0
 unfold zby
 split
 ·simp
 ·rw [List.length_append]
  split
  ·rename_i hw
   have hle:=zaF hp hw
   have h2:=zig (f:=fun i=>tL1 U p (a+8*(i:Nat))) (M:=24577) long.toNat (fun k=>zq1 hp _)
   omega
  ·simp;omega
theorem zrW {p:WP} {a l:Int} (h:0≤a∧0≤l∧a+l≤p.bs.length):(liB p a l).length=l.toNat:=by
 unfold liB
 rw [List.length_take,List.length_drop]
 omega
theorem zwB (A:Option Addr) (c m:Nat) (bs:List UInt8) (bits n:Int) (w:World) (hm:bs.length=m) (hb:BytsIn w A bs) (hl:m≤20000000) (hc:m≤c) (hbits:9≤bits∧bits≤16) (hn:0≤n∧n≤64) :
  Ctr Tryz.prog 116 [.int .i64 bits,.slice A m c,.int .i64 n] [] (zvW (zaU bits bs n)) w:=by
 subst hm
 exact zrm A c bs bits n w hb hl hc hbits hn
theorem zwC (A:Option Addr) (c m:Nat) (bs:List UInt8) (bits n:Int) (w:World) (hm:bs.length=m) (hb:BytsIn w A bs) (hl:m≤20000000) (hc:m≤c) (hbits:9≤bits∧bits≤16) (hn:0≤n∧n≤64) :
  Ctr Tryz.prog 118 [.int .i64 bits,.slice A m c,.int .i64 n] [] (zvX (za6 bits bs n)) w:=by
 subst hm
 exact zrn A c bs bits n w hb hl hc hbits hn
theorem zeR {cx:Cx} (ht:TabOk cx.P cx.tab) {m:Mem} {A:Option Addr} {cap n t' t:Nat} {ti:TyI} {α:Type} {f:α→List Value} {k:Nat} {L:List α} (hh:Has m (.row A cap n t' k (L.flatMap f))) (hf:∀ x,(f x).length=k) (hi:cx.tab.get t=some ti) (hk:ti.kind.flat=true) {i j:Nat} {x:α} {v:Value} (hx:L[i]?=some x) (hj:(f x)[j]?=some v) :
  Ld cx m t (.pointer (pl (pl A (mulC i k)) j)) v:=by
 intro w hm
 obtain ⟨b,rfl,hc⟩:=zaQ (hm.ok _ hh.mem) (zem hf hx hj)
 refine zeF (ht _ _ hi) hk ?_
 show w.cell? ⟨b,0+mulC i k+j,none⟩=some v
 rw [zcp,Nat.zero_add]
 simpa using hc
attribute [local irreducible] Br Rn RnU Cl RdG CpG Ld Rd Lp Dr Oth Cut fin Fits Eng.Enters Md NA
theorem zmX:Eng.Enters Tryz.prog 70:=zab fun _ _=>by kernel_rfl
set_option maxHeartbeats 4000000 in
theorem zul (U:List UInt8→Int→Bool) (hU:zc5 U) (p:WP) (s:RS) (g:RG) (w:World) (hp:p.Ok) (hh:HL p.h) (hsl:0<p.h.snaps→1≤p.h.snapsLen) (hbl:0<p.h.bitmaps→1≤p.h.bitmapsLen) (hlb:p.bs.length≤20000) (hcap:p.bs.length≤p.cap) (hbits:9≤p.h.bits∧p.h.bits≤16) (hcb:p.c=clus p.h.bits) (hl:s.len≤500000000) (hact:s.active=false) (hb:BInR p s g w) (hm:MemOk w (Foot (rM p s g)) (rM p s g) w) :
  Ctr Tryz.prog 70 [.pointer (some ⟨p.wB,0,none⟩)] (rM p s g) (RwR p (.tuple #[]) (zav s (zbA U zaU p++zdQ za6 p))) w:=by
 refine enter (cx:=⟨Tryz.prog,194,w,Foot (rM p s g),tab,[],[],[0],[]⟩) [(0,.pointer (some ⟨p.wB,0,none⟩))] zaa Tryz.func70 rfl rfl rfl rfl hm ?_
 have hc0:=hp.c0
 have hc1:=hp.c1
 have hlen:=hp.len
 have hnb:=n_bd hp
 obtain ⟨hsn,hsa,hsl2,hbn,hba,hbl2⟩:=hh
 rw [zbj]
 have hPl:0<p.bs.length→Pl p.A:=fun h=>by
  obtain ⟨b,o,h,_⟩:=hb.now (by rw [zaf];omega)
  exact⟨b,o,h⟩
 conv=>whnf
 refine cut (γ:=RG) [] [] zaa (fun _=>(zav s (zbA U zaU p)).len≤7000000000) (fun _=>[(0,.pointer (some ⟨p.wB,0,none⟩))]) (fun q=>rM p (zav s (zbA U zaU p)) q) ?_ ?_
 ·skip
  obtain ⟨X,hX⟩:∃ X,zav s (zbA U zaU p)=X:=⟨_,rfl⟩
  rw [hX]
  unfold zbA at hX
  by_cases h0:p.h.snaps=0
  ·rw [if_pos h0] at hX
   subst hX
   conv=>whnf
   refine zao zaa mixed (by kernel_rfl) rfl ?_;conv=>whnf
   refine gG0 ?_
   refine br_f (decide_eq_false (by omega)) ?_
   refine gGw ?_
   refine br_f rfl ?_
   conv=>whnf
   exact⟨g,by show s.len≤7000000000;omega,⟨rfl,trivial⟩,SubM.sl⟩
  rw [if_neg h0] at hX
  conv=>whnf
  refine zcb (γ:=RG) (Tr.hs [0,1,2,3] (.sq [4] (.hs [5,6,7,8,9,10,11,13,14,15,16] (.alts 12 (.sq [17,18] (.hs [19] .done)) (.alts 17 (.sq [12,18] (.hs [19] .done)) .stop))))) [] zaa mixed (by kernel_rfl) rfl (fun _=>True)
   (fun _=>[(27,.bool (zau p p.h.snapsAt p.h.snapsLen)),(0,.pointer (some ⟨p.wB,0,none⟩))]) (fun g1=>rM p (zav s (tRun p p.h.snapsAt p.h.snapsLen 56 0)) g1) SubM.sl ?_ ?_
  ·refine gGt ?_
   rw [decide_eq_true (show 0<p.h.snaps by omega)]
   refine gGt ?_
   refine⟨?_,?_⟩
   ·skip
    refine gGt ?_
    refine⟨zaT,zac (m1:=rM p s g) (by repeat constructor) (fun w' hm'=>zbw p s g p.h.snapsAt p.h.snapsLen 0 56 w' hp (by omega) (by omega) hcb (by omega) (by omega) (by omega) (by omega) hm'.part) ?_⟩
    rintro e' m' ⟨rfl,g4,rfl⟩
    conv=>whnf
    refine gGs ?_
    refine gGt ?_
    exact⟨g4,trivial,⟨rfl,rfl,trivial⟩,SubM.sl⟩
   ·refine⟨?_,trivial⟩
    refine gGt ?_
    refine⟨zaT,zac (m1:=rM p s g) (by repeat constructor) (fun w' hm'=>zbw p s g p.h.snapsAt p.h.snapsLen 0 56 w' hp (by omega) (by omega) hcb (by omega) (by omega) (by omega) (by omega) hm'.part) ?_⟩
    rintro e' m' ⟨rfl,g4,rfl⟩
    conv=>whnf
    refine gGs ?_
    refine gGt ?_
    exact⟨g4,trivial,⟨rfl,rfl,trivial⟩,SubM.sl⟩
  ·intro g1 _
   have hq1:=(zdm (tRun p p.h.snapsAt p.h.snapsLen 56 0) s hact).2
   have hn1:=zaW (tRun p p.h.snapsAt p.h.snapsLen 56 0) s
   have ht1:=zb6 hp p.h.snapsAt p.h.snapsLen 56 0
   rw [zbj] at hX
   generalize zav s (tRun p p.h.snapsAt p.h.snapsLen 56 0)=s1 at hq1 hn1 hX ⊢
   conv=>whnf
   refine br (fun hw=>?_) (fun hw=>?_)
   rotate_left
   ·rw [hw,if_neg (by decide)] at hX
    conv=>whnf
    exact⟨g1,by rw [← hX];show s1.len≤7000000000;omega,⟨rfl,trivial⟩,by rw [← hX];exact SubM.sl⟩
   rw [if_pos hw] at hX
   have hle:=zaF hp hw
   have hpl:=hPl (by omega)
   have hbl3:(liB p p.h.snapsAt p.h.snapsLen).length=(p.h.snapsAt+p.h.snapsLen).toNat-p.h.snapsAt.toNat:=by rw [zrW (by omega)];omega
   conv=>whnf
   refine zcb (γ:=Option (List Snp) × Option Addr × Nat) (Tr.hs [0,1,2,3,4,5,6,7,8,9,10,11,12,13,14,15,16,17,18,19,20,21,22,23,24,25,26,27,28,29,30] (.sq [31] (.hs [32,33,34,35,36] .done))) (rM p s1 g1) zaa mixed (by kernel_rfl) rfl (fun q=>zaU p.h.bits (liB p p.h.snapsAt p.h.snapsLen) p.h.snaps=q.1)
    (fun q=>[(3,.bool q.1.isSome),(2,.slice q.2.1 (q.1.getD []).length q.2.2),(0,.pointer (some ⟨p.wB,0,none⟩))]) (fun q=>.row q.2.1 q.2.2 (q.1.getD []).length 175 4 ((q.1.getD []).flatMap Snp.cells)::rM p s1 g1) SubM.sl ?_ ?_
   ·refine gGw ?_
    refine And.intro ⟨by omega,by omega,by omega,.inr hpl⟩ ?_
    refine gGw ?_
    refine⟨zlQ,zac (m1:=[]) .nil (fun w' hm'=>zwB _ _ _ (liB p p.h.snapsAt p.h.snapsLen) p.h.bits p.h.snaps w' hbl3 (BytsIn.sub (hb w' hm'.fr) p.cap p.h.snapsAt.toNat p.h.snapsLen.toNat (by omega) hcap) (by omega) (by omega) hbits (by omega)) ?_⟩
    rintro e' m' (⟨hR,rfl,rfl⟩|⟨l,lA,lc,hR,rfl,rfl⟩)
    ·conv=>whnf
     refine gGs ?_
     refine gGw ?_
     exact⟨(none,none,0),hR,⟨rfl,rfl,rfl,trivial⟩,SubM.row0 SubM.sl _ _⟩
    ·conv=>whnf
     refine gGs ?_
     refine gGw ?_
     exact⟨(some l,lA,lc),hR,⟨rfl,rfl,rfl,trivial⟩,SubM.sl⟩
   ·rintro ⟨V,lA,lc⟩ hV
    simp only at hV
    rw [hV] at hX
    cases V with
    | none =>
     simp only at hX
     refine gGw ?_
     refine br_n (br_f rfl ?_)
     refine gGw ?_
     refine⟨zcw,zac (m1:=rM p s1 g1) (by repeat constructor) (fun w' hm'=>ze8 p s1 g1 3 p.h.snapsAt w' (by omega) hm'.part) ?_⟩
     rintro e' m' ⟨rfl,g4,rfl⟩
     refine gGw ?_
     have hX2:appR s1 (.find ⟨3,p.h.snapsAt,0,0⟩)=X:=hX
     have hn2:=zhM s1 (.find ⟨3,p.h.snapsAt,0,0⟩)
     rw [hX2] at hn2 ⊢
     refine lp zaa (γ:=Unit) (fun _=>True) (fun _=>[(4,.int .i64 0),(3,.bool false),(2,.slice lA 0 lc),(0,.pointer (some ⟨p.wB,0,none⟩))]) (fun _=>rM p X g4) (fun _=>0) () trivial ⟨rfl,rfl,rfl,rfl,trivial⟩ SubM.sl ?_
     rintro ⟨⟩ _
     dsimp only
     refine gGw ?_
     refine br_f rfl ?_
     conv=>whnf
     exact⟨g4,by omega,⟨rfl,trivial⟩,SubM.sl⟩
    | some l =>
     simp only at hX
     obtain ⟨hlok,hl64⟩:=(zrc _ p.cap (liB p p.h.snapsAt p.h.snapsLen) p.h.bits p.h.snaps w (BytsIn.sub hb.now p.cap p.h.snapsAt.toNat p.h.snapsLen.toNat (by omega) hcap) (by omega) (by omega) hbits (by omega)).1 l hV
     refine gGw ?_
     refine br_n (br_t rfl ?_)
     refine gGw ?_
     rw [(zdm _ s1 hq1).1] at hX
     refine lp_w zaa (γ:=Nat × RG) (fun q=>q.1≤l.length) (fun q=>[(4,.int .i64 (q.1:Int)),(3,.bool true),(2,.slice lA l.length lc),(0,.pointer (some ⟨p.wB,0,none⟩))])
      (fun q=>.row lA lc l.length 175 4 (l.flatMap Snp.cells)::rM p (zav s1 ((l.take q.1).flatMap fun x=>zby U p x.l1 x.l1len p.h.snapsAt)) q.2) (fun q=>l.length-q.1) (0,g1) (Nat.zero_le _) ⟨rfl,rfl,rfl,rfl,trivial⟩ SubM.sl ?_
     rintro ⟨i,g3⟩ hi ⟨w9,hw9⟩
     simp only at hi hw9
     have hn2:=zaW ((l.take i).flatMap fun x=>zby U p x.l1 x.l1len p.h.snapsAt) s1
     have hn3:=zmo (f:=fun x:Snp=>zby U p x.l1 x.l1len p.h.snapsAt) (n:=90000000) (fun x=>zf5 hp hlb _ _ _) (l.take i)
     rw [List.length_take] at hn3
     obtain ⟨S,hS⟩:∃ S,S=zav s1 ((l.take i).flatMap fun x=>zby U p x.l1 x.l1len p.h.snapsAt):=⟨_,rfl⟩
     have hSl:S.len≤6900000000:=by
      rw [hS]
      have:min i l.length*90000000≤64*90000000:=Nat.mul_le_mul_right _ (by omega)
      omega
     dsimp only
     rw [← hS] at hw9 ⊢
     refine gGw ?_
     refine br_d (fun hlt=>?_) (fun hge=>?_)
     ·have hlt':i<l.length:=by omega
      have hx:=List.getElem?_eq_getElem hlt'
      have hxo:=hlok _ (List.getElem_mem hlt')
      have et:zav s1 ((l.take (i+1)).flatMap fun x=>zby U p x.l1 x.l1len p.h.snapsAt)=zav S (zby U p l[i].l1 l[i].l1len p.h.snapsAt):=by
       rw [List.take_add_one,hx,List.flatMap_append,zbj,hS];simp
      generalize l[i]=x at hx hxo et
      have hx1:=hxo.l1
      have hx2:=hxo.ln
      obtain ⟨b9,rfl,_⟩:=zaQ (hw9.ok (.row lA lc l.length 175 4 (l.flatMap Snp.cells)) (List.mem_cons_self ..)) (zem (f:=Snp.cells) (n:=4) (fun _=>rfl) hx (j:=0) rfl)
      conv=>whnf
      refine zcD 16 zaa mixed (by kernel_rfl) rfl rfl ?_
      refine gGw ?_
      refine And.intro ⟨by omega,by omega,Pl.mk _ _⟩ ?_
      refine gGw ?_
      refine⟨.int .i64 x.l1,Ld.g (zeR (f:=Snp.cells) (k:=4) zaa (by repeat constructor) (fun _=>rfl) rfl rfl hx (j:=1) rfl),?_⟩
      refine gGw ?_
      refine And.intro ⟨by omega,by omega,Pl.mk _ _⟩ ?_
      refine gGw ?_
      refine⟨.int .i64 x.l1len,Ld.g (zeR (f:=Snp.cells) (k:=4) zaa (by repeat constructor) (fun _=>rfl) rfl rfl hx (j:=2) rfl),?_⟩
      refine gGw ?_
      refine⟨zh6,zac (m1:=rM p S g3) (by repeat constructor) (fun w' hm'=>zoa U hU p S g3 x.l1 x.l1len p.h.snapsAt w' hp hlb hcap hbits hcb (by omega) (by omega) (by omega) (stb hm' (fun w3 h3=>hb w3 h3.fr)) hm'.part) ?_⟩
      rintro e' m' ⟨rfl,g5,rfl⟩
      refine gGw ?_
      refine⟨(i+1,g5),by show i+1≤l.length;omega,by show l.length-(i+1)<l.length-i;omega,⟨congrArg (fun x=>some (Value.int .i64 x)) (by push_cast;rfl),rfl,rfl,rfl,trivial⟩,?_⟩
      show SubM _ _ (_::rM p (zav s1 ((l.take (i+1)).flatMap fun x=>zby U p x.l1 x.l1len p.h.snapsAt)) _)
      rw [et]
      exact SubM.sl
     ·have ei:l.take i=l:=List.take_of_length_le (by omega)
      rw [ei] at hS
      conv=>whnf
      exact⟨g3,by rw [← hX,← hS];omega,⟨rfl,trivial⟩,by rw [← hX,← hS];exact SubM.sl⟩
 ·intro g8 hl8
  have hq8:=(zdm (zbA U zaU p) s hact).2
  generalize zav s (zbA U zaU p)=s8 at hl8 hq8 ⊢
  obtain ⟨X,hX⟩:∃ X,zav s8 (zdQ za6 p)=X:=⟨_,rfl⟩
  rw [hX]
  unfold zdQ at hX
  by_cases h0:p.h.bitmaps=0
  ·rw [if_pos h0] at hX
   subst hX
   conv=>whnf
   refine zao zaa mixed (by kernel_rfl) rfl ?_;conv=>whnf
   refine gG0 ?_
   refine br_f (decide_eq_false (by omega)) ?_
   refine gGw ?_
   refine br_f rfl ?_
   conv=>whnf
   exact fin0 rfl (fun w' hm=>⟨rM p s8 g8,⟨rfl,g8,rfl⟩,hm⟩) (by first|exact .inl rfl|exact .inr rfl)
  rw [if_neg h0] at hX
  conv=>whnf
  refine zcb (γ:=RG) (Tr.hs [0,1,2,3] (.sq [4] (.hs [5,6,7,8,9,10,11,13,14,15,16] (.alts 12 (.sq [17,18] (.hs [19] .done)) (.alts 17 (.sq [12,18] (.hs [19] .done)) .stop))))) [] zaa mixed (by kernel_rfl) rfl (fun _=>True)
   (fun _=>[(117,.bool (zau p p.h.bitmapsAt p.h.bitmapsLen)),(0,.pointer (some ⟨p.wB,0,none⟩))]) (fun g1=>rM p (zav s8 (tRun p p.h.bitmapsAt p.h.bitmapsLen 72 0)) g1) SubM.sl ?_ ?_
  ·refine gGt ?_
   rw [decide_eq_true (show 0<p.h.bitmaps by omega)]
   refine gGt ?_
   refine⟨?_,?_⟩
   ·skip
    refine gGt ?_
    refine⟨zaT,zac (m1:=rM p s8 g8) (by repeat constructor) (fun w' hm'=>zbw p s8 g8 p.h.bitmapsAt p.h.bitmapsLen 0 72 w' hp (by omega) (by omega) hcb (by omega) (by omega) (by omega) (by omega) hm'.part) ?_⟩
    rintro e' m' ⟨rfl,g4,rfl⟩
    conv=>whnf
    refine gGs ?_
    refine gGt ?_
    exact⟨g4,trivial,⟨rfl,rfl,trivial⟩,SubM.sl⟩
   ·refine⟨?_,trivial⟩
    refine gGt ?_
    refine⟨zaT,zac (m1:=rM p s8 g8) (by repeat constructor) (fun w' hm'=>zbw p s8 g8 p.h.bitmapsAt p.h.bitmapsLen 0 72 w' hp (by omega) (by omega) hcb (by omega) (by omega) (by omega) (by omega) hm'.part) ?_⟩
    rintro e' m' ⟨rfl,g4,rfl⟩
    conv=>whnf
    refine gGs ?_
    refine gGt ?_
    exact⟨g4,trivial,⟨rfl,rfl,trivial⟩,SubM.sl⟩
  ·intro g1 _
   have hq1:=(zdm (tRun p p.h.bitmapsAt p.h.bitmapsLen 72 0) s8 hq8).2
   have hn1:=zaW (tRun p p.h.bitmapsAt p.h.bitmapsLen 72 0) s8
   have ht1:=zb6 hp p.h.bitmapsAt p.h.bitmapsLen 72 0
   rw [zbj] at hX
   generalize zav s8 (tRun p p.h.bitmapsAt p.h.bitmapsLen 72 0)=s1 at hq1 hn1 hX ⊢
   conv=>whnf
   refine br (fun hw=>?_) (fun hw=>?_)
   rotate_left
   ·rw [hw,if_neg (by decide)] at hX
    conv=>whnf
    exact fin0 rfl (fun w' hm=>⟨rM p X g1,⟨rfl,g1,rfl⟩,by rw [← hX];exact hm⟩) (by first|exact .inl rfl|exact .inr rfl)
   rw [if_pos hw] at hX
   have hle:=zaF hp hw
   have hpl:=hPl (by omega)
   have hbl3:(liB p p.h.bitmapsAt p.h.bitmapsLen).length=(p.h.bitmapsAt+p.h.bitmapsLen).toNat-p.h.bitmapsAt.toNat:=by rw [zrW (by omega)];omega
   conv=>whnf
   refine zcb (γ:=Option (List Rwp) × Option Addr × Nat) (Tr.hs [0,1,2,3,4,5,6,7,8,9,10,11,12,13,14,15,16,17,18,19,20,21,22,23,24,25,26,27,28,29,30] (.sq [31] (.hs [32,33,34,35,36] .done))) (rM p s1 g1) zaa mixed (by kernel_rfl) rfl (fun q=>za6 p.h.bits (liB p p.h.bitmapsAt p.h.bitmapsLen) p.h.bitmaps=q.1)
    (fun q=>[(6,.bool q.1.isSome),(5,.slice q.2.1 (q.1.getD []).length q.2.2),(0,.pointer (some ⟨p.wB,0,none⟩))]) (fun q=>.row q.2.1 q.2.2 (q.1.getD []).length 180 5 ((q.1.getD []).flatMap Rwp.cells)::rM p s1 g1) SubM.sl ?_ ?_
   ·refine gGw ?_
    refine And.intro ⟨by omega,by omega,by omega,.inr hpl⟩ ?_
    refine gGw ?_
    refine⟨zlR,zac (m1:=[]) .nil (fun w' hm'=>zwC _ _ _ (liB p p.h.bitmapsAt p.h.bitmapsLen) p.h.bits p.h.bitmaps w' hbl3 (BytsIn.sub (hb w' hm'.fr) p.cap p.h.bitmapsAt.toNat p.h.bitmapsLen.toNat (by omega) hcap) (by omega) (by omega) hbits (by omega)) ?_⟩
    rintro e' m' (⟨hR,rfl,rfl⟩|⟨l,lA,lc,hR,rfl,rfl⟩)
    ·conv=>whnf
     refine gGs ?_
     refine gGw ?_
     exact⟨(none,none,0),hR,⟨rfl,rfl,rfl,trivial⟩,SubM.row0 SubM.sl _ _⟩
    ·conv=>whnf
     refine gGs ?_
     refine gGw ?_
     exact⟨(some l,lA,lc),hR,⟨rfl,rfl,rfl,trivial⟩,SubM.sl⟩
   ·rintro ⟨V,lA,lc⟩ hV
    simp only at hV
    rw [hV] at hX
    cases V with
    | none =>
     simp only at hX
     refine gGw ?_
     refine br_n (br_f rfl ?_)
     refine gGw ?_
     refine⟨zcw,zac (m1:=rM p s1 g1) (by repeat constructor) (fun w' hm'=>ze8 p s1 g1 3 p.h.bitmapsAt w' (by omega) hm'.part) ?_⟩
     rintro e' m' ⟨rfl,g4,rfl⟩
     refine gGw ?_
     have hX2:appR s1 (.find ⟨3,p.h.bitmapsAt,0,0⟩)=X:=hX
     have hn2:=zhM s1 (.find ⟨3,p.h.bitmapsAt,0,0⟩)
     rw [hX2] at hn2 ⊢
     refine lp zaa (γ:=Unit) (fun _=>True) (fun _=>[(7,.int .i64 0),(6,.bool false),(5,.slice lA 0 lc),(0,.pointer (some ⟨p.wB,0,none⟩))]) (fun _=>rM p X g4) (fun _=>0) () trivial ⟨rfl,rfl,rfl,rfl,trivial⟩ SubM.sl ?_
     rintro ⟨⟩ _
     refine gGw ?_
     refine br_f rfl ?_
     conv=>whnf
     exact fin0 rfl (fun w' hm=>⟨rM p X g4,⟨rfl,g4,rfl⟩,hm⟩) (by first|exact .inl rfl|exact .inr rfl)
    | some l =>
     simp only at hX
     obtain ⟨hlok,hl64⟩:=(zvC _ p.cap (liB p p.h.bitmapsAt p.h.bitmapsLen) p.h.bits p.h.bitmaps w (BytsIn.sub hb.now p.cap p.h.bitmapsAt.toNat p.h.bitmapsLen.toNat (by omega) hcap) (by omega) (by omega) hbits (by omega)).1 l hV
     refine gGw ?_
     refine br_n (br_t rfl ?_)
     refine gGw ?_
     refine lp_w zaa (γ:=Nat × RG) (fun q=>q.1≤l.length) (fun q=>[(7,.int .i64 (q.1:Int)),(6,.bool true),(5,.slice lA l.length lc),(0,.pointer (some ⟨p.wB,0,none⟩))])
      (fun q=>.row lA lc l.length 180 5 (l.flatMap Rwp.cells)::rM p (zav s1 ((l.take q.1).flatMap fun x=>if 0<x.len then tRun p x.at_ x.len p.h.bitmapsAt 0 else [])) q.2) (fun q=>l.length-q.1) (0,g1) (Nat.zero_le _) ⟨rfl,rfl,rfl,rfl,trivial⟩ SubM.sl ?_
     rintro ⟨i,g3⟩ hi ⟨w9,hw9⟩
     simp only at hi hw9
     have hn2:=zaW ((l.take i).flatMap fun x=>if 0<x.len then tRun p x.at_ x.len p.h.bitmapsAt 0 else []) s1
     have hn3:=zmo (f:=fun x:Rwp=>if 0<x.len then tRun p x.at_ x.len p.h.bitmapsAt 0 else []) (n:=20000001) (fun x=>by split;exact (by have:=zb6 hp x.at_ x.len p.h.bitmapsAt 0;omega);simp) (l.take i)
     rw [List.length_take] at hn3
     obtain ⟨S,hS⟩:∃ S,S=zav s1 ((l.take i).flatMap fun x=>if 0<x.len then tRun p x.at_ x.len p.h.bitmapsAt 0 else []):=⟨_,rfl⟩
     have hSl:S.len≤9900000000:=by
      rw [hS]
      have:min i l.length*20000001≤64*20000001:=Nat.mul_le_mul_right _ (by omega)
      omega
     dsimp only
     rw [← hS] at hw9 ⊢
     refine gGw ?_
     refine br_d (fun hlt=>?_) (fun hge=>?_)
     ·have hlt':i<l.length:=by omega
      have hx:=List.getElem?_eq_getElem hlt'
      have hxo:=hlok _ (List.getElem_mem hlt')
      have et:zav s1 ((l.take (i+1)).flatMap fun x=>if 0<x.len then tRun p x.at_ x.len p.h.bitmapsAt 0 else [])=zav S (if 0<l[i].len then tRun p l[i].at_ l[i].len p.h.bitmapsAt 0 else []):=by
       rw [List.take_add_one,hx,List.flatMap_append,zbj,hS];simp
      generalize l[i]=x at hx hxo et
      have hx1:=hxo.at_
      have hx2:=hxo.ln
      obtain ⟨b9,rfl,_⟩:=zaQ (hw9.ok (.row lA lc l.length 180 5 (l.flatMap Rwp.cells)) (List.mem_cons_self ..)) (zem (f:=Rwp.cells) (n:=5) (fun _=>rfl) hx (j:=0) rfl)
      refine gGw ?_
      refine And.intro ⟨by omega,by omega,Pl.mk _ _⟩ ?_
      refine gGw ?_
      refine zai (zeR (f:=Rwp.cells) (k:=5) zaa (by repeat constructor) (fun _=>rfl) rfl rfl hx (j:=4) rfl) ?_
      refine gGw ?_
      refine br_d (fun hpos=>?_) (fun hpos=>?_)
      ·rw [if_pos hpos] at et
       conv=>whnf
       refine zcD 16 zaa mixed (by kernel_rfl) rfl rfl ?_
       refine gGw ?_
       refine And.intro ⟨by omega,by omega,Pl.mk _ _⟩ ?_
       refine gGw ?_
       refine⟨.int .i64 x.at_,Ld.g (zeR (f:=Rwp.cells) (k:=5) zaa (by repeat constructor) (fun _=>rfl) rfl rfl hx (j:=3) rfl),?_⟩
       refine gGw ?_
       refine And.intro ⟨by omega,by omega,Pl.mk _ _⟩ ?_
       refine gGw ?_
       refine⟨.int .i64 x.len,Ld.g (zeR (f:=Rwp.cells) (k:=5) zaa (by repeat constructor) (fun _=>rfl) rfl rfl hx (j:=4) rfl),?_⟩
       refine gGw ?_
       refine⟨zaT,zac (m1:=rM p S g3) (by repeat constructor) (fun w' hm'=>zbw p S g3 x.at_ x.len 0 p.h.bitmapsAt w' hp (by omega) (by omega) hcb (by omega) (by omega) (by omega) (by omega) hm'.part) ?_⟩
       rintro e' m' ⟨rfl,g5,rfl⟩
       refine gGw ?_
       refine⟨(i+1,g5),by show i+1≤l.length;omega,by show l.length-(i+1)<l.length-i;omega,⟨congrArg (fun x=>some (Value.int .i64 x)) (by push_cast;rfl),rfl,rfl,rfl,trivial⟩,?_⟩
       show SubM _ _ (_::rM p (zav s1 ((l.take (i+1)).flatMap fun x=>if 0<x.len then tRun p x.at_ x.len p.h.bitmapsAt 0 else [])) _)
       rw [et]
       exact SubM.sl
      ·rw [if_neg hpos] at et
       change _=S at et
       refine gGw ?_
       refine⟨(i+1,g3),by show i+1≤l.length;omega,by show l.length-(i+1)<l.length-i;omega,⟨congrArg (fun x=>some (Value.int .i64 x)) (by push_cast;rfl),rfl,rfl,rfl,trivial⟩,?_⟩
       show SubM _ _ (_::rM p (zav s1 ((l.take (i+1)).flatMap fun x=>if 0<x.len then tRun p x.at_ x.len p.h.bitmapsAt 0 else [])) _)
       rw [et]
       exact SubM.sl
     ·have ei:l.take i=l:=List.take_of_length_le (by omega)
      rw [ei] at hS
      conv=>whnf
      exact fin0 rfl (fun w' hm=>⟨rM p X g3,⟨rfl,g3,rfl⟩,by rw [← hX,← hS];exact hm.sl⟩) (by first|exact .inl rfl|exact .inr rfl)
end
section
def numR (x:Nat):Int:=if 4611686018427387904<x then -1 else (x:Int)
attribute [local irreducible] Br Rn RnU Cl RdG CpG Ld Rd Lp Dr Oth Cut fin Fits Eng.Enters Md NA
theorem zif (bs:List UInt8) (A:Option Addr) (c at_ n:Nat) (w:World) (hb:BytsIn w A bs) (hl:bs.length≤20000000) (hc:bs.length≤c) (h1:at_+n≤bs.length) (hn:1≤n∧n≤8) :
  Calls Tryz.prog 33 #[.slice A bs.length c,.int .i64 (at_:Int),.int .i64 (n:Int)] w fun e w'=>e=.returned (.int .i64 (numR (getV bs at_ n)))∧Fr (fun _=>False) w w':=by
 have hF:∀ w',Fr (fun _=>False) w w'→BytsIn w' A bs:=fun w' hf=>Byts.in_ (BytsIn.byts (cx:=CX 17 [] w) (m:=[]) hb (fun _ h=>h)) ((MemOk.nil w _).same hf)
 have hpl:Pl A:=(BytsIn.byts (cx:=CX 54 [] w) (m:=[]) hb (fun _ h=>h)).plain (by omega)
 have hsl:((bs.drop at_).take n).length=n:=by rw [List.length_take,List.length_drop];omega
 have hlt:=zgW bs at_ (k:=n) (by omega)
 refine enter (cx:=CX 19 [] w) [(0,.slice A bs.length c),(1,.int .i64 (at_:Int)),(2,.int .i64 (n:Int))] zaa Tryz.func33 rfl rfl rfl rfl (MemOk.nil w _) ?_
 refine gGw ?_
 refine And.intro ⟨by omega,by omega,by omega,.inr hpl⟩ ?_
 refine gGw ?_
 rw [show ((at_:Int)+(n:Int)).toNat-(at_:Int).toNat=((bs.drop at_).take n).length by omega,Int.toNat_natCast]
 refine⟨zef,zae _ (fun w' hm'=>zgL ((bs.drop at_).take n) (cutA A c at_ 1) (c-at_) w' (BytsIn.sub (hF w' hm'.fr) c at_ n (by omega) hc) (by omega)) ?_⟩
 change getV bs at_ n<_ at hlt
 have eg:leV ((bs.drop at_).take n)=getV bs at_ n:=rfl
 rw [eg]
 generalize getV bs at_ n=x at hlt ⊢
 refine gGw ?_
 refine br_d (fun h=>?_) (fun h=>?_)
 ·refine gGw ?_
  exact fin1 rfl rfl (fun w' hm=>⟨by rw [numR,if_pos (by omega)],hm.fr⟩)
 ·refine gGw ?_
  exact fin1 rfl rfl (fun w' hm=>⟨by rw [numR,if_neg (by omega)],hm.fr⟩)
def hdR (bs:List UInt8) (nm:ByteArray):Hd where
 bits:=numR (getV bs 4 4)
 flags:=getV bs 8 8
 size:=numR (getV bs 16 8)
 l1:=numR (getV bs 24 8)
 l1len:=numR (getV bs 32 4)
 order:=numR (getV bs 36 4)
 counts:=numR (getV bs 40 8)
 countsLen:=numR (getV bs 48 4)
 snaps:=numR (getV bs 52 4)
 snapsAt:=numR (getV bs 56 8)
 snapsLen:=numR (getV bs 64 4)
 bitmaps:=numR (getV bs 68 4)
 bitmapsAt:=numR (getV bs 72 8)
 bitmapsLen:=numR (getV bs 80 4)
 backing:=nm
def zml (bs:List UInt8):Option Hd :=
 if bs.length<512 then none
 else if 64<getV bs 84 4 then none
 else if mayH (hdR bs (Str ((bs.drop 88).take (getV bs 84 4))))=true∧za7 (hdR bs (Str ((bs.drop 88).take (getV bs 84 4))))=bs.take 512 then some (hdR bs (Str ((bs.drop 88).take (getV bs 84 4))))
 else none
theorem zum (bs:List UInt8) (A:Option Addr) (c at_ n:Nat) (w:World) (hb:BytsIn w A bs) (hc:bs.length≤c) (h1:at_+n≤bs.length) (hn:n≤8) :
  Calls Tryz.prog 34 #[.slice (cutA A c at_ 1) n (c-at_)] w fun e w'=>e=.returned (.int .u64 (getV bs at_ n:Nat))∧Fr (fun _=>False) w w':=by
 have h:=zgL ((bs.drop at_).take n) (cutA A c at_ 1) (c-at_) w (BytsIn.sub hb c at_ n (by omega) hc) (by rw [List.length_take];omega)
 rw [show ((bs.drop at_).take n).length=n by rw [List.length_take,List.length_drop];omega] at h
 exact h
end
end Go.Proofs.YtlmgelmloddfgaaGreat
namespace Go.Proofs.YtlmgelmloddfgaaGreat.Eng
open Go Go.RowKit
abbrev CS:=Nat × Nat × Value
section flo
variable {cx:Cx} {mC:Mem} {ops:List Oper} {k:Env→Mem→Prop} {kp:List PanicEntry→Mem→Prop}
structure zqB (cx:Cx) (ops:List Oper) (kp:List PanicEntry→Mem→Prop) (Base:Env→Mem→Prop) (c:CS):Prop where
 o:∃ o,nth ops c.1=some o∧o.dst=some c.2.1∧o.guard=none∧∀ e m (K:Value→Mem→Prop),Base e m→K c.2.2 m→XO cx o.dst o.op o.type e m K kp
 st:∀ e m,Base e m→Base ((c.2.1,c.2.2)::e) m
def Got (l:List CS) (e:Env):Prop:=∀ c∈l,e.get c.2.1=some c.2.2
theorem Got.put {l:List CS} {e:Env} (h:Got l e) {d:Nat} {v:Value} (hd:∀ c∈l,c.2.1≠d):Got l ((d,v)::e):=fun c hc=>by
 rw [Env.get_cons,if_neg (fun x=>hd c hc x.symm)];exact h c hc
theorem zo2 {Base:Env→Mem→Prop} {c:CS} (h:zqB cx ops kp Base c) {t more:Tr} {e:Env} {m:Mem} (hB:Base e m) (hC:SubM cx m mC) (h1:XTG cx mC ops k kp t ((c.2.1,c.2.2)::e) m) (h2:XTG cx mC ops k kp more e m) :
  XTG cx mC ops k kp (.alts c.1 t more) e m:=by
 show zdM cx mC ops kp c.1 (XTG cx mC ops k kp t) (XTG cx mC ops k kp more) e m
 obtain ⟨o,ho,hd,hg,hx⟩:=h.o
 unfold zdM
 rw [ho]
 have hgo:gOk ops e o.guard=true:=by rw [hg];rfl
 simp only [hgo]
 refine⟨hx e m _ hB ⟨hC,?_⟩,h2⟩
 rw [hd];exact h1
def trA (last:Tr):List CS→Tr
 | []=>last
 | c::r=>.alts c.1 (trA last r) .stop
def trB (z:Nat) (lastA lastB:Tr):List CS→Tr
 | []=>lastB
 | c::r=>.alts c.1 (trB z lastA lastB r) (.alts z (trA lastA (c::r)) .stop)
theorem zvw {Base:Env→Mem→Prop} {last:Tr} {m:Mem} (hC:SubM cx m mC):∀ (l done:List CS) (e:Env),(∀ c∈l,zqB cx ops kp Base c)→((done++l).map fun c=>c.2.1).Nodup→Base e m→Got done e →
  (∀ e,Base e m→Got (done++l) e→XTG cx mC ops k kp last e m)→XTG cx mC ops k kp (trA last l) e m
 | [],done,e,_,_,hB,hG,hend=>hend e hB (by rw [List.append_nil];exact hG)
 | c::r,done,e,hS,hN,hB,hG,hend=>by
  have hc:=hS c (List.mem_cons_self ..)
  have e1:done++c::r=(done++[c])++r:=by simp
  have hne:∀ x∈done,x.2.1≠c.2.1:=fun x hx he=>by
   rw [List.map_append] at hN
   exact (List.nodup_append.1 hN).2.2 _ (List.mem_map.2 ⟨x,hx,rfl⟩) _ (List.mem_map.2 ⟨c,List.mem_cons_self ..,rfl⟩) he
  refine zo2 hc hB hC ?_ trivial
  refine zvw hC r (done++[c]) _ (fun x hx=>hS x (List.mem_cons_of_mem _ hx)) (e1 ▸ hN) (hc.st e m hB) ?_ (fun e' hB' hG'=>hend e' hB' (e1 ▸ hG'))
  intro x hx
  rcases List.mem_append.1 hx with hx|hx
  ·exact hG.put hne x hx
  ·rw [List.mem_singleton] at hx
   subst hx
   rw [Env.get_cons,if_pos rfl]
theorem zvv {BB:Env→Mem→Prop} {BA:Nat→Env→Mem→Prop} {z d t:Nat} {ti:TyI} {lastA lastB:Tr} {m:Mem} (hC:SubM cx m mC) (hz:∃ o,nth ops z=some o∧o.dst=some d∧o.op=.alloc t∧o.guard=none) (ht:cx.tab.get t=some ti)
  (hBA:∀ b e,BB e m→BA b ((d,.pointer (some ⟨b,0,none⟩))::e) (.blk b (.cells ti.zero.toArray t)::m)):∀ (l done:List CS) (e:Env),(∀ c∈l,zqB cx ops kp BB c)→(∀ b,∀ c∈l,zqB cx ops kp (BA b) c)→((done++l).map fun c=>c.2.1).Nodup→(∀ c∈done++l,c.2.1≠d)→BB e m→Got done e →
  (∀ e,BB e m→Got (done++l) e→XTG cx mC ops k kp lastB e m)→(∀ b e,BA b e (.blk b (.cells ti.zero.toArray t)::m)→Got (done++l) e→XTG cx mC ops k kp lastA e (.blk b (.cells ti.zero.toArray t)::m)) →
  XTG cx mC ops k kp (trB z lastA lastB l) e m
 | [],done,e,_,_,_,_,hB,hG,hend,_=>hend e hB (by rw [List.append_nil];exact hG)
 | c::r,done,e,hS,hSA,hN,hD,hB,hG,hend,hendA=>by
  have hc:=hS c (List.mem_cons_self ..)
  have e1:done++c::r=(done++[c])++r:=by simp
  have hne:∀ x∈done,x.2.1≠c.2.1:=fun x hx he=>by
   rw [List.map_append] at hN
   exact (List.nodup_append.1 hN).2.2 _ (List.mem_map.2 ⟨x,hx,rfl⟩) _ (List.mem_map.2 ⟨c,List.mem_cons_self ..,rfl⟩) he
  refine zo2 hc hB hC ?_ ?_
  ·refine zvv hC hz ht hBA r (done++[c]) _ (fun x hx=>hS x (List.mem_cons_of_mem _ hx)) (fun b x hx=>hSA b x (List.mem_cons_of_mem _ hx)) (e1 ▸ hN) (e1 ▸ hD) (hc.st e m hB) ?_ (fun e' hB' hG'=>hend e' hB' (e1 ▸ hG')) (fun b e' hB' hG'=>hendA b e' hB' (e1 ▸ hG'))
   intro x hx
   rcases List.mem_append.1 hx with hx|hx
   ·exact hG.put hne x hx
   ·rw [List.mem_singleton] at hx
    subst hx
    rw [Env.get_cons,if_pos rfl]
  ·show zdM cx mC ops kp z (XTG cx mC ops k kp (trA lastA (c::r))) (XTG cx mC ops k kp .stop) e m
   obtain ⟨o,ho,hd,hop,hg⟩:=hz
   unfold zdM
   rw [ho]
   have hgo:gOk ops e o.guard=true:=by rw [hg];rfl
   simp only [hgo]
   refine⟨?_,trivial⟩
   rw [hop]
   unfold XO
   simp only [ht]
   intro b
   refine⟨fun w hw=>hC w hw.tail,?_⟩
   rw [hd]
   exact zvw (fun w hw=>hC w hw.tail) (c::r) done _ (hSA b) hN (hBA b e hB) (hG.put fun x hx=>hD x (List.mem_append_left _ hx)) (fun e' hB' hG'=>hendA b e' hB' hG')
end flo
end Go.Proofs.YtlmgelmloddfgaaGreat.Eng
