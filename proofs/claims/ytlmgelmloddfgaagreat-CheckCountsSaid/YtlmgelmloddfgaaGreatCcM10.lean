/- Part of a proof: contracts of the functions that the law reaches. No statement of the seat is proved here. -/
import Derived.Test.YtlmgelmloddfgaaGreatCcM9
import Derived.Laws.IdiomStrings
set_option linter.unusedVariables false
set_option linter.unusedSimpArgs false
set_option linter.unusedSectionVars false
set_option maxRecDepth 100000
namespace Go.Proofs.YtlmgelmloddfgaaGreat
open Go Go.RowKit Eng
section
attribute [local irreducible] Br Rn RnU Cl RdG CpG Ld Rd Lp Dr Oth Cut fin Fits Eng.Enters Md NA
theorem zah:Eng.Enters Tryz.prog 208:=zab fun _ _=>by kernel_rfl
theorem zbd:Eng.Enters Tryz.prog 207:=zab fun _ _=>by kernel_rfl
theorem zan (x:Int) (n:Nat) (w:World) (hx:0≤x∧x<9223372036854775808) (hn:1≤n∧n≤8) (hf:x.toNat<256 ^ n) :
  Ctr Tryz.prog 208 [.int .i64 x,.int .i64 (n:Int)] [] (fun e m'=>∃ A c,e=.returned (.slice A n c)∧m'=[BR8 A c n (leB x.toNat n)]) w:=by
 refine enter (cx:=CXS 14 [] w (Foot [])) [(0,.int .i64 x),(1,.int .i64 (n:Int))] zaa Tryz.func208 rfl rfl rfl rfl (MemOk.nil w _) ?_
 obtain ⟨y,rfl⟩:∃ y:Nat,x=(y:Int):=⟨x.toNat,(Int.toNat_of_nonneg hx.1).symm⟩
 rw [Int.toNat_natCast] at hf ⊢
 refine gGw ?_
 refine zc2 zaa rfl rfl rfl rfl rfl (by omega) (by rw [Int.toNat_natCast];show 1*_≤_;omega) (by omega) (fun rB=>?_)
 rw [Int.toNat_natCast,zgA]
 refine gGw ?_
 refine⟨zfI,zac (m1:=[BR8 (some ⟨rB,0,none⟩) n n (List.replicate n 0)]) (by repeat constructor) (fun w' hm'=>zvr (bs:=List.replicate n 0) (a:=0) (n:=n) (l:=n) (List.length_replicate ..) (some ⟨rB,0,none⟩) n y w' (by omega) hn (by omega) hf hm'.part) ?_⟩
 rintro e m' ⟨rfl,rfl⟩
 have hset:setB (List.replicate n 0) 0 (leB y n)=leB y n:=by
  have:=ze7 [] (List.replicate n 0) (leB y n)
  rw [List.nil_append,List.nil_append,zad,List.drop_replicate,Nat.sub_self,List.replicate_zero,List.append_nil] at this
  exact this
 rw [hset]
 refine gGw ?_
 exact fin1 rfl rfl (fun w' hm=>⟨_,⟨_,_,rfl,rfl⟩,hm.sl⟩)
structure Prt where
 A:Option Addr
 c:Nat
 bs:List UInt8
def Prt.val (p:Prt):Value:=.slice p.A p.bs.length p.c
def prtB (L:List Prt):List UInt8:=L.flatMap Prt.bs
theorem zm9 {L:List Prt} (h:∀ p∈L,p.bs.length≤1000000):(prtB L).length≤L.length*1000000:=by
 unfold prtB
 induction L with
 | nil=>simp
 | cons p t ih =>
  have h1:=h p (List.mem_cons_self ..)
  have h2:=ih (fun q hq=>h q (List.mem_cons_of_mem _ hq))
  rw [List.flatMap_cons,List.length_append,List.length_cons,Nat.succ_mul];omega
theorem zcq (L:List Prt) (fB c:Nat) (w:World) (hL:L.length≤100) (hb:∀ p∈L,p.bs.length≤1000000) (hc:∀ i p,L[i]?=some p→w.cell? ⟨fB,i,none⟩=some p.val) (hp:∀ p∈L,BytsIn w p.A p.bs) :
  Ctr Tryz.prog 207 [.slice (some ⟨fB,0,none⟩) L.length c] [] (fun e m'=>∃ A d,e=.returned (.slice A (prtB L).length d)∧m'=[BR8 A d (prtB L).length (prtB L)]) w:=by
 have hF:∀ p∈L,∀ w',Fr (Foot []) w w'→BytsIn w' p.A p.bs:=fun p hp0 w' hf=>Byts.in_ (BytsIn.byts (cx:=CX 17 [] w) (m:=[]) (hp p hp0) (fun _ h=>h)) ((MemOk.nil w _).same (hf.mono (fun k _ ⟨r,hr,_⟩=>by cases hr)))
 refine enter (cx:=CXS 17 [] w (Foot [])) [(0,.slice (some ⟨fB,0,none⟩) L.length c)] zaa Tryz.func207 rfl rfl rfl rfl (MemOk.nil w _) ?_
 refine gGw ?_
 refine lp zaa (γ:=Nat × Option Addr × Nat) (fun g=>g.1≤L.length) (fun g=>[(8,.int .i64 (g.1:Int)),(7,.int .i64 (L.length:Int)),(6,.slice (some ⟨fB,0,none⟩) L.length c),(3,.slice g.2.1 (prtB (L.take g.1)).length g.2.2)]) (fun g=>[BR8 g.2.1 g.2.2 (prtB (L.take g.1)).length (prtB (L.take g.1))]) (fun g=>L.length-g.1) (0,none,0) (by simp) ⟨rfl,rfl,rfl,rfl,trivial⟩ (SubM.row0 (SubM.refl _ _) _ _) ?_
 rintro ⟨i,gA,gc⟩ hi
 simp only at hi
 dsimp only
 conv=>whnf
 refine br_d (fun hlt=>?_) (fun hge=>?_)
 ·have hi':i<L.length:=by omega
  have hpi:=List.getElem?_eq_getElem hi'
  have hmem:L[i]∈L:=List.getElem_mem hi'
  have hlen:=zm9 (L:=L.take i) (fun p hq=>hb p (List.mem_of_mem_take hq))
  have hbi:=hb _ hmem
  have hti:(L.take i).length≤100:=by rw [List.length_take];omega
  have eS:prtB (L.take (i+1))=prtB (L.take i)++L[i].bs:=by
   unfold prtB;rw [List.take_succ_eq_append_getElem hi',List.flatMap_append];simp
  generalize hq:L[i]=q at hpi hmem hbi eS
  generalize prtB (L.take i)=acc at hlen eS ⊢
  have hmul:(L.take i).length*1000000≤100*1000000:=Nat.mul_le_mul_right _ hti
  refine gGw ?_
  refine And.intro ⟨by omega,by omega,Pl.mk _ _⟩ ?_
  conv=>whnf
  have hpl:pl (some ⟨fB,0,none⟩) (mulC (Int.toNat (i:Int)) ty22.cells)=some ⟨fB,i,none⟩:=by
   rw [zcp,Int.toNat_natCast,show ty22.cells=1 from rfl,Nat.mul_one]
   show some (Addr.mk fB (0+i) none)=_
   rw [Nat.zero_add]
  rw [hpl]
  refine zai (ldF zaa (hc i q hpi) (zam _) rfl rfl) ?_
  unfold Prt.val
  conv=>whnf
  refine zeh (k:=.u8) (ys:=zag q.bs) (zaf _) zaa rfl rfl rfl rfl rfl rfl .here (fun w' hm'=>hF q hmem w' hm'.fr) (by omega) (fun A1 c1=>?_)
  refine gGw ?_
  have el:(acc++q.bs).length=acc.length+q.bs.length:=List.length_append
  have en:(zag (acc++q.bs)).map (Value.int .u8)=(zag acc).map (.int .u8)++(zag q.bs).map (.int .u8):=by unfold zag;simp
  refine⟨(i+1,A1,c1),by simp only;omega,by simp only;omega,⟨rfl,rfl,rfl,?_,trivial⟩,?_⟩
  ·show some _=some _
   simp only [eS,el]
  ·show SubM _ _ [.row A1 c1 (prtB (L.take (i+1))).length 5 1 ((zag (prtB (L.take (i+1)))).map (.int .u8))]
   rw [eS,el,en]
   exact SubM.sl
 ·obtain rfl:i=L.length:=by omega
  rw [List.take_length]
  refine gGw ?_
  exact fin1 rfl rfl (fun w' hm=>⟨_,⟨_,_,rfl,rfl⟩,hm⟩)
end
section
def zs2 (o:Obj) (s:ByteArray):Prop:=∃ cells e fr,o=.cells cells e fr∧∀ i,i<s.size→cells[i]?=some (.int .u8 ((s.data.toList.getD i 0).toNat:Int))
theorem zmx {w:World} {b:Nat} {cs:Array Value} {e:TypeId} {fr:Nat × Nat} (h:w.heap[b]?=some (.cells cs e fr)) (i:Nat):w.cell? ⟨b,i,none⟩=cs[i]?:=by
 simpa using cell_of_row w b i cs e fr h
theorem zbI {w:World} {b:Nat} {o:Obj} {s:ByteArray} (hb:w.heap[b]?=some o) (h:zs2 o s):BytsIn w (some ⟨b,0,none⟩) s.data.toList:=by
 obtain ⟨cells,e,fr,rfl,hc⟩:=h
 intro _
 refine⟨b,0,rfl,fun i hi=>?_⟩
 rw [zaf] at hi
 rw [Nat.zero_add,zmx hb,hc i hi,zfT]
theorem zdb {cx:Cx} {m:Mem} {src dst e:Nat} {i j l:TyI} {s:ByteArray} {K:Value→Mem→Prop} (ht:TabOk cx.P cx.tab) (hi:cx.tab.get src=some i) (hik:i.kind=.str) (hj:cx.tab.get dst=some j) (hjk:j.kind=.slice e) (hl:cx.tab.get e=some l) (hlk:l.kind=.int .u8)
  (hK:∀ b cap o,zs2 o s→K (.slice (some ⟨b,0,none⟩) s.size cap) (.blk b o::m)):Rn cx m (convert src dst (.string s)) K:=by
 intro w hm
 have hs:cx.P.underlying src=some .string:=by
  obtain ⟨d,hd,hkd⟩:=(ht _ _ hi).desc
  rw [hik] at hkd;subst hkd;exact hd
 have hd:cx.P.underlying dst=some (.slice e):=TyI.sliceOf (ht _ _ hj) hjk
 have he:cx.P.underlying e=some (.int .u8):=by
  obtain ⟨d,hd,hkd⟩:=(ht _ _ hl).desc
  rw [hlk] at hkd;subst hkd;exact hd
 have hh:zs2 (.cells (bytesRow s (grownCap w s.size 0 e)) e ((bytesRow s (grownCap w s.size 0 e)).size,(bytesRow s (grownCap w s.size 0 e)).size+1)) s:=by
  refine⟨_,_,_,rfl,fun i hi=>?_⟩
  rw [bytesRow_at s _ i hi,List.getD_eq_getElem?_getD,List.getElem?_eq_getElem (by simpa using hi)]
  simp
 exact⟨_,_,_,run_bytes_of_string w src dst e s hs hd he,(hm.same (zep w (w.drawn+1))).alloc _,hK w.heap.size _ _ hh⟩
theorem zbc {w:World} {pB t:Nat} {L:List Prt} (h:Res.ok w (.blk pB (.cells (L.map Prt.val).toArray t))):∀ i p,L[i]?=some p→w.cell? ⟨pB,i,none⟩=some p.val:=fun i p hi=>by
 rw [zaJ h i,List.getElem?_map,hi];rfl
theorem zeN {w:World} {p0:Prt} {p1:Prt} {p2:Prt} {p3:Prt} {p4:Prt} {q:Prt} (hq:q∈[p0,p1,p2,p3,p4]) (h0:BytsIn w p0.A p0.bs) (h1:BytsIn w p1.A p1.bs) (h2:BytsIn w p2.A p2.bs) (h3:BytsIn w p3.A p3.bs) (h4:BytsIn w p4.A p4.bs):BytsIn w q.A q.bs:=by
 simp only [List.mem_cons,List.not_mem_nil,or_false] at hq
 rcases hq with rfl|rfl|rfl|rfl|rfl<;>assumption
theorem zdU {p0:Prt} {p1:Prt} {p2:Prt} {p3:Prt} {p4:Prt} {q:Prt} (hq:q∈[p0,p1,p2,p3,p4]) (h0:p0.bs.length≤1000000) (h1:p1.bs.length≤1000000) (h2:p2.bs.length≤1000000) (h3:p3.bs.length≤1000000) (h4:p4.bs.length≤1000000):q.bs.length≤1000000:=by
 simp only [List.mem_cons,List.not_mem_nil,or_false] at hq
 rcases hq with rfl|rfl|rfl|rfl|rfl<;>assumption
attribute [local irreducible] Br Rn RnU Cl RdG CpG Ld Rd Lp Dr Oth Cut fin Fits Eng.Enters Md NA
theorem zj9:Eng.Enters Tryz.prog 180:=zab fun _ _=>by kernel_rfl
def zal (x:Snp):List UInt8:=leB (x.name.size:Int).toNat 1++(x.name.data.toList++(leB x.l1.toNat 8++(leB x.l1len.toNat 4++leB x.size.toNat 8)))
set_option maxHeartbeats 4000000 in
theorem zpf (x:Snp) (w:World) (hn:x.name.size≤64) (h1:0≤x.l1∧x.l1≤268435456) (h2:0≤x.l1len∧x.l1len≤1048576) (h3:0≤x.size∧x.size≤67108864) :
  Ctr Tryz.prog 180 [.agg x.cells.toArray] [] (fun e m'=>∃ A c,e=.returned (.slice A (zal x).length c)∧m'=[BR8 A c (zal x).length (zal x)]) w:=by
 refine enter (cx:=CXS 21 [] w (Foot [])) [(0,.agg x.cells.toArray)] zaa Tryz.func180 rfl rfl rfl rfl (MemOk.nil w _) ?_
 refine gGw ?_;(repeat ((first|refine .mk fun Ap capp=>?_|intro _);(conv=>whnf);refine gG0 ?_))
 rename_i xB
 refine za5 (γ:=Option Addr × Nat) (Tr.hs [0,1,2,4,5,7,8,10,11,13,14] (.alts 3 (.alts 9 (.alts 12 (.alts 15 (.sq [6,16,17] (.hs [18] .done)) (.alts 6 (.sq [15,16,17] (.hs [18] .done)) .stop)) (.alts 6 (.sq [12,15,16,17] (.hs [18] .done)) .stop)) (.alts 6 (.sq [9,12,15,16,17] (.hs [18] .done)) .stop)) (.alts 6 (.sq [3,9,12,15,16,17] (.hs [18] .done)) .stop)))
  [.blk xB (.cells x.cells.toArray 175)] zaa mixed (by kernel_rfl) rfl (fun _=>True) (fun g=>[(2,.slice g.1 (zal x).length g.2)]) (fun g=>[BR8 g.1 g.2 (zal x).length (zal x)]) SubM.sl ?_ ?_
 ·refine gGw ?_
  refine⟨?_,?_⟩
  ·conv=>whnf
   refine⟨zah,zac (m1:=[]) .nil (fun w' hm'=>zan ((x.name.size:Int)) 1 w' (by omega) (by omega) (by rw [show (256:Nat) ^ 1=256 from by decide];omega)) ?_⟩
   rintro e m' ⟨Aa,ca,rfl,rfl⟩
   conv=>whnf
   refine gGs ?_
   conv=>whnf
   refine⟨?_,?_⟩
   ·conv=>whnf
    refine⟨zah,zac (m1:=[]) .nil (fun w' hm'=>zan (x.l1) 8 w' (by omega) (by omega) (by rw [show (256:Nat) ^ 8=18446744073709551616 from by decide];omega)) ?_⟩
    rintro e m' ⟨Ab,cb,rfl,rfl⟩
    conv=>whnf
    refine gGs ?_
    conv=>whnf
    refine⟨?_,?_⟩
    ·conv=>whnf
     refine⟨zah,zac (m1:=[]) .nil (fun w' hm'=>zan (x.l1len) 4 w' (by omega) (by omega) (by rw [show (256:Nat) ^ 4=4294967296 from by decide];omega)) ?_⟩
     rintro e m' ⟨Ac,cc,rfl,rfl⟩
     conv=>whnf
     refine gGs ?_
     conv=>whnf
     refine⟨?_,?_⟩
     ·conv=>whnf
      refine⟨zah,zac (m1:=[]) .nil (fun w' hm'=>zan (x.size) 8 w' (by omega) (by omega) (by rw [show (256:Nat) ^ 8=18446744073709551616 from by decide];omega)) ?_⟩
      rintro e m' ⟨Ad,cd,rfl,rfl⟩
      conv=>whnf
      refine gGs ?_
      conv=>whnf
      refine⟨?_,trivial⟩
      conv=>whnf
      refine zdb zaa rfl rfl rfl rfl rfl rfl (fun nB ncap no hno=>?_)
      conv=>whnf
      refine gGs ?_
      conv=>whnf
      refine⟨?_,trivial⟩
      conv=>whnf
      intro pB
      conv=>whnf
      refine gGs ?_
      conv=>whnf
      refine⟨?_,trivial⟩
      conv=>whnf
      have hsb:prtB [⟨Aa,ca,leB ((x.name.size:Int)).toNat 1⟩,⟨some ⟨nB,0,none⟩,ncap,x.name.data.toList⟩,⟨Ab,cb,leB (x.l1).toNat 8⟩,⟨Ac,cc,leB (x.l1len).toNat 4⟩,⟨Ad,cd,leB (x.size).toNat 8⟩]=zal x:=by unfold prtB zal;simp
      refine⟨zbd,zac (m1:=[]) .nil (fun w' hm'=>zcq [⟨Aa,ca,leB ((x.name.size:Int)).toNat 1⟩,⟨some ⟨nB,0,none⟩,ncap,x.name.data.toList⟩,⟨Ab,cb,leB (x.l1).toNat 8⟩,⟨Ac,cc,leB (x.l1len).toNat 4⟩,⟨Ad,cd,leB (x.size).toNat 8⟩] pB 5 w' (by show 5≤100;omega) (fun q hq=>zdU hq (by rw [zad];omega) (by show x.name.size≤1000000;omega) (by rw [zad];omega) (by rw [zad];omega) (by rw [zad];omega)) (zbc (hm'.ok _ (List.mem_cons_self ..))) (fun q hq=>zeN hq (zay (hm'.ok (BR8 Aa ca 1 (leB ((x.name.size:Int)).toNat 1)) (by simp))) (zbI (hm'.ok (.blk nB no) (by simp)) hno) (zay (hm'.ok (BR8 Ab cb 8 (leB (x.l1).toNat 8)) (by simp))) (zay (hm'.ok (BR8 Ac cc 4 (leB (x.l1len).toNat 4)) (by simp))) (zay (hm'.ok (BR8 Ad cd 8 (leB (x.size).toNat 8)) (by simp))))) ?_⟩
      rw [hsb]
      rintro e m' ⟨gA,gc,rfl,rfl⟩
      refine gGt ?_
      exact⟨(gA,gc),trivial,⟨rfl,trivial⟩,SubM.sl⟩
     ·conv=>whnf
      refine⟨?_,trivial⟩
      conv=>whnf
      refine zdb zaa rfl rfl rfl rfl rfl rfl (fun nB ncap no hno=>?_)
      conv=>whnf
      refine gGs ?_
      conv=>whnf
      refine⟨?_,trivial⟩
      conv=>whnf
      refine⟨zah,zac (m1:=[]) .nil (fun w' hm'=>zan (x.size) 8 w' (by omega) (by omega) (by rw [show (256:Nat) ^ 8=18446744073709551616 from by decide];omega)) ?_⟩
      rintro e m' ⟨Ad,cd,rfl,rfl⟩
      conv=>whnf
      refine gGs ?_
      conv=>whnf
      refine⟨?_,trivial⟩
      conv=>whnf
      intro pB
      conv=>whnf
      refine gGs ?_
      conv=>whnf
      refine⟨?_,trivial⟩
      conv=>whnf
      have hsb:prtB [⟨Aa,ca,leB ((x.name.size:Int)).toNat 1⟩,⟨some ⟨nB,0,none⟩,ncap,x.name.data.toList⟩,⟨Ab,cb,leB (x.l1).toNat 8⟩,⟨Ac,cc,leB (x.l1len).toNat 4⟩,⟨Ad,cd,leB (x.size).toNat 8⟩]=zal x:=by unfold prtB zal;simp
      refine⟨zbd,zac (m1:=[]) .nil (fun w' hm'=>zcq [⟨Aa,ca,leB ((x.name.size:Int)).toNat 1⟩,⟨some ⟨nB,0,none⟩,ncap,x.name.data.toList⟩,⟨Ab,cb,leB (x.l1).toNat 8⟩,⟨Ac,cc,leB (x.l1len).toNat 4⟩,⟨Ad,cd,leB (x.size).toNat 8⟩] pB 5 w' (by show 5≤100;omega) (fun q hq=>zdU hq (by rw [zad];omega) (by show x.name.size≤1000000;omega) (by rw [zad];omega) (by rw [zad];omega) (by rw [zad];omega)) (zbc (hm'.ok _ (List.mem_cons_self ..))) (fun q hq=>zeN hq (zay (hm'.ok (BR8 Aa ca 1 (leB ((x.name.size:Int)).toNat 1)) (by simp))) (zbI (hm'.ok (.blk nB no) (by simp)) hno) (zay (hm'.ok (BR8 Ab cb 8 (leB (x.l1).toNat 8)) (by simp))) (zay (hm'.ok (BR8 Ac cc 4 (leB (x.l1len).toNat 4)) (by simp))) (zay (hm'.ok (BR8 Ad cd 8 (leB (x.size).toNat 8)) (by simp))))) ?_⟩
      rw [hsb]
      rintro e m' ⟨gA,gc,rfl,rfl⟩
      refine gGt ?_
      exact⟨(gA,gc),trivial,⟨rfl,trivial⟩,SubM.sl⟩
    ·conv=>whnf
     refine⟨?_,trivial⟩
     conv=>whnf
     refine zdb zaa rfl rfl rfl rfl rfl rfl (fun nB ncap no hno=>?_)
     conv=>whnf
     refine gGs ?_
     conv=>whnf
     refine⟨?_,trivial⟩
     conv=>whnf
     refine⟨zah,zac (m1:=[]) .nil (fun w' hm'=>zan (x.l1len) 4 w' (by omega) (by omega) (by rw [show (256:Nat) ^ 4=4294967296 from by decide];omega)) ?_⟩
     rintro e m' ⟨Ac,cc,rfl,rfl⟩
     conv=>whnf
     refine gGs ?_
     conv=>whnf
     refine⟨?_,trivial⟩
     conv=>whnf
     refine⟨zah,zac (m1:=[]) .nil (fun w' hm'=>zan (x.size) 8 w' (by omega) (by omega) (by rw [show (256:Nat) ^ 8=18446744073709551616 from by decide];omega)) ?_⟩
     rintro e m' ⟨Ad,cd,rfl,rfl⟩
     conv=>whnf
     refine gGs ?_
     conv=>whnf
     refine⟨?_,trivial⟩
     conv=>whnf
     intro pB
     conv=>whnf
     refine gGs ?_
     conv=>whnf
     refine⟨?_,trivial⟩
     conv=>whnf
     have hsb:prtB [⟨Aa,ca,leB ((x.name.size:Int)).toNat 1⟩,⟨some ⟨nB,0,none⟩,ncap,x.name.data.toList⟩,⟨Ab,cb,leB (x.l1).toNat 8⟩,⟨Ac,cc,leB (x.l1len).toNat 4⟩,⟨Ad,cd,leB (x.size).toNat 8⟩]=zal x:=by unfold prtB zal;simp
     refine⟨zbd,zac (m1:=[]) .nil (fun w' hm'=>zcq [⟨Aa,ca,leB ((x.name.size:Int)).toNat 1⟩,⟨some ⟨nB,0,none⟩,ncap,x.name.data.toList⟩,⟨Ab,cb,leB (x.l1).toNat 8⟩,⟨Ac,cc,leB (x.l1len).toNat 4⟩,⟨Ad,cd,leB (x.size).toNat 8⟩] pB 5 w' (by show 5≤100;omega) (fun q hq=>zdU hq (by rw [zad];omega) (by show x.name.size≤1000000;omega) (by rw [zad];omega) (by rw [zad];omega) (by rw [zad];omega)) (zbc (hm'.ok _ (List.mem_cons_self ..))) (fun q hq=>zeN hq (zay (hm'.ok (BR8 Aa ca 1 (leB ((x.name.size:Int)).toNat 1)) (by simp))) (zbI (hm'.ok (.blk nB no) (by simp)) hno) (zay (hm'.ok (BR8 Ab cb 8 (leB (x.l1).toNat 8)) (by simp))) (zay (hm'.ok (BR8 Ac cc 4 (leB (x.l1len).toNat 4)) (by simp))) (zay (hm'.ok (BR8 Ad cd 8 (leB (x.size).toNat 8)) (by simp))))) ?_⟩
     rw [hsb]
     rintro e m' ⟨gA,gc,rfl,rfl⟩
     refine gGt ?_
     exact⟨(gA,gc),trivial,⟨rfl,trivial⟩,SubM.sl⟩
   ·conv=>whnf
    refine⟨?_,trivial⟩
    conv=>whnf
    refine zdb zaa rfl rfl rfl rfl rfl rfl (fun nB ncap no hno=>?_)
    conv=>whnf
    refine gGs ?_
    conv=>whnf
    refine⟨?_,trivial⟩
    conv=>whnf
    refine⟨zah,zac (m1:=[]) .nil (fun w' hm'=>zan (x.l1) 8 w' (by omega) (by omega) (by rw [show (256:Nat) ^ 8=18446744073709551616 from by decide];omega)) ?_⟩
    rintro e m' ⟨Ab,cb,rfl,rfl⟩
    conv=>whnf
    refine gGs ?_
    conv=>whnf
    refine⟨?_,trivial⟩
    conv=>whnf
    refine⟨zah,zac (m1:=[]) .nil (fun w' hm'=>zan (x.l1len) 4 w' (by omega) (by omega) (by rw [show (256:Nat) ^ 4=4294967296 from by decide];omega)) ?_⟩
    rintro e m' ⟨Ac,cc,rfl,rfl⟩
    conv=>whnf
    refine gGs ?_
    conv=>whnf
    refine⟨?_,trivial⟩
    conv=>whnf
    refine⟨zah,zac (m1:=[]) .nil (fun w' hm'=>zan (x.size) 8 w' (by omega) (by omega) (by rw [show (256:Nat) ^ 8=18446744073709551616 from by decide];omega)) ?_⟩
    rintro e m' ⟨Ad,cd,rfl,rfl⟩
    conv=>whnf
    refine gGs ?_
    conv=>whnf
    refine⟨?_,trivial⟩
    conv=>whnf
    intro pB
    conv=>whnf
    refine gGs ?_
    conv=>whnf
    refine⟨?_,trivial⟩
    conv=>whnf
    have hsb:prtB [⟨Aa,ca,leB ((x.name.size:Int)).toNat 1⟩,⟨some ⟨nB,0,none⟩,ncap,x.name.data.toList⟩,⟨Ab,cb,leB (x.l1).toNat 8⟩,⟨Ac,cc,leB (x.l1len).toNat 4⟩,⟨Ad,cd,leB (x.size).toNat 8⟩]=zal x:=by unfold prtB zal;simp
    refine⟨zbd,zac (m1:=[]) .nil (fun w' hm'=>zcq [⟨Aa,ca,leB ((x.name.size:Int)).toNat 1⟩,⟨some ⟨nB,0,none⟩,ncap,x.name.data.toList⟩,⟨Ab,cb,leB (x.l1).toNat 8⟩,⟨Ac,cc,leB (x.l1len).toNat 4⟩,⟨Ad,cd,leB (x.size).toNat 8⟩] pB 5 w' (by show 5≤100;omega) (fun q hq=>zdU hq (by rw [zad];omega) (by show x.name.size≤1000000;omega) (by rw [zad];omega) (by rw [zad];omega) (by rw [zad];omega)) (zbc (hm'.ok _ (List.mem_cons_self ..))) (fun q hq=>zeN hq (zay (hm'.ok (BR8 Aa ca 1 (leB ((x.name.size:Int)).toNat 1)) (by simp))) (zbI (hm'.ok (.blk nB no) (by simp)) hno) (zay (hm'.ok (BR8 Ab cb 8 (leB (x.l1).toNat 8)) (by simp))) (zay (hm'.ok (BR8 Ac cc 4 (leB (x.l1len).toNat 4)) (by simp))) (zay (hm'.ok (BR8 Ad cd 8 (leB (x.size).toNat 8)) (by simp))))) ?_⟩
    rw [hsb]
    rintro e m' ⟨gA,gc,rfl,rfl⟩
    refine gGt ?_
    exact⟨(gA,gc),trivial,⟨rfl,trivial⟩,SubM.sl⟩
  ·conv=>whnf
   refine⟨?_,trivial⟩
   conv=>whnf
   refine zdb zaa rfl rfl rfl rfl rfl rfl (fun nB ncap no hno=>?_)
   conv=>whnf
   refine gGs ?_
   conv=>whnf
   refine⟨?_,trivial⟩
   conv=>whnf
   refine⟨zah,zac (m1:=[]) .nil (fun w' hm'=>zan ((x.name.size:Int)) 1 w' (by omega) (by omega) (by rw [show (256:Nat) ^ 1=256 from by decide];omega)) ?_⟩
   rintro e m' ⟨Aa,ca,rfl,rfl⟩
   conv=>whnf
   refine gGs ?_
   conv=>whnf
   refine⟨?_,trivial⟩
   conv=>whnf
   refine⟨zah,zac (m1:=[]) .nil (fun w' hm'=>zan (x.l1) 8 w' (by omega) (by omega) (by rw [show (256:Nat) ^ 8=18446744073709551616 from by decide];omega)) ?_⟩
   rintro e m' ⟨Ab,cb,rfl,rfl⟩
   conv=>whnf
   refine gGs ?_
   conv=>whnf
   refine⟨?_,trivial⟩
   conv=>whnf
   refine⟨zah,zac (m1:=[]) .nil (fun w' hm'=>zan (x.l1len) 4 w' (by omega) (by omega) (by rw [show (256:Nat) ^ 4=4294967296 from by decide];omega)) ?_⟩
   rintro e m' ⟨Ac,cc,rfl,rfl⟩
   conv=>whnf
   refine gGs ?_
   conv=>whnf
   refine⟨?_,trivial⟩
   conv=>whnf
   refine⟨zah,zac (m1:=[]) .nil (fun w' hm'=>zan (x.size) 8 w' (by omega) (by omega) (by rw [show (256:Nat) ^ 8=18446744073709551616 from by decide];omega)) ?_⟩
   rintro e m' ⟨Ad,cd,rfl,rfl⟩
   conv=>whnf
   refine gGs ?_
   conv=>whnf
   refine⟨?_,trivial⟩
   conv=>whnf
   intro pB
   conv=>whnf
   refine gGs ?_
   conv=>whnf
   refine⟨?_,trivial⟩
   conv=>whnf
   have hsb:prtB [⟨Aa,ca,leB ((x.name.size:Int)).toNat 1⟩,⟨some ⟨nB,0,none⟩,ncap,x.name.data.toList⟩,⟨Ab,cb,leB (x.l1).toNat 8⟩,⟨Ac,cc,leB (x.l1len).toNat 4⟩,⟨Ad,cd,leB (x.size).toNat 8⟩]=zal x:=by unfold prtB zal;simp
   refine⟨zbd,zac (m1:=[]) .nil (fun w' hm'=>zcq [⟨Aa,ca,leB ((x.name.size:Int)).toNat 1⟩,⟨some ⟨nB,0,none⟩,ncap,x.name.data.toList⟩,⟨Ab,cb,leB (x.l1).toNat 8⟩,⟨Ac,cc,leB (x.l1len).toNat 4⟩,⟨Ad,cd,leB (x.size).toNat 8⟩] pB 5 w' (by show 5≤100;omega) (fun q hq=>zdU hq (by rw [zad];omega) (by show x.name.size≤1000000;omega) (by rw [zad];omega) (by rw [zad];omega) (by rw [zad];omega)) (zbc (hm'.ok _ (List.mem_cons_self ..))) (fun q hq=>zeN hq (zay (hm'.ok (BR8 Aa ca 1 (leB ((x.name.size:Int)).toNat 1)) (by simp))) (zbI (hm'.ok (.blk nB no) (by simp)) hno) (zay (hm'.ok (BR8 Ab cb 8 (leB (x.l1).toNat 8)) (by simp))) (zay (hm'.ok (BR8 Ac cc 4 (leB (x.l1len).toNat 4)) (by simp))) (zay (hm'.ok (BR8 Ad cd 8 (leB (x.size).toNat 8)) (by simp))))) ?_⟩
   rw [hsb]
   rintro e m' ⟨gA,gc,rfl,rfl⟩
   refine gGt ?_
   exact⟨(gA,gc),trivial,⟨rfl,trivial⟩,SubM.sl⟩
 ·rintro ⟨gA,gc⟩ -
  refine gGw ?_
  exact fin1 rfl rfl (fun w' hm=>⟨_,⟨_,_,rfl,rfl⟩,hm⟩)
end
section
theorem zdV {w:World} {p0:Prt} {p1:Prt} {p2:Prt} {p3:Prt} {p4:Prt} {p5:Prt} {q:Prt} (hq:q∈[p0,p1,p2,p3,p4,p5]) (h0:BytsIn w p0.A p0.bs) (h1:BytsIn w p1.A p1.bs) (h2:BytsIn w p2.A p2.bs) (h3:BytsIn w p3.A p3.bs) (h4:BytsIn w p4.A p4.bs) (h5:BytsIn w p5.A p5.bs):BytsIn w q.A q.bs:=by
 simp only [List.mem_cons,List.not_mem_nil,or_false] at hq
 rcases hq with rfl|rfl|rfl|rfl|rfl|rfl<;>assumption
theorem zc6 {p0:Prt} {p1:Prt} {p2:Prt} {p3:Prt} {p4:Prt} {p5:Prt} {q:Prt} (hq:q∈[p0,p1,p2,p3,p4,p5]) (h0:p0.bs.length≤1000000) (h1:p1.bs.length≤1000000) (h2:p2.bs.length≤1000000) (h3:p3.bs.length≤1000000) (h4:p4.bs.length≤1000000) (h5:p5.bs.length≤1000000):q.bs.length≤1000000:=by
 simp only [List.mem_cons,List.not_mem_nil,or_false] at hq
 rcases hq with rfl|rfl|rfl|rfl|rfl|rfl<;>assumption
attribute [local irreducible] Br Rn RnU Cl RdG CpG Ld Rd Lp Dr Oth Cut fin Fits Eng.Enters Md NA
theorem zlt:Eng.Enters Tryz.prog 184:=zab fun _ _=>by kernel_rfl
def zaj (x:Rwp):List UInt8:=leB (x.name.size:Int).toNat 1++(x.name.data.toList++(leB x.gran.toNat 1++(leB x.flags.toNat 1++(leB x.at_.toNat 8++leB x.len.toNat 4))))
set_option maxHeartbeats 4000000 in
theorem zqW (x:Rwp) (w:World) (hn:x.name.size≤64) (h1:0≤x.gran∧x.gran≤31) (h2:0≤x.flags∧x.flags≤3) (h3:0≤x.at_∧x.at_≤268435456) (h4:0≤x.len∧x.len≤16777216) :
  Ctr Tryz.prog 184 [.agg x.cells.toArray] [] (fun e m'=>∃ A c,e=.returned (.slice A (zaj x).length c)∧m'=[BR8 A c (zaj x).length (zaj x)]) w:=by
 refine enter (cx:=CXS 24 [] w (Foot [])) [(0,.agg x.cells.toArray)] zaa Tryz.func184 rfl rfl rfl rfl (MemOk.nil w _) ?_
 refine gGw ?_;(repeat ((first|refine .mk fun Ap capp=>?_|intro _);(conv=>whnf);refine gG0 ?_))
 rename_i xB
 refine za5 (γ:=Option Addr × Nat) (Tr.hs [0,1,2,4,5,7,8,10,11,13,14,16,17] (.alts 3 (.alts 9 (.alts 12 (.alts 15 (.alts 18 (.sq [6,19,20] (.hs [21] .done)) (.alts 6 (.sq [18,19,20] (.hs [21] .done)) .stop)) (.alts 6 (.sq [15,18,19,20] (.hs [21] .done)) .stop)) (.alts 6 (.sq [12,15,18,19,20] (.hs [21] .done)) .stop)) (.alts 6 (.sq [9,12,15,18,19,20] (.hs [21] .done)) .stop)) (.alts 6 (.sq [3,9,12,15,18,19,20] (.hs [21] .done)) .stop)))
  [.blk xB (.cells x.cells.toArray 180)] zaa mixed (by kernel_rfl) rfl (fun _=>True) (fun g=>[(2,.slice g.1 (zaj x).length g.2)]) (fun g=>[BR8 g.1 g.2 (zaj x).length (zaj x)]) SubM.sl ?_ ?_
 ·refine gGw ?_
  refine⟨?_,?_⟩
  ·conv=>whnf
   refine⟨zah,zac (m1:=[]) .nil (fun w' hm'=>zan ((x.name.size:Int)) 1 w' (by omega) (by omega) (by rw [show (256:Nat) ^ 1=256 from by decide];omega)) ?_⟩
   rintro e m' ⟨Aa,ca,rfl,rfl⟩
   conv=>whnf
   refine gGs ?_
   conv=>whnf
   refine⟨?_,?_⟩
   ·conv=>whnf
    refine⟨zah,zac (m1:=[]) .nil (fun w' hm'=>zan (x.gran) 1 w' (by omega) (by omega) (by rw [show (256:Nat) ^ 1=256 from by decide];omega)) ?_⟩
    rintro e m' ⟨Ab,cb,rfl,rfl⟩
    conv=>whnf
    refine gGs ?_
    conv=>whnf
    refine⟨?_,?_⟩
    ·conv=>whnf
     refine⟨zah,zac (m1:=[]) .nil (fun w' hm'=>zan (x.flags) 1 w' (by omega) (by omega) (by rw [show (256:Nat) ^ 1=256 from by decide];omega)) ?_⟩
     rintro e m' ⟨Ac,cc,rfl,rfl⟩
     conv=>whnf
     refine gGs ?_
     conv=>whnf
     refine⟨?_,?_⟩
     ·conv=>whnf
      refine⟨zah,zac (m1:=[]) .nil (fun w' hm'=>zan (x.at_) 8 w' (by omega) (by omega) (by rw [show (256:Nat) ^ 8=18446744073709551616 from by decide];omega)) ?_⟩
      rintro e m' ⟨Ad,cd,rfl,rfl⟩
      conv=>whnf
      refine gGs ?_
      conv=>whnf
      refine⟨?_,?_⟩
      ·conv=>whnf
       refine⟨zah,zac (m1:=[]) .nil (fun w' hm'=>zan (x.len) 4 w' (by omega) (by omega) (by rw [show (256:Nat) ^ 4=4294967296 from by decide];omega)) ?_⟩
       rintro e m' ⟨Af,cf,rfl,rfl⟩
       conv=>whnf
       refine gGs ?_
       conv=>whnf
       refine⟨?_,trivial⟩
       conv=>whnf
       refine zdb zaa rfl rfl rfl rfl rfl rfl (fun nB ncap no hno=>?_)
       conv=>whnf
       refine gGs ?_
       conv=>whnf
       refine⟨?_,trivial⟩
       conv=>whnf
       intro pB
       conv=>whnf
       refine gGs ?_
       conv=>whnf
       refine⟨?_,trivial⟩
       conv=>whnf
       have hsb:prtB [⟨Aa,ca,leB ((x.name.size:Int)).toNat 1⟩,⟨some ⟨nB,0,none⟩,ncap,x.name.data.toList⟩,⟨Ab,cb,leB (x.gran).toNat 1⟩,⟨Ac,cc,leB (x.flags).toNat 1⟩,⟨Ad,cd,leB (x.at_).toNat 8⟩,⟨Af,cf,leB (x.len).toNat 4⟩]=zaj x:=by unfold prtB zaj;simp
       refine⟨zbd,zac (m1:=[]) .nil (fun w' hm'=>zcq [⟨Aa,ca,leB ((x.name.size:Int)).toNat 1⟩,⟨some ⟨nB,0,none⟩,ncap,x.name.data.toList⟩,⟨Ab,cb,leB (x.gran).toNat 1⟩,⟨Ac,cc,leB (x.flags).toNat 1⟩,⟨Ad,cd,leB (x.at_).toNat 8⟩,⟨Af,cf,leB (x.len).toNat 4⟩] pB 6 w' (by show 6≤100;omega) (fun q hq=>zc6 hq (by rw [zad];omega) (by show x.name.size≤1000000;omega) (by rw [zad];omega) (by rw [zad];omega) (by rw [zad];omega) (by rw [zad];omega)) (zbc (hm'.ok _ (List.mem_cons_self ..))) (fun q hq=>zdV hq (zay (hm'.ok (BR8 Aa ca 1 (leB ((x.name.size:Int)).toNat 1)) (by simp))) (zbI (hm'.ok (.blk nB no) (by simp)) hno) (zay (hm'.ok (BR8 Ab cb 1 (leB (x.gran).toNat 1)) (by simp))) (zay (hm'.ok (BR8 Ac cc 1 (leB (x.flags).toNat 1)) (by simp))) (zay (hm'.ok (BR8 Ad cd 8 (leB (x.at_).toNat 8)) (by simp))) (zay (hm'.ok (BR8 Af cf 4 (leB (x.len).toNat 4)) (by simp))))) ?_⟩
       rw [hsb]
       rintro e m' ⟨gA,gc,rfl,rfl⟩
       refine gGt ?_
       exact⟨(gA,gc),trivial,⟨rfl,trivial⟩,SubM.sl⟩
      ·conv=>whnf
       refine⟨?_,trivial⟩
       conv=>whnf
       refine zdb zaa rfl rfl rfl rfl rfl rfl (fun nB ncap no hno=>?_)
       conv=>whnf
       refine gGs ?_
       conv=>whnf
       refine⟨?_,trivial⟩
       conv=>whnf
       refine⟨zah,zac (m1:=[]) .nil (fun w' hm'=>zan (x.len) 4 w' (by omega) (by omega) (by rw [show (256:Nat) ^ 4=4294967296 from by decide];omega)) ?_⟩
       rintro e m' ⟨Af,cf,rfl,rfl⟩
       conv=>whnf
       refine gGs ?_
       conv=>whnf
       refine⟨?_,trivial⟩
       conv=>whnf
       intro pB
       conv=>whnf
       refine gGs ?_
       conv=>whnf
       refine⟨?_,trivial⟩
       conv=>whnf
       have hsb:prtB [⟨Aa,ca,leB ((x.name.size:Int)).toNat 1⟩,⟨some ⟨nB,0,none⟩,ncap,x.name.data.toList⟩,⟨Ab,cb,leB (x.gran).toNat 1⟩,⟨Ac,cc,leB (x.flags).toNat 1⟩,⟨Ad,cd,leB (x.at_).toNat 8⟩,⟨Af,cf,leB (x.len).toNat 4⟩]=zaj x:=by unfold prtB zaj;simp
       refine⟨zbd,zac (m1:=[]) .nil (fun w' hm'=>zcq [⟨Aa,ca,leB ((x.name.size:Int)).toNat 1⟩,⟨some ⟨nB,0,none⟩,ncap,x.name.data.toList⟩,⟨Ab,cb,leB (x.gran).toNat 1⟩,⟨Ac,cc,leB (x.flags).toNat 1⟩,⟨Ad,cd,leB (x.at_).toNat 8⟩,⟨Af,cf,leB (x.len).toNat 4⟩] pB 6 w' (by show 6≤100;omega) (fun q hq=>zc6 hq (by rw [zad];omega) (by show x.name.size≤1000000;omega) (by rw [zad];omega) (by rw [zad];omega) (by rw [zad];omega) (by rw [zad];omega)) (zbc (hm'.ok _ (List.mem_cons_self ..))) (fun q hq=>zdV hq (zay (hm'.ok (BR8 Aa ca 1 (leB ((x.name.size:Int)).toNat 1)) (by simp))) (zbI (hm'.ok (.blk nB no) (by simp)) hno) (zay (hm'.ok (BR8 Ab cb 1 (leB (x.gran).toNat 1)) (by simp))) (zay (hm'.ok (BR8 Ac cc 1 (leB (x.flags).toNat 1)) (by simp))) (zay (hm'.ok (BR8 Ad cd 8 (leB (x.at_).toNat 8)) (by simp))) (zay (hm'.ok (BR8 Af cf 4 (leB (x.len).toNat 4)) (by simp))))) ?_⟩
       rw [hsb]
       rintro e m' ⟨gA,gc,rfl,rfl⟩
       refine gGt ?_
       exact⟨(gA,gc),trivial,⟨rfl,trivial⟩,SubM.sl⟩
     ·conv=>whnf
      refine⟨?_,trivial⟩
      conv=>whnf
      refine zdb zaa rfl rfl rfl rfl rfl rfl (fun nB ncap no hno=>?_)
      conv=>whnf
      refine gGs ?_
      conv=>whnf
      refine⟨?_,trivial⟩
      conv=>whnf
      refine⟨zah,zac (m1:=[]) .nil (fun w' hm'=>zan (x.at_) 8 w' (by omega) (by omega) (by rw [show (256:Nat) ^ 8=18446744073709551616 from by decide];omega)) ?_⟩
      rintro e m' ⟨Ad,cd,rfl,rfl⟩
      conv=>whnf
      refine gGs ?_
      conv=>whnf
      refine⟨?_,trivial⟩
      conv=>whnf
      refine⟨zah,zac (m1:=[]) .nil (fun w' hm'=>zan (x.len) 4 w' (by omega) (by omega) (by rw [show (256:Nat) ^ 4=4294967296 from by decide];omega)) ?_⟩
      rintro e m' ⟨Af,cf,rfl,rfl⟩
      conv=>whnf
      refine gGs ?_
      conv=>whnf
      refine⟨?_,trivial⟩
      conv=>whnf
      intro pB
      conv=>whnf
      refine gGs ?_
      conv=>whnf
      refine⟨?_,trivial⟩
      conv=>whnf
      have hsb:prtB [⟨Aa,ca,leB ((x.name.size:Int)).toNat 1⟩,⟨some ⟨nB,0,none⟩,ncap,x.name.data.toList⟩,⟨Ab,cb,leB (x.gran).toNat 1⟩,⟨Ac,cc,leB (x.flags).toNat 1⟩,⟨Ad,cd,leB (x.at_).toNat 8⟩,⟨Af,cf,leB (x.len).toNat 4⟩]=zaj x:=by unfold prtB zaj;simp
      refine⟨zbd,zac (m1:=[]) .nil (fun w' hm'=>zcq [⟨Aa,ca,leB ((x.name.size:Int)).toNat 1⟩,⟨some ⟨nB,0,none⟩,ncap,x.name.data.toList⟩,⟨Ab,cb,leB (x.gran).toNat 1⟩,⟨Ac,cc,leB (x.flags).toNat 1⟩,⟨Ad,cd,leB (x.at_).toNat 8⟩,⟨Af,cf,leB (x.len).toNat 4⟩] pB 6 w' (by show 6≤100;omega) (fun q hq=>zc6 hq (by rw [zad];omega) (by show x.name.size≤1000000;omega) (by rw [zad];omega) (by rw [zad];omega) (by rw [zad];omega) (by rw [zad];omega)) (zbc (hm'.ok _ (List.mem_cons_self ..))) (fun q hq=>zdV hq (zay (hm'.ok (BR8 Aa ca 1 (leB ((x.name.size:Int)).toNat 1)) (by simp))) (zbI (hm'.ok (.blk nB no) (by simp)) hno) (zay (hm'.ok (BR8 Ab cb 1 (leB (x.gran).toNat 1)) (by simp))) (zay (hm'.ok (BR8 Ac cc 1 (leB (x.flags).toNat 1)) (by simp))) (zay (hm'.ok (BR8 Ad cd 8 (leB (x.at_).toNat 8)) (by simp))) (zay (hm'.ok (BR8 Af cf 4 (leB (x.len).toNat 4)) (by simp))))) ?_⟩
      rw [hsb]
      rintro e m' ⟨gA,gc,rfl,rfl⟩
      refine gGt ?_
      exact⟨(gA,gc),trivial,⟨rfl,trivial⟩,SubM.sl⟩
    ·conv=>whnf
     refine⟨?_,trivial⟩
     conv=>whnf
     refine zdb zaa rfl rfl rfl rfl rfl rfl (fun nB ncap no hno=>?_)
     conv=>whnf
     refine gGs ?_
     conv=>whnf
     refine⟨?_,trivial⟩
     conv=>whnf
     refine⟨zah,zac (m1:=[]) .nil (fun w' hm'=>zan (x.flags) 1 w' (by omega) (by omega) (by rw [show (256:Nat) ^ 1=256 from by decide];omega)) ?_⟩
     rintro e m' ⟨Ac,cc,rfl,rfl⟩
     conv=>whnf
     refine gGs ?_
     conv=>whnf
     refine⟨?_,trivial⟩
     conv=>whnf
     refine⟨zah,zac (m1:=[]) .nil (fun w' hm'=>zan (x.at_) 8 w' (by omega) (by omega) (by rw [show (256:Nat) ^ 8=18446744073709551616 from by decide];omega)) ?_⟩
     rintro e m' ⟨Ad,cd,rfl,rfl⟩
     conv=>whnf
     refine gGs ?_
     conv=>whnf
     refine⟨?_,trivial⟩
     conv=>whnf
     refine⟨zah,zac (m1:=[]) .nil (fun w' hm'=>zan (x.len) 4 w' (by omega) (by omega) (by rw [show (256:Nat) ^ 4=4294967296 from by decide];omega)) ?_⟩
     rintro e m' ⟨Af,cf,rfl,rfl⟩
     conv=>whnf
     refine gGs ?_
     conv=>whnf
     refine⟨?_,trivial⟩
     conv=>whnf
     intro pB
     conv=>whnf
     refine gGs ?_
     conv=>whnf
     refine⟨?_,trivial⟩
     conv=>whnf
     have hsb:prtB [⟨Aa,ca,leB ((x.name.size:Int)).toNat 1⟩,⟨some ⟨nB,0,none⟩,ncap,x.name.data.toList⟩,⟨Ab,cb,leB (x.gran).toNat 1⟩,⟨Ac,cc,leB (x.flags).toNat 1⟩,⟨Ad,cd,leB (x.at_).toNat 8⟩,⟨Af,cf,leB (x.len).toNat 4⟩]=zaj x:=by unfold prtB zaj;simp
     refine⟨zbd,zac (m1:=[]) .nil (fun w' hm'=>zcq [⟨Aa,ca,leB ((x.name.size:Int)).toNat 1⟩,⟨some ⟨nB,0,none⟩,ncap,x.name.data.toList⟩,⟨Ab,cb,leB (x.gran).toNat 1⟩,⟨Ac,cc,leB (x.flags).toNat 1⟩,⟨Ad,cd,leB (x.at_).toNat 8⟩,⟨Af,cf,leB (x.len).toNat 4⟩] pB 6 w' (by show 6≤100;omega) (fun q hq=>zc6 hq (by rw [zad];omega) (by show x.name.size≤1000000;omega) (by rw [zad];omega) (by rw [zad];omega) (by rw [zad];omega) (by rw [zad];omega)) (zbc (hm'.ok _ (List.mem_cons_self ..))) (fun q hq=>zdV hq (zay (hm'.ok (BR8 Aa ca 1 (leB ((x.name.size:Int)).toNat 1)) (by simp))) (zbI (hm'.ok (.blk nB no) (by simp)) hno) (zay (hm'.ok (BR8 Ab cb 1 (leB (x.gran).toNat 1)) (by simp))) (zay (hm'.ok (BR8 Ac cc 1 (leB (x.flags).toNat 1)) (by simp))) (zay (hm'.ok (BR8 Ad cd 8 (leB (x.at_).toNat 8)) (by simp))) (zay (hm'.ok (BR8 Af cf 4 (leB (x.len).toNat 4)) (by simp))))) ?_⟩
     rw [hsb]
     rintro e m' ⟨gA,gc,rfl,rfl⟩
     refine gGt ?_
     exact⟨(gA,gc),trivial,⟨rfl,trivial⟩,SubM.sl⟩
   ·conv=>whnf
    refine⟨?_,trivial⟩
    conv=>whnf
    refine zdb zaa rfl rfl rfl rfl rfl rfl (fun nB ncap no hno=>?_)
    conv=>whnf
    refine gGs ?_
    conv=>whnf
    refine⟨?_,trivial⟩
    conv=>whnf
    refine⟨zah,zac (m1:=[]) .nil (fun w' hm'=>zan (x.gran) 1 w' (by omega) (by omega) (by rw [show (256:Nat) ^ 1=256 from by decide];omega)) ?_⟩
    rintro e m' ⟨Ab,cb,rfl,rfl⟩
    conv=>whnf
    refine gGs ?_
    conv=>whnf
    refine⟨?_,trivial⟩
    conv=>whnf
    refine⟨zah,zac (m1:=[]) .nil (fun w' hm'=>zan (x.flags) 1 w' (by omega) (by omega) (by rw [show (256:Nat) ^ 1=256 from by decide];omega)) ?_⟩
    rintro e m' ⟨Ac,cc,rfl,rfl⟩
    conv=>whnf
    refine gGs ?_
    conv=>whnf
    refine⟨?_,trivial⟩
    conv=>whnf
    refine⟨zah,zac (m1:=[]) .nil (fun w' hm'=>zan (x.at_) 8 w' (by omega) (by omega) (by rw [show (256:Nat) ^ 8=18446744073709551616 from by decide];omega)) ?_⟩
    rintro e m' ⟨Ad,cd,rfl,rfl⟩
    conv=>whnf
    refine gGs ?_
    conv=>whnf
    refine⟨?_,trivial⟩
    conv=>whnf
    refine⟨zah,zac (m1:=[]) .nil (fun w' hm'=>zan (x.len) 4 w' (by omega) (by omega) (by rw [show (256:Nat) ^ 4=4294967296 from by decide];omega)) ?_⟩
    rintro e m' ⟨Af,cf,rfl,rfl⟩
    conv=>whnf
    refine gGs ?_
    conv=>whnf
    refine⟨?_,trivial⟩
    conv=>whnf
    intro pB
    conv=>whnf
    refine gGs ?_
    conv=>whnf
    refine⟨?_,trivial⟩
    conv=>whnf
    have hsb:prtB [⟨Aa,ca,leB ((x.name.size:Int)).toNat 1⟩,⟨some ⟨nB,0,none⟩,ncap,x.name.data.toList⟩,⟨Ab,cb,leB (x.gran).toNat 1⟩,⟨Ac,cc,leB (x.flags).toNat 1⟩,⟨Ad,cd,leB (x.at_).toNat 8⟩,⟨Af,cf,leB (x.len).toNat 4⟩]=zaj x:=by unfold prtB zaj;simp
    refine⟨zbd,zac (m1:=[]) .nil (fun w' hm'=>zcq [⟨Aa,ca,leB ((x.name.size:Int)).toNat 1⟩,⟨some ⟨nB,0,none⟩,ncap,x.name.data.toList⟩,⟨Ab,cb,leB (x.gran).toNat 1⟩,⟨Ac,cc,leB (x.flags).toNat 1⟩,⟨Ad,cd,leB (x.at_).toNat 8⟩,⟨Af,cf,leB (x.len).toNat 4⟩] pB 6 w' (by show 6≤100;omega) (fun q hq=>zc6 hq (by rw [zad];omega) (by show x.name.size≤1000000;omega) (by rw [zad];omega) (by rw [zad];omega) (by rw [zad];omega) (by rw [zad];omega)) (zbc (hm'.ok _ (List.mem_cons_self ..))) (fun q hq=>zdV hq (zay (hm'.ok (BR8 Aa ca 1 (leB ((x.name.size:Int)).toNat 1)) (by simp))) (zbI (hm'.ok (.blk nB no) (by simp)) hno) (zay (hm'.ok (BR8 Ab cb 1 (leB (x.gran).toNat 1)) (by simp))) (zay (hm'.ok (BR8 Ac cc 1 (leB (x.flags).toNat 1)) (by simp))) (zay (hm'.ok (BR8 Ad cd 8 (leB (x.at_).toNat 8)) (by simp))) (zay (hm'.ok (BR8 Af cf 4 (leB (x.len).toNat 4)) (by simp))))) ?_⟩
    rw [hsb]
    rintro e m' ⟨gA,gc,rfl,rfl⟩
    refine gGt ?_
    exact⟨(gA,gc),trivial,⟨rfl,trivial⟩,SubM.sl⟩
  ·conv=>whnf
   refine⟨?_,trivial⟩
   conv=>whnf
   refine zdb zaa rfl rfl rfl rfl rfl rfl (fun nB ncap no hno=>?_)
   conv=>whnf
   refine gGs ?_
   conv=>whnf
   refine⟨?_,trivial⟩
   conv=>whnf
   refine⟨zah,zac (m1:=[]) .nil (fun w' hm'=>zan ((x.name.size:Int)) 1 w' (by omega) (by omega) (by rw [show (256:Nat) ^ 1=256 from by decide];omega)) ?_⟩
   rintro e m' ⟨Aa,ca,rfl,rfl⟩
   conv=>whnf
   refine gGs ?_
   conv=>whnf
   refine⟨?_,trivial⟩
   conv=>whnf
   refine⟨zah,zac (m1:=[]) .nil (fun w' hm'=>zan (x.gran) 1 w' (by omega) (by omega) (by rw [show (256:Nat) ^ 1=256 from by decide];omega)) ?_⟩
   rintro e m' ⟨Ab,cb,rfl,rfl⟩
   conv=>whnf
   refine gGs ?_
   conv=>whnf
   refine⟨?_,trivial⟩
   conv=>whnf
   refine⟨zah,zac (m1:=[]) .nil (fun w' hm'=>zan (x.flags) 1 w' (by omega) (by omega) (by rw [show (256:Nat) ^ 1=256 from by decide];omega)) ?_⟩
   rintro e m' ⟨Ac,cc,rfl,rfl⟩
   conv=>whnf
   refine gGs ?_
   conv=>whnf
   refine⟨?_,trivial⟩
   conv=>whnf
   refine⟨zah,zac (m1:=[]) .nil (fun w' hm'=>zan (x.at_) 8 w' (by omega) (by omega) (by rw [show (256:Nat) ^ 8=18446744073709551616 from by decide];omega)) ?_⟩
   rintro e m' ⟨Ad,cd,rfl,rfl⟩
   conv=>whnf
   refine gGs ?_
   conv=>whnf
   refine⟨?_,trivial⟩
   conv=>whnf
   refine⟨zah,zac (m1:=[]) .nil (fun w' hm'=>zan (x.len) 4 w' (by omega) (by omega) (by rw [show (256:Nat) ^ 4=4294967296 from by decide];omega)) ?_⟩
   rintro e m' ⟨Af,cf,rfl,rfl⟩
   conv=>whnf
   refine gGs ?_
   conv=>whnf
   refine⟨?_,trivial⟩
   conv=>whnf
   intro pB
   conv=>whnf
   refine gGs ?_
   conv=>whnf
   refine⟨?_,trivial⟩
   conv=>whnf
   have hsb:prtB [⟨Aa,ca,leB ((x.name.size:Int)).toNat 1⟩,⟨some ⟨nB,0,none⟩,ncap,x.name.data.toList⟩,⟨Ab,cb,leB (x.gran).toNat 1⟩,⟨Ac,cc,leB (x.flags).toNat 1⟩,⟨Ad,cd,leB (x.at_).toNat 8⟩,⟨Af,cf,leB (x.len).toNat 4⟩]=zaj x:=by unfold prtB zaj;simp
   refine⟨zbd,zac (m1:=[]) .nil (fun w' hm'=>zcq [⟨Aa,ca,leB ((x.name.size:Int)).toNat 1⟩,⟨some ⟨nB,0,none⟩,ncap,x.name.data.toList⟩,⟨Ab,cb,leB (x.gran).toNat 1⟩,⟨Ac,cc,leB (x.flags).toNat 1⟩,⟨Ad,cd,leB (x.at_).toNat 8⟩,⟨Af,cf,leB (x.len).toNat 4⟩] pB 6 w' (by show 6≤100;omega) (fun q hq=>zc6 hq (by rw [zad];omega) (by show x.name.size≤1000000;omega) (by rw [zad];omega) (by rw [zad];omega) (by rw [zad];omega) (by rw [zad];omega)) (zbc (hm'.ok _ (List.mem_cons_self ..))) (fun q hq=>zdV hq (zay (hm'.ok (BR8 Aa ca 1 (leB ((x.name.size:Int)).toNat 1)) (by simp))) (zbI (hm'.ok (.blk nB no) (by simp)) hno) (zay (hm'.ok (BR8 Ab cb 1 (leB (x.gran).toNat 1)) (by simp))) (zay (hm'.ok (BR8 Ac cc 1 (leB (x.flags).toNat 1)) (by simp))) (zay (hm'.ok (BR8 Ad cd 8 (leB (x.at_).toNat 8)) (by simp))) (zay (hm'.ok (BR8 Af cf 4 (leB (x.len).toNat 4)) (by simp))))) ?_⟩
   rw [hsb]
   rintro e m' ⟨gA,gc,rfl,rfl⟩
   refine gGt ?_
   exact⟨(gA,gc),trivial,⟨rfl,trivial⟩,SubM.sl⟩
 ·rintro ⟨gA,gc⟩ -
  refine gGw ?_
  exact fin1 rfl rfl (fun w' hm=>⟨_,⟨_,_,rfl,rfl⟩,hm⟩)
end
theorem KeyT.of_str {P:Program} {kt:Nat} (hd:P.underlying kt=some .string):KeyT P kt Value.string:=by
 have hk:∀ a,MapKept.IsKey .string (.string a):=fun a=>by simp [MapKept.IsKey]
 refine⟨fun w em k=>MapKept.run_checkKey hd (hk k) em 9999,fun w x es ks h=>?_,fun w k=>MapKept.run_keyThatStays (hk k)⟩
 have hks:∀ e∈es,MapKept.IsKey .string e.key:=fun e he=>by
  have:e.key∈ks.map Value.string:=by rw [← h];exact List.mem_map.2 ⟨e,he,rfl⟩
  obtain ⟨k,_,hk'⟩:=List.mem_map.1 this
  rw [← hk'];exact hk k
 have hat:∀ (j:Nat) (e:MapEntry),es[j]?=some e→∃ k,ks[j]?=some k∧e.key=.string k:=fun j e he=>by
  have:=congrArg (·[j]?) h
  simp only [List.getElem?_map,he,Option.map_some] at this
  cases hj:ks[j]? with
  | none=>rw [hj] at this;simp at this
  | some k=>rw [hj] at this;simp at this;exact⟨k,rfl,this⟩
 rcases MapKept.findNow_spec (hk x) es 0 hks with ⟨h1,h2⟩|⟨j,e,h1,h2,h3⟩
 ·refine .inl ⟨by simp [Instr.findKey,run_underlying hd,h1],fun hx=>?_⟩
  obtain ⟨j,hj,hj2⟩:=List.mem_iff_getElem.1 hx
  have hlen:es.length=ks.length:=by simpa using congrArg List.length h
  obtain ⟨k,hk1,hk2⟩:=hat j es[j] (List.getElem?_eq_getElem (by omega))
  rw [List.getElem?_eq_getElem hj,hj2] at hk1
  cases hk1
  exact h2 _ (List.getElem_mem _) hk2
 ·obtain ⟨k,hk1,hk2⟩:=hat j e h2
  rw [hk2] at h3
  cases h3
  exact .inr ⟨j,e,by simp [Instr.findKey,run_underlying hd,h1],h2,hk1⟩
theorem u_str:Tryz.prog.underlying 9=some .string:=by kernel_rfl
theorem zgI:KeyT Tryz.prog 9 Value.string:=KeyT.of_str u_str
theorem zjn:Tryz.prog.underlying 308=some (.map 9 3):=by kernel_rfl
theorem zrI {seen:List ByteArray} {n:ByteArray} (h:n∈seen):mget (seen.map fun x=>(x,(1:Int))) n=some 1:=by
 induction seen with
 | nil=>cases h
 | cons a t ih =>
  rw [List.map_cons,mget]
  split
  ·rfl
  ·rename_i hne
   rcases List.mem_cons.1 h with rfl|h
   ·exact absurd rfl hne
   ·exact ih h
theorem zos {seen:List ByteArray} {n:ByteArray} (h:n ∉ seen):mget (seen.map fun x=>(x,(1:Int))) n=none:=by
 induction seen with
 | nil=>rfl
 | cons a t ih =>
  rw [List.map_cons,mget,if_neg (fun he=>h (by rw [show n=a from he.symm];exact List.mem_cons_self ..)),ih (fun h2=>h (List.mem_cons_of_mem _ h2))]
theorem zor {seen:List ByteArray} {n:ByteArray} (h:n ∉ seen):mset (seen.map fun x=>(x,(1:Int))) n 1=(seen++[n]).map fun x=>(x,(1:Int)):=by
 induction seen with
 | nil=>rfl
 | cons a t ih =>
  rw [List.map_cons,mset,if_neg (fun he=>h (by rw [show n=a from he.symm];exact List.mem_cons_self ..)),ih (fun h2=>h (List.mem_cons_of_mem _ h2))]
  rfl
theorem zfz (l:List (ByteArray × Int)) (n:ByteArray) (v:Int):mget (mset l n v) n=some v:=by
 rw [zbx,if_pos rfl]
section
def zcv (seen:List ByteArray) (n:ByteArray):Bool:=seen.all fun y=>!decide (y=n)
theorem freshB_iff {seen:List ByteArray} {n:ByteArray}:zcv seen n=true↔n ∉ seen:=by
 unfold zcv
 rw [List.all_eq_true]
 constructor
 ·intro h hm
  have:=h n hm
  simp at this
 ·intro h y hy
  rw [Bool.not_eq_true',decide_eq_false_iff_not]
  rintro rfl;exact h hy
def RowIn {α:Type} (w:World) (A:Option Addr) (L:List α) (f:α→List Value) (k:Nat):Prop:=∀ i x,L[i]?=some x→∃ b,A=some ⟨b,0,none⟩∧∀ j v,(f x)[j]?=some v→w.cell? ⟨b,i*k+j,none⟩=some v
theorem RowIn.of_row {α:Type} {w:World} {A:Option Addr} {cap n t k:Nat} {L:List α} {f:α→List Value} (hf:∀ x,(f x).length=k) (hk:0<k) (h:Res.ok w (.row A cap n t k (L.flatMap f))):RowIn w A L f k:=by
 intro i x hx
 have h0:0<(f x).length:=by rw [hf];exact hk
 obtain ⟨b,rfl,_⟩:=zaQ h (zem hf hx (List.getElem?_eq_getElem h0))
 refine⟨b,rfl,fun j v hj=>?_⟩
 obtain ⟨b',e,hc⟩:=zaQ h (zem hf hx hj)
 injection e with e;injection e with e;subst e
 exact hc
theorem zmb {cx:Cx} (ht:TabOk cx.P cx.tab) {m:Mem} {t i k b:Nat} {ti:TyI} {fs:List (Nat × Nat)} {vs:List Value} (hs:¬ cx.S b) (hi:cx.tab.get t=some ti) (hk:ti.kind=.struct fs) (hc:ti.cells=k) (hl:vs.length=k) (h:∀ j v,vs[j]?=some v→cx.w0.cell? ⟨b,i*k+j,none⟩=some v) :
  Ld cx m t (.pointer (pl (some ⟨b,0,none⟩) (mulC (Int.toNat (i:Int)) k))) (.agg vs.toArray):=by
 have e:pl (some ⟨b,0,none⟩) (mulC (Int.toNat (i:Int)) k)=some ⟨b,i*k,none⟩:=by
  rw [zcp,Int.toNat_natCast]
  show some (Addr.mk b (0+i*k) none)=_
  rw [Nat.zero_add]
 rw [e]
 exact ldFN ht (fun j v hj=>by rw [Addr.add_lit];exact h j v hj) hs hi hk (by rw [hl,hc])
attribute [local irreducible] Br Rn RnU Cl RdG CpG Ld Rd Lp Dr Oth Cut fin Fits Eng.Enters Md NA
theorem zdi {α:Type} {f:α→List UInt8} {k:Nat}:∀ {L:List α},(∀ x∈L,(f x).length≤k)→(L.flatMap f).length≤L.length*k
 | [],_=>by simp
 | x::r,h=>by
  have h1:=h x (List.mem_cons_self ..)
  have h2:=zdi (L:=r) (fun y hy=>h y (List.mem_cons_of_mem _ hy))
  rw [List.flatMap_cons,List.length_append,List.length_cons,Nat.add_mul]
  omega
theorem zck {x:Snp} {bits:Int} (h:zh1 x bits=true):x.name.size≤64∧(0≤x.l1∧x.l1≤268435456)∧(0≤x.l1len∧x.l1len≤1048576)∧(0≤x.size∧x.size≤67108864):=by
 unfold zh1 zcN at h
 simp only [Bool.and_eq_true,Bool.or_eq_true,decide_eq_true_eq,plB_iff] at h
 omega
theorem zeB (x:Snp):(zal x).length=21+x.name.size:=by
 unfold zal
 simp only [List.length_append,zad,Array.length_toList]
 have:x.name.data.size=x.name.size:=rfl
 omega
def zbX (bits:Int):List ByteArray→List Snp→Bool
 | _,[]=>true
 | seen,x::r=>zh1 x bits&&zcv seen x.name&&zbX bits (seen++[x.name]) r
theorem zdg {bits:Int}:∀ {seen:List ByteArray} {L:List Snp},zbX bits seen L=true→∀ x∈L,zh1 x bits=true
 | _,[],_,x,hx=>by cases hx
 | seen,y::r,h,x,hx=>by
  rw [zbX] at h
  simp only [Bool.and_eq_true] at h
  rcases List.mem_cons.1 hx with rfl|hx
  ·exact h.1.1
  ·exact zdg h.2 x hx
def zb2 (bits:Int) (L:List Snp):Except Int (List UInt8):=if zbX bits [] L then (if 64<L.length then .error 3 else .ok (L.flatMap zal)) else .error 2
def zlg (R:Except Int (List UInt8)) (e:Ending) (m':Mem):Prop :=
 (∃ n,R=.error n∧n≠0∧e=.returned (.tuple #[.slice none 0 0,.int .i64 n])∧m'=[]) ∨
 ∃ bs A c,R=.ok bs∧e=.returned (.tuple #[.slice A bs.length c,.int .i64 0])∧m'=[BR8 A c bs.length bs]
theorem zf3:Eng.Enters Tryz.prog 178:=zab fun _ _=>by kernel_rfl
theorem zj8:Eng.Enters Tryz.prog 177:=zab fun _ _=>by kernel_rfl
theorem zj7:Eng.Enters Tryz.prog 140:=zab fun _ _=>by kernel_rfl
theorem zjp (x:Snp) (w:World):Calls Tryz.prog 178 #[.agg x.cells.toArray] w fun e w'=>e=.returned (.string x.name)∧Fr (fun _=>False) w w':=by
 refine enter (cx:=CX 5 [] w) [(0,.agg x.cells.toArray)] zaa Tryz.func178 rfl rfl rfl rfl (MemOk.nil w _) ?_
 refine gGw ?_;(repeat ((first|refine .mk fun Ap capp=>?_|intro _);(conv=>whnf);refine gG0 ?_))
 exact fin1 rfl rfl (fun w' hm=>⟨rfl,hm.fr⟩)
set_option maxHeartbeats 4000000 in
theorem zpe (bits:Int) (L:List Snp) (lA:Option Addr) (lc:Nat) (w:World) (hb:9≤bits∧bits≤16) (hL:L.length≤100000) (hrow:RowIn w lA L Snp.cells 4) :
  Ctr Tryz.prog 177 [.int .i64 bits,.int .i64 64,.slice lA L.length lc,.func (.func 178) #[] #[],.func (.func 179) #[] #[],.func (.func 180) #[] #[]] [] (zlg (zb2 bits L)) w:=by
 refine enter (cx:=CXS 70 [] w (Foot [])) [(0,.int .i64 bits),(1,.int .i64 64),(2,.slice lA L.length lc),(3,.func (.func 178) #[] #[]),(4,.func (.func 179) #[] #[]),(5,.func (.func 180) #[] #[])] zaa Tryz.func177 rfl rfl rfl rfl (MemOk.nil w _) ?_
 generalize hR:zb2 bits L=R
 unfold zb2 at hR
 refine gGw ?_
 refine br_f (by rw [decide_eq_false (by omega),decide_eq_false (by omega)];rfl) ?_
 refine gGw ?_;(repeat ((first|refine .mk fun Ap capp=>?_|intro _);(conv=>whnf);refine gG0 ?_))
 rename_i mB
 refine lp zaa (γ:=Nat × Array MapEntry × Nat) (fun g=>g.1≤L.length∧MapIs Value.string (Value.int .i64) g.2.1 g.2.2 (((L.take g.1).map (·.name)).map fun x=>(x,(1:Int)))∧zbX bits [] L=zbX bits ((L.take g.1).map (·.name)) (L.drop g.1))
  (fun g=>[(29,.int .i64 (g.1:Int)),(28,.int .i64 (L.length:Int)),(27,.slice lA L.length lc),(14,.map (some mB)),(0,.int .i64 bits),(1,.int .i64 64),(2,.slice lA L.length lc),(3,.func (.func 178) #[] #[]),(4,.func (.func 179) #[] #[]),(5,.func (.func 180) #[] #[]),(15,.slice none 0 0)])
  (fun g=>[.blk mB (.map g.2.1 g.2.2)]) (fun g=>L.length-g.1) (0,#[],0) ⟨Nat.zero_le _,MapIs.nil _ _,rfl⟩ ⟨rfl,rfl,rfl,rfl,rfl,rfl,rfl,rfl,rfl,rfl,rfl,trivial⟩ (SubM.refl _ _) ?_
 rintro ⟨i,es,ck⟩ ⟨hi,hM,hG⟩
 simp only at hi hM hG
 dsimp only
 conv=>whnf
 refine br_d (fun hlt=>?_) (fun hge=>?_)
 ·have hi':i<L.length:=by omega
  have hpi:=List.getElem?_eq_getElem hi'
  have hdrop:L.drop i=L[i]::L.drop (i+1):=List.drop_eq_getElem_cons hi'
  have htake:(L.take (i+1)).map (·.name)=(L.take i).map (·.name)++[L[i].name]:=by rw [List.take_succ_eq_append_getElem hi',List.map_append];rfl
  obtain ⟨b,hbA,hcell⟩:=hrow i _ hpi
  generalize L[i]=x at hpi hdrop htake hcell
  rw [hdrop,zbX] at hG
  generalize (L.take i).map (·.name)=seen at hM hG htake
  refine gGw ?_
  rw [hbA]
  refine And.intro ⟨by omega,by omega,Pl.mk _ _⟩ ?_
  conv=>whnf
  refine zai (zmb (k:=4) zaa (zam _) rfl rfl rfl rfl hcell) ?_
  refine gGw ?_;(repeat ((first|refine .mk fun Ap capp=>?_|intro _);(conv=>whnf);refine gG0 ?_))
  refine⟨zf3,zae _ (fun w' _=>zjp x w') ?_⟩
  refine gGw ?_
  refine zaC zgI zjn (0:Int) zbE (by repeat constructor) hM x.name ?_
  have hk:(mget (seen.map fun y=>(y,(1:Int))) x.name).getD 0=1-(if zcv seen x.name then 1 else 0):=by
   by_cases hf:x.name∈seen
   ·rw [zrI hf,if_neg (fun h=>freshB_iff.1 h hf)];rfl
   ·rw [zos hf,if_pos (freshB_iff.2 hf)];rfl
  have hk2:0≤(1:Int)-(if zcv seen x.name then 1 else 0)∧(1:Int)-(if zcv seen x.name then 1 else 0)≤1:=by split<;>omega
  refine gGw ?_
  rw [hk]
  refine zbG (enc:=Value.string) (encV:=Value.int .i64) zgI zjn (by repeat constructor) hM x.name ((1:Int)-(if zcv seen x.name then 1 else 0)+1) (fun es2 ck2 hM2=>⟨_,(by repeat constructor),?_⟩)
  refine gGw ?_
  refine⟨zlo,zae _ (fun w' _=>zqT x bits w' hb) ?_⟩
  refine gGw ?_
  refine br_n (br (fun hmay=>?_) (fun hmay=>?_))
  rotate_left
  ·rw [hmay,Bool.false_and,Bool.false_and] at hG
   rw [hG,if_neg (by decide)] at hR
   refine gGw ?_
   refine br_t rfl ?_
   refine gGw ?_
   exact fin2 rfl rfl rfl (fun w' hm=>⟨_,.inl ⟨2,hR.symm,by decide,rfl,rfl⟩,hm.sublist (List.nil_sublist _)⟩)
  rw [hmay,Bool.true_and] at hG
  refine gGw ?_
  refine⟨zf3,zae _ (fun w' _=>zjp x w') ?_⟩
  refine gGw ?_
  refine zaC zgI zjn (0:Int) zbE (by repeat constructor) hM2 x.name ?_
  rw [zfz,Option.getD_some]
  refine gGw ?_
  by_cases hfr:zcv seen x.name=true
  rotate_left
  ·rw [if_neg hfr]
   rw [Bool.eq_false_iff.2 hfr,Bool.false_and] at hG
   rw [hG,if_neg (by decide)] at hR
   refine br_t (by decide) ?_
   refine gGw ?_
   exact fin2 rfl rfl rfl (fun w' hm=>⟨_,.inl ⟨2,hR.symm,by decide,rfl,rfl⟩,hm.sublist (List.nil_sublist _)⟩)
  rw [if_pos hfr] at hM2 ⊢
  rw [hfr,Bool.true_and,← htake] at hG
  have hM3:=zor (freshB_iff.1 hfr)
  rw [← htake] at hM3
  rw [show (1:Int)-1+1=1 from by decide,hM3] at hM2
  refine br_f (by decide) ?_
  refine gGw ?_
  exact⟨(i+1,es2,ck2),⟨by show i+1≤L.length;omega,hM2,hG⟩,by show L.length-(i+1)<L.length-i;omega,⟨rfl,rfl,rfl,rfl,rfl,rfl,rfl,rfl,rfl,rfl,rfl,trivial⟩,SubM.sl⟩
 ·obtain rfl:i=L.length:=by omega
  rw [List.drop_length,zbX] at hG
  rw [if_pos hG] at hR
  have hall:=zdg hG
  refine gGw ?_
  refine br_d (fun h64=>?_) (fun h64=>?_)
  ·rw [if_pos (by omega)] at hR
   refine gGw ?_
   exact fin2 rfl rfl rfl (fun w' hm=>⟨_,.inl ⟨3,hR.symm,by decide,rfl,rfl⟩,hm.sublist (List.nil_sublist _)⟩)
  rw [if_neg (by omega)] at hR
  refine gGw ?_
  refine lp zaa (γ:=Nat × Option Addr × Nat) (fun g=>g.1≤L.length)
   (fun g=>[(59,.int .i64 (g.1:Int)),(58,.int .i64 (L.length:Int)),(57,.slice lA L.length lc),(15,.slice g.2.1 ((L.take g.1).flatMap zal).length g.2.2),(5,.func (.func 180) #[] #[])])
   (fun g=>[BR8 g.2.1 g.2.2 ((L.take g.1).flatMap zal).length ((L.take g.1).flatMap zal)]) (fun g=>L.length-g.1) (0,none,0) (Nat.zero_le _) ⟨rfl,rfl,rfl,rfl,rfl,trivial⟩ (SubM.row0 SubM.sl _ _) ?_
  rintro ⟨i,A,c⟩ hi
  simp only at hi
  dsimp only
  conv=>whnf
  refine br_d (fun hlt=>?_) (fun hge=>?_)
  ·have hi':i<L.length:=by omega
   have hpi:=List.getElem?_eq_getElem hi'
   have htake:(L.take (i+1)).flatMap zal=(L.take i).flatMap zal++zal L[i]:=by rw [List.take_succ_eq_append_getElem hi',List.flatMap_append];simp
   obtain ⟨b,hbA,hcell⟩:=hrow i _ hpi
   have hx:=hall _ (List.getElem_mem hi')
   have hlen:=zdi (L:=L.take i) (f:=zal) (k:=100) (fun y hy=>by have hy2:=(zck (hall y (List.mem_of_mem_take hy))).1;rw [zeB];omega)
   have hti:(L.take i).length*100≤64*100:=Nat.mul_le_mul_right _ (by rw [List.length_take];omega)
   generalize L[i]=x at hpi htake hcell hx
   have hxl:=zeB x
   have hxn:=(zck hx).1
   generalize (L.take i).flatMap zal=pre at htake hlen
   refine gGw ?_
   rw [hbA]
   refine And.intro ⟨by omega,by omega,Pl.mk _ _⟩ ?_
   conv=>whnf
   refine zai (zmb (k:=4) zaa (zam _) rfl rfl rfl rfl hcell) ?_
   refine gGw ?_;(repeat ((first|refine .mk fun Ap capp=>?_|intro _);(conv=>whnf);refine gG0 ?_))
   refine⟨zj9,zac (m1:=[]) .nil (fun w' _=>zpf x w' (zck hx).1 (zck hx).2.1 (zck hx).2.2.1 (zck hx).2.2.2) ?_⟩
   rintro e m' ⟨B,cB,rfl,rfl⟩
   conv=>whnf
   refine zeh (k:=.u8) (ys:=zag (zal x)) (zaf _) zaa rfl rfl rfl rfl rfl rfl (by repeat constructor) (fun w' hm'=>rowI (hm'.ok (BR8 B cB (zal x).length (zal x)) (by simp))) (by omega) (fun A1 c1=>?_)
   refine gGw ?_
   have el:(pre++zal x).length=pre.length+(zal x).length:=List.length_append
   have en:(zag (pre++zal x)).map (Value.int .u8)=(zag pre).map (.int .u8)++(zag (zal x)).map (.int .u8):=by unfold zag;simp
   refine⟨(i+1,A1,c1),by show i+1≤L.length;omega,by show L.length-(i+1)<L.length-i;omega,⟨rfl,rfl,rfl,?_,rfl,trivial⟩,?_⟩
   ·show some _=some _
    simp only [htake,el]
   ·show SubM _ _ [.row A1 c1 ((L.take (i+1)).flatMap zal).length 5 1 ((zag ((L.take (i+1)).flatMap zal)).map (.int .u8))]
    rw [htake,el,en]
    exact SubM.sl
  ·obtain rfl:i=L.length:=by omega
   rw [List.take_length] at *
   refine gGw ?_
   exact fin2 rfl rfl rfl (fun w' hm=>⟨_,.inr ⟨_,A,c,hR.symm,rfl,rfl⟩,hm.sl⟩)
theorem zpd (bits:Int) (L:List Snp) (lA:Option Addr) (lc:Nat) (w:World) (hb:9≤bits∧bits≤16) (hL:L.length≤100000) (hrow:RowIn w lA L Snp.cells 4) :
  Ctr Tryz.prog 140 [.int .i64 bits,.slice lA L.length lc] [] (zlg (zb2 bits L)) w:=by
 refine enter (cx:=CXS 11 [] w (Foot [])) [(0,.int .i64 bits),(1,.slice lA L.length lc)] zaa Tryz.func140 rfl rfl rfl rfl (MemOk.nil w _) ?_
 refine gGw ?_
 refine⟨zj8,zac (m1:=[]) .nil (fun w' hm'=>zpe bits L lA lc w' hb hL (fun i x hx=>?_)) ?_⟩
 ·obtain ⟨b,hb2,hc⟩:=hrow i x hx
  exact⟨b,hb2,fun j v hj=>hm'.far (hc j v hj) (zam _)⟩
 rintro e m' (⟨n,hn,hn0,rfl,rfl⟩|⟨bs,A,c,hn,rfl,rfl⟩)
 ·refine gGw ?_
  exact fin2 rfl rfl rfl (fun w' hm=>⟨_,.inl ⟨n,hn,hn0,rfl,rfl⟩,hm⟩)
 ·refine gGw ?_
  exact fin2 rfl rfl rfl (fun w' hm=>⟨_,.inr ⟨bs,A,c,hn,rfl,rfl⟩,hm.sl⟩)
theorem zf2:Eng.Enters Tryz.prog 139:=zab fun _ _=>by kernel_rfl
theorem zjo (bits:Int) (L:List Snp) (lA:Option Addr) (lc bB:Nat) (w:World) (hb:9≤bits∧bits≤16) (hL:L.length≤100000) (hrow:RowIn w lA L Snp.cells 4) (hc:w.cell? ⟨bB,0,none⟩=some (.int .i64 bits)) :
  Ctr Tryz.prog 139 [.slice lA L.length lc,.pointer (some ⟨bB,0,none⟩)] [] (zlg (zb2 bits L)) w:=by
 refine enter (cx:=CXS 10 [] w (Foot [])) [(0,.slice lA L.length lc),(1,.pointer (some ⟨bB,0,none⟩))] zaa Tryz.func139 rfl rfl rfl rfl (MemOk.nil w _) ?_
 refine gGw ?_
 refine zai (ldF zaa hc (zam _) rfl rfl) ?_
 refine gGw ?_
 refine⟨zj7,zac (m1:=[]) .nil (fun w' hm'=>zpd bits L lA lc w' hb hL (fun i x hx=>?_)) ?_⟩
 ·obtain ⟨b,hb2,hc⟩:=hrow i x hx
  exact⟨b,hb2,fun j v hj=>hm'.far (hc j v hj) (zam _)⟩
 rintro e m' (⟨n,hn,hn0,rfl,rfl⟩|⟨bs,A,c,hn,rfl,rfl⟩)
 ·refine gGw ?_
  exact fin2 rfl rfl rfl (fun w' hm=>⟨_,.inl ⟨n,hn,hn0,rfl,rfl⟩,hm⟩)
 ·refine gGw ?_
  exact fin2 rfl rfl rfl (fun w' hm=>⟨_,.inr ⟨bs,A,c,hn,rfl,rfl⟩,hm.sl⟩)
theorem zcW {x:Rwp} {bits:Int} (h:rowB x bits=true):x.name.size≤64∧(0≤x.gran∧x.gran≤31)∧(0≤x.flags∧x.flags≤3)∧(0≤x.at_∧x.at_≤268435456)∧(0≤x.len∧x.len≤16777216):=by
 unfold rowB zcN at h
 simp only [Bool.and_eq_true,Bool.or_eq_true,decide_eq_true_eq,plB_iff] at h
 omega
theorem zeD (x:Rwp):(zaj x).length=15+x.name.size:=by
 unfold zaj
 simp only [List.length_append,zad,Array.length_toList]
 have:x.name.data.size=x.name.size:=rfl
 omega
def zbY (bits:Int):List ByteArray→List Rwp→Bool
 | _,[]=>true
 | seen,x::r=>rowB x bits&&zcv seen x.name&&zbY bits (seen++[x.name]) r
theorem zdh {bits:Int}:∀ {seen:List ByteArray} {L:List Rwp},zbY bits seen L=true→∀ x∈L,rowB x bits=true
 | _,[],_,x,hx=>by cases hx
 | seen,y::r,h,x,hx=>by
  rw [zbY] at h
  simp only [Bool.and_eq_true] at h
  rcases List.mem_cons.1 hx with rfl|hx
  ·exact h.1.1
  ·exact zdh h.2 x hx
def zb3 (bits:Int) (L:List Rwp):Except Int (List UInt8):=if zbY bits [] L then (if 64<L.length then .error 3 else .ok (L.flatMap zaj)) else .error 2
def zlh (R:Except Int (List UInt8)) (e:Ending) (m':Mem):Prop :=
 (∃ n,R=.error n∧n≠0∧e=.returned (.tuple #[.slice none 0 0,.int .i64 n])∧m'=[]) ∨
 ∃ bs A c,R=.ok bs∧e=.returned (.tuple #[.slice A bs.length c,.int .i64 0])∧m'=[BR8 A c bs.length bs]
theorem zhf:Eng.Enters Tryz.prog 182:=zab fun _ _=>by kernel_rfl
theorem zlr:Eng.Enters Tryz.prog 181:=zab fun _ _=>by kernel_rfl
theorem zlp:Eng.Enters Tryz.prog 144:=zab fun _ _=>by kernel_rfl
theorem zls (x:Rwp) (w:World):Calls Tryz.prog 182 #[.agg x.cells.toArray] w fun e w'=>e=.returned (.string x.name)∧Fr (fun _=>False) w w':=by
 refine enter (cx:=CX 5 [] w) [(0,.agg x.cells.toArray)] zaa Tryz.func182 rfl rfl rfl rfl (MemOk.nil w _) ?_
 refine gGw ?_;(repeat ((first|refine .mk fun Ap capp=>?_|intro _);(conv=>whnf);refine gG0 ?_))
 exact fin1 rfl rfl (fun w' hm=>⟨rfl,hm.fr⟩)
set_option maxHeartbeats 4000000 in
theorem zqV (bits:Int) (L:List Rwp) (lA:Option Addr) (lc:Nat) (w:World) (hb:9≤bits∧bits≤16) (hL:L.length≤100000) (hrow:RowIn w lA L Rwp.cells 5) :
  Ctr Tryz.prog 181 [.int .i64 bits,.int .i64 64,.slice lA L.length lc,.func (.func 182) #[] #[],.func (.func 183) #[] #[],.func (.func 184) #[] #[]] [] (zlh (zb3 bits L)) w:=by
 refine enter (cx:=CXS 70 [] w (Foot [])) [(0,.int .i64 bits),(1,.int .i64 64),(2,.slice lA L.length lc),(3,.func (.func 182) #[] #[]),(4,.func (.func 183) #[] #[]),(5,.func (.func 184) #[] #[])] zaa Tryz.func181 rfl rfl rfl rfl (MemOk.nil w _) ?_
 generalize hR:zb3 bits L=R
 unfold zb3 at hR
 refine gGw ?_
 refine br_f (by rw [decide_eq_false (by omega),decide_eq_false (by omega)];rfl) ?_
 refine gGw ?_;(repeat ((first|refine .mk fun Ap capp=>?_|intro _);(conv=>whnf);refine gG0 ?_))
 rename_i mB
 refine lp zaa (γ:=Nat × Array MapEntry × Nat) (fun g=>g.1≤L.length∧MapIs Value.string (Value.int .i64) g.2.1 g.2.2 (((L.take g.1).map (·.name)).map fun x=>(x,(1:Int)))∧zbY bits [] L=zbY bits ((L.take g.1).map (·.name)) (L.drop g.1))
  (fun g=>[(29,.int .i64 (g.1:Int)),(28,.int .i64 (L.length:Int)),(27,.slice lA L.length lc),(14,.map (some mB)),(0,.int .i64 bits),(1,.int .i64 64),(2,.slice lA L.length lc),(3,.func (.func 182) #[] #[]),(4,.func (.func 183) #[] #[]),(5,.func (.func 184) #[] #[]),(15,.slice none 0 0)])
  (fun g=>[.blk mB (.map g.2.1 g.2.2)]) (fun g=>L.length-g.1) (0,#[],0) ⟨Nat.zero_le _,MapIs.nil _ _,rfl⟩ ⟨rfl,rfl,rfl,rfl,rfl,rfl,rfl,rfl,rfl,rfl,rfl,trivial⟩ (SubM.refl _ _) ?_
 rintro ⟨i,es,ck⟩ ⟨hi,hM,hG⟩
 simp only at hi hM hG
 dsimp only
 conv=>whnf
 refine br_d (fun hlt=>?_) (fun hge=>?_)
 ·have hi':i<L.length:=by omega
  have hpi:=List.getElem?_eq_getElem hi'
  have hdrop:L.drop i=L[i]::L.drop (i+1):=List.drop_eq_getElem_cons hi'
  have htake:(L.take (i+1)).map (·.name)=(L.take i).map (·.name)++[L[i].name]:=by rw [List.take_succ_eq_append_getElem hi',List.map_append];rfl
  obtain ⟨b,hbA,hcell⟩:=hrow i _ hpi
  generalize L[i]=x at hpi hdrop htake hcell
  rw [hdrop,zbY] at hG
  generalize (L.take i).map (·.name)=seen at hM hG htake
  refine gGw ?_
  rw [hbA]
  refine And.intro ⟨by omega,by omega,Pl.mk _ _⟩ ?_
  conv=>whnf
  refine zai (zmb (k:=5) zaa (zam _) rfl rfl rfl rfl hcell) ?_
  refine gGw ?_;(repeat ((first|refine .mk fun Ap capp=>?_|intro _);(conv=>whnf);refine gG0 ?_))
  refine⟨zhf,zae _ (fun w' _=>zls x w') ?_⟩
  refine gGw ?_
  refine zaC zgI zjn (0:Int) zbE (by repeat constructor) hM x.name ?_
  have hk:(mget (seen.map fun y=>(y,(1:Int))) x.name).getD 0=1-(if zcv seen x.name then 1 else 0):=by
   by_cases hf:x.name∈seen
   ·rw [zrI hf,if_neg (fun h=>freshB_iff.1 h hf)];rfl
   ·rw [zos hf,if_pos (freshB_iff.2 hf)];rfl
  have hk2:0≤(1:Int)-(if zcv seen x.name then 1 else 0)∧(1:Int)-(if zcv seen x.name then 1 else 0)≤1:=by split<;>omega
  refine gGw ?_
  rw [hk]
  refine zbG (enc:=Value.string) (encV:=Value.int .i64) zgI zjn (by repeat constructor) hM x.name ((1:Int)-(if zcv seen x.name then 1 else 0)+1) (fun es2 ck2 hM2=>⟨_,(by repeat constructor),?_⟩)
  refine gGw ?_
  refine⟨zmH,zae _ (fun w' _=>ztZ x bits w' hb) ?_⟩
  refine gGw ?_
  refine br_n (br (fun hmay=>?_) (fun hmay=>?_))
  rotate_left
  ·rw [hmay,Bool.false_and,Bool.false_and] at hG
   rw [hG,if_neg (by decide)] at hR
   refine gGw ?_
   refine br_t rfl ?_
   refine gGw ?_
   exact fin2 rfl rfl rfl (fun w' hm=>⟨_,.inl ⟨2,hR.symm,by decide,rfl,rfl⟩,hm.sublist (List.nil_sublist _)⟩)
  rw [hmay,Bool.true_and] at hG
  refine gGw ?_
  refine⟨zhf,zae _ (fun w' _=>zls x w') ?_⟩
  refine gGw ?_
  refine zaC zgI zjn (0:Int) zbE (by repeat constructor) hM2 x.name ?_
  rw [zfz,Option.getD_some]
  refine gGw ?_
  by_cases hfr:zcv seen x.name=true
  rotate_left
  ·rw [if_neg hfr]
   rw [Bool.eq_false_iff.2 hfr,Bool.false_and] at hG
   rw [hG,if_neg (by decide)] at hR
   refine br_t (by decide) ?_
   refine gGw ?_
   exact fin2 rfl rfl rfl (fun w' hm=>⟨_,.inl ⟨2,hR.symm,by decide,rfl,rfl⟩,hm.sublist (List.nil_sublist _)⟩)
  rw [if_pos hfr] at hM2 ⊢
  rw [hfr,Bool.true_and,← htake] at hG
  have hM3:=zor (freshB_iff.1 hfr)
  rw [← htake] at hM3
  rw [show (1:Int)-1+1=1 from by decide,hM3] at hM2
  refine br_f (by decide) ?_
  refine gGw ?_
  exact⟨(i+1,es2,ck2),⟨by show i+1≤L.length;omega,hM2,hG⟩,by show L.length-(i+1)<L.length-i;omega,⟨rfl,rfl,rfl,rfl,rfl,rfl,rfl,rfl,rfl,rfl,rfl,trivial⟩,SubM.sl⟩
 ·obtain rfl:i=L.length:=by omega
  rw [List.drop_length,zbY] at hG
  rw [if_pos hG] at hR
  have hall:=zdh hG
  refine gGw ?_
  refine br_d (fun h64=>?_) (fun h64=>?_)
  ·rw [if_pos (by omega)] at hR
   refine gGw ?_
   exact fin2 rfl rfl rfl (fun w' hm=>⟨_,.inl ⟨3,hR.symm,by decide,rfl,rfl⟩,hm.sublist (List.nil_sublist _)⟩)
  rw [if_neg (by omega)] at hR
  refine gGw ?_
  refine lp zaa (γ:=Nat × Option Addr × Nat) (fun g=>g.1≤L.length)
   (fun g=>[(59,.int .i64 (g.1:Int)),(58,.int .i64 (L.length:Int)),(57,.slice lA L.length lc),(15,.slice g.2.1 ((L.take g.1).flatMap zaj).length g.2.2),(5,.func (.func 184) #[] #[])])
   (fun g=>[BR8 g.2.1 g.2.2 ((L.take g.1).flatMap zaj).length ((L.take g.1).flatMap zaj)]) (fun g=>L.length-g.1) (0,none,0) (Nat.zero_le _) ⟨rfl,rfl,rfl,rfl,rfl,trivial⟩ (SubM.row0 SubM.sl _ _) ?_
  rintro ⟨i,A,c⟩ hi
  simp only at hi
  dsimp only
  conv=>whnf
  refine br_d (fun hlt=>?_) (fun hge=>?_)
  ·have hi':i<L.length:=by omega
   have hpi:=List.getElem?_eq_getElem hi'
   have htake:(L.take (i+1)).flatMap zaj=(L.take i).flatMap zaj++zaj L[i]:=by rw [List.take_succ_eq_append_getElem hi',List.flatMap_append];simp
   obtain ⟨b,hbA,hcell⟩:=hrow i _ hpi
   have hx:=hall _ (List.getElem_mem hi')
   have hlen:=zdi (L:=L.take i) (f:=zaj) (k:=100) (fun y hy=>by have hy2:=(zcW (hall y (List.mem_of_mem_take hy))).1;rw [zeD];omega)
   have hti:(L.take i).length*100≤64*100:=Nat.mul_le_mul_right _ (by rw [List.length_take];omega)
   generalize L[i]=x at hpi htake hcell hx
   have hxl:=zeD x
   have hxn:=(zcW hx).1
   generalize (L.take i).flatMap zaj=pre at htake hlen
   refine gGw ?_
   rw [hbA]
   refine And.intro ⟨by omega,by omega,Pl.mk _ _⟩ ?_
   conv=>whnf
   refine zai (zmb (k:=5) zaa (zam _) rfl rfl rfl rfl hcell) ?_
   refine gGw ?_;(repeat ((first|refine .mk fun Ap capp=>?_|intro _);(conv=>whnf);refine gG0 ?_))
   refine⟨zlt,zac (m1:=[]) .nil (fun w' _=>zqW x w' (zcW hx).1 (zcW hx).2.1 (zcW hx).2.2.1 (zcW hx).2.2.2.1 (zcW hx).2.2.2.2) ?_⟩
   rintro e m' ⟨B,cB,rfl,rfl⟩
   conv=>whnf
   refine zeh (k:=.u8) (ys:=zag (zaj x)) (zaf _) zaa rfl rfl rfl rfl rfl rfl (by repeat constructor) (fun w' hm'=>rowI (hm'.ok (BR8 B cB (zaj x).length (zaj x)) (by simp))) (by omega) (fun A1 c1=>?_)
   refine gGw ?_
   have el:(pre++zaj x).length=pre.length+(zaj x).length:=List.length_append
   have en:(zag (pre++zaj x)).map (Value.int .u8)=(zag pre).map (.int .u8)++(zag (zaj x)).map (.int .u8):=by unfold zag;simp
   refine⟨(i+1,A1,c1),by show i+1≤L.length;omega,by show L.length-(i+1)<L.length-i;omega,⟨rfl,rfl,rfl,?_,rfl,trivial⟩,?_⟩
   ·show some _=some _
    simp only [htake,el]
   ·show SubM _ _ [.row A1 c1 ((L.take (i+1)).flatMap zaj).length 5 1 ((zag ((L.take (i+1)).flatMap zaj)).map (.int .u8))]
    rw [htake,el,en]
    exact SubM.sl
  ·obtain rfl:i=L.length:=by omega
   rw [List.take_length] at *
   refine gGw ?_
   exact fin2 rfl rfl rfl (fun w' hm=>⟨_,.inr ⟨_,A,c,hR.symm,rfl,rfl⟩,hm.sl⟩)
theorem zqU (bits:Int) (L:List Rwp) (lA:Option Addr) (lc:Nat) (w:World) (hb:9≤bits∧bits≤16) (hL:L.length≤100000) (hrow:RowIn w lA L Rwp.cells 5) :
  Ctr Tryz.prog 144 [.int .i64 bits,.slice lA L.length lc] [] (zlh (zb3 bits L)) w:=by
 refine enter (cx:=CXS 11 [] w (Foot [])) [(0,.int .i64 bits),(1,.slice lA L.length lc)] zaa Tryz.func144 rfl rfl rfl rfl (MemOk.nil w _) ?_
 refine gGw ?_
 refine⟨zlr,zac (m1:=[]) .nil (fun w' hm'=>zqV bits L lA lc w' hb hL (fun i x hx=>?_)) ?_⟩
 ·obtain ⟨b,hb2,hc⟩:=hrow i x hx
  exact⟨b,hb2,fun j v hj=>hm'.far (hc j v hj) (zam _)⟩
 rintro e m' (⟨n,hn,hn0,rfl,rfl⟩|⟨bs,A,c,hn,rfl,rfl⟩)
 ·refine gGw ?_
  exact fin2 rfl rfl rfl (fun w' hm=>⟨_,.inl ⟨n,hn,hn0,rfl,rfl⟩,hm⟩)
 ·refine gGw ?_
  exact fin2 rfl rfl rfl (fun w' hm=>⟨_,.inr ⟨bs,A,c,hn,rfl,rfl⟩,hm.sl⟩)
theorem zhe:Eng.Enters Tryz.prog 143:=zab fun _ _=>by kernel_rfl
theorem zlq (bits:Int) (L:List Rwp) (lA:Option Addr) (lc bB:Nat) (w:World) (hb:9≤bits∧bits≤16) (hL:L.length≤100000) (hrow:RowIn w lA L Rwp.cells 5) (hc:w.cell? ⟨bB,0,none⟩=some (.int .i64 bits)) :
  Ctr Tryz.prog 143 [.slice lA L.length lc,.pointer (some ⟨bB,0,none⟩)] [] (zlh (zb3 bits L)) w:=by
 refine enter (cx:=CXS 10 [] w (Foot [])) [(0,.slice lA L.length lc),(1,.pointer (some ⟨bB,0,none⟩))] zaa Tryz.func143 rfl rfl rfl rfl (MemOk.nil w _) ?_
 refine gGw ?_
 refine zai (ldF zaa hc (zam _) rfl rfl) ?_
 refine gGw ?_
 refine⟨zlp,zac (m1:=[]) .nil (fun w' hm'=>zqU bits L lA lc w' hb hL (fun i x hx=>?_)) ?_⟩
 ·obtain ⟨b,hb2,hc⟩:=hrow i x hx
  exact⟨b,hb2,fun j v hj=>hm'.far (hc j v hj) (zam _)⟩
 rintro e m' (⟨n,hn,hn0,rfl,rfl⟩|⟨bs,A,c,hn,rfl,rfl⟩)
 ·refine gGw ?_
  exact fin2 rfl rfl rfl (fun w' hm=>⟨_,.inl ⟨n,hn,hn0,rfl,rfl⟩,hm⟩)
 ·refine gGw ?_
  exact fin2 rfl rfl rfl (fun w' hm=>⟨_,.inr ⟨bs,A,c,hn,rfl,rfl⟩,hm.sl⟩)
end
section
def zb4 (s:ByteArray):List UInt8:=UInt8.ofNat (s.size%256)::s.data.toList
attribute [local irreducible] Br Rn RnU Cl RdG CpG Ld Rd Lp Dr Oth Cut fin Fits Eng.Enters Md NA
theorem zid:Eng.Enters Tryz.prog 190:=zab fun _ _=>by kernel_rfl
theorem zob (s:ByteArray) (w:World) (hs:s.size≤255) :
  Ctr Tryz.prog 190 [.string s] [] (fun e m'=>∃ A c,e=.returned (.slice A (1+s.size) c)∧m'=[BR8 A c (1+s.size) (zb4 s)]) w:=by
 refine enter (cx:=CXS 9 [] w (Foot [])) [(0,.string s)] zaa Tryz.func190 rfl rfl rfl rfl (MemOk.nil w _) ?_
 refine gGw ?_;(repeat ((first|refine .mk fun Ap capp=>?_|intro _);(conv=>whnf);refine gG0 ?_))
 rename_i bB
 refine zfQ (m1:=[BR8 (some ⟨bB,0,none⟩) 1 1 [UInt8.ofNat (s.size%256)]]) (subq (m1:=[.blk bB (.cells [Value.int .u8 (s.size:Int)].toArray 5)]) (by kernel_rfl) ?_) ?_
 ·have e8:(s.size:Int)=((UInt8.ofNat (s.size%256)).toNat:Int):=by rw [UInt8.toNat_ofNat'];omega
  rw [e8]
  exact SubM.torow (by repeat constructor) rfl rfl
 refine zii rfl (by repeat constructor) (by omega) (fun A1 c1=>?_)
 rw [zee,← zde]
 refine gGw ?_
 exact fin1 rfl rfl (fun w' hm=>⟨_,⟨A1,c1,rfl,rfl⟩,hm⟩)
theorem zgd:Eng.Enters Tryz.prog 157:=zab fun _ _=>by kernel_rfl
theorem zjv (l c n:Nat) (A:Option Addr) (w:World) (hA:A=none∨Pl A) (hc:l≤c) (hn:n≤l) :
  Calls Tryz.prog 157 #[.slice A l c,.int .i64 (n:Int)] w fun e w'=>e=.returned (.tuple #[.slice A n c,.slice (cutA A c n 1) (l-n) (c-n),.bool true])∧Fr (fun _=>False) w w':=by
 refine enter (cx:=CX 17 [] w) [(0,.slice A l c),(1,.int .i64 (n:Int))] zaa Tryz.func157 rfl rfl rfl rfl (MemOk.nil w _) ?_
 refine gGw ?_
 refine br_f (decide_eq_false (by omega)) ?_
 refine gGw ?_
 refine zao zaa mixed (by kernel_rfl) rfl ?_;conv=>whnf
 refine gG0 ?_
 refine And.intro ⟨by omega,by omega,by omega,hA⟩ ?_
 refine gGw ?_
 refine And.intro ⟨by omega,by omega,by omega,hA⟩ ?_
 refine gGw ?_
 refine fin3 rfl rfl rfl rfl (fun w' hm=>⟨?_,hm.fr⟩)
 have e1:(l:Int).toNat-(n:Int).toNat=l-n:=by omega
 have e2:(n:Int).toNat-(0:Int).toNat=n:=by omega
 show Ending.returned (.tuple #[.slice (cutA A c (0:Int).toNat 1) ((n:Int).toNat-(0:Int).toNat) (c-(0:Int).toNat),.slice (cutA A c (n:Int).toNat 1) ((l:Int).toNat-(n:Int).toNat) (c-(n:Int).toNat),.bool true])=_
 have e3:cutA A c 0 1=A:=by
  unfold cutA
  split
  ·rfl
  ·rcases hA with rfl|⟨b,o,rfl⟩<;>rfl
 rw [e1,e2]
 show Ending.returned (.tuple #[.slice (cutA A c 0 1) n c,.slice (cutA A c n 1) (l-n) (c-n),.bool true])=_
 rw [e3]
theorem zpr (x:Snp):zal x=zb4 x.name++leB x.l1.toNat 8++leB x.l1len.toNat 4++leB x.size.toNat 8:=by
 unfold zal zb4
 rw [Int.toNat_natCast]
 simp [leB]
end
section
attribute [local irreducible] Br Rn RnU Cl RdG CpG Ld Rd Lp Dr Oth Cut fin Fits Eng.Enters Md NA
theorem zi6:Eng.Enters Tryz.prog 159:=zab fun _ _=>by kernel_rfl
set_option maxHeartbeats 2000000 in
theorem zmZ (bits:Int) (L:List Snp) (lA:Option Addr) (lc:Nat) (w:World) (hb:9≤bits∧bits≤16) (hL:L.length≤1000) (hrow:RowIn w lA L Snp.cells 4) (hnm:∀ x∈L,x.name.size≤255) :
  Ctr Tryz.prog 159 [.int .i64 bits,.slice lA L.length lc] [] (zlg (zb2 bits L)) w:=by
 refine enter (cx:=CXS 83 [] w (Foot [])) [(0,.int .i64 bits),(1,.slice lA L.length lc)] zaa Tryz.func159 rfl rfl rfl rfl (MemOk.nil w _) ?_
 generalize hR:zb2 bits L=R
 unfold zb2 at hR
 refine gGw ?_
 refine br_f (by rw [decide_eq_false (by omega),decide_eq_false (by omega)];rfl) ?_
 refine gGw ?_
 refine lp zaa (γ:=Nat × Option Addr × Nat) (fun g=>g.1≤L.length∧zbX bits [] L=zbX bits ((L.take g.1).map (·.name)) (L.drop g.1)∧((L.take g.1).flatMap zal).length≤300*g.1)
  (fun g=>[(7,.int .i64 (g.1:Int)),(6,.slice g.2.1 ((L.take g.1).flatMap zal).length g.2.2),(0,.int .i64 bits),(1,.slice lA L.length lc)])
  (fun g=>[BR8 g.2.1 g.2.2 ((L.take g.1).flatMap zal).length ((L.take g.1).flatMap zal)]) (fun g=>L.length-g.1) (0,none,0) ⟨Nat.zero_le _,rfl,Nat.zero_le _⟩ ⟨rfl,rfl,rfl,rfl,trivial⟩ (SubM.row0 SubM.sl _ _) ?_
 rintro ⟨i,A,c⟩ ⟨hi,hG,hlen⟩
 simp only at hi hG hlen
 dsimp only
 conv=>whnf
 refine br_d (fun hlt=>?_) (fun hge=>?_)
 ·have hi':i<L.length:=by omega
  have hpi:=List.getElem?_eq_getElem hi'
  have hdrop:L.drop i=L[i]::L.drop (i+1):=List.drop_eq_getElem_cons hi'
  have htake:L.take (i+1)=L.take i++[L[i]]:=List.take_succ_eq_append_getElem hi'
  have hxn:=hnm _ (List.getElem_mem hi')
  obtain ⟨b,hbA,hcell⟩:=hrow i _ hpi
  generalize L[i]=x at hpi hdrop htake hcell hxn
  rw [hdrop,zbX] at hG
  refine gGw ?_
  subst hbA
  refine And.intro ⟨by omega,by omega,Pl.mk _ _⟩ ?_
  conv=>whnf
  refine zai (zmb (k:=4) zaa (zam _) rfl rfl rfl rfl hcell) ?_
  refine gGw ?_
  refine⟨zkn,zae _ (fun w' _=>zpC x bits w' hb (by omega)) ?_⟩
  cases hs:zh1 x bits with
  | false =>
   have hno:zbX bits [] L=false:=by rw [hG,hs];rfl
   rw [hno] at hR
   subst hR
   refine gGw ?_
   refine br_n (br_f rfl ?_)
   refine gGw ?_
   exact fin2 rfl rfl rfl (fun w' hm=>⟨_,.inl ⟨2,rfl,by decide,rfl,rfl⟩,hm.sublist (List.nil_sublist _)⟩)
  | true =>
   rw [hs,Bool.true_and] at hG
   refine gGw ?_
   refine br_n (br_t rfl ?_)
   refine gGw ?_
   refine lp zaa (γ:=Nat) (fun k=>k≤i∧∀ j y,j<k→L[j]?=some y→y.name≠x.name) (fun k=>[(8,.int .i64 (k:Int)),(7,.int .i64 (i:Int)),(6,.slice A ((L.take i).flatMap zal).length c),(0,.int .i64 bits),(1,.slice (some ⟨b,0,none⟩) L.length lc)])
    (fun _=>[BR8 A c ((L.take i).flatMap zal).length ((L.take i).flatMap zal)]) (fun k=>i-k) 0 ⟨Nat.zero_le _,fun j y hj=>absurd hj (Nat.not_lt_zero _)⟩ ⟨rfl,rfl,rfl,rfl,rfl,trivial⟩ SubM.sl ?_
   rintro k ⟨hk,hkn⟩
   dsimp only
   refine gGw ?_
   refine br_d (fun hk2=>?_) (fun hk2=>?_)
   ·have hk':k<L.length:=by omega
    have hpk:=List.getElem?_eq_getElem hk'
    obtain ⟨b',hb',hcell'⟩:=hrow k _ hpk
    injection hb' with hb';injection hb' with hb';subst hb'
    generalize L[k]=y at hpk hcell'
    conv=>whnf
    refine zao zaa mixed (by kernel_rfl) rfl ?_;conv=>whnf
    refine gG0 ?_
    refine And.intro ⟨by omega,by omega,Pl.mk _ _⟩ ?_
    refine gGw ?_
    refine⟨.string y.name,Ld.g (ldF (a:=⟨b,0+k*4+0,none⟩) zaa (by rw [Nat.zero_add];exact hcell' 0 _ rfl) (zam _) rfl rfl),?_⟩
    refine gGw ?_
    refine And.intro ⟨by omega,by omega,Pl.mk _ _⟩ ?_
    refine gGw ?_
    refine⟨.string x.name,Ld.g (ldF (a:=⟨b,0+i*4+0,none⟩) zaa (by rw [Nat.zero_add];exact hcell 0 _ rfl) (zam _) rfl rfl),?_⟩
    refine gGw ?_
    refine br_d (fun he=>?_) (fun he=>?_)
    ·have hno:zbX bits [] L=false:=by
      rw [hG]
      have hf:zcv ((L.take i).map (·.name)) x.name=false:=by
       rw [Bool.eq_false_iff]
       intro h
       exact freshB_iff.1 h (List.mem_map.2 ⟨y,List.mem_of_getElem? (i:=k) (by rw [List.getElem?_take,if_pos (by omega)];exact hpk),he⟩)
      rw [hf];rfl
     rw [hno] at hR
     subst hR
     refine gGw ?_
     exact fin2 rfl rfl rfl (fun w' hm=>⟨_,.inl ⟨2,rfl,by decide,rfl,rfl⟩,hm.sublist (List.nil_sublist _)⟩)
    ·refine gGw ?_
     refine⟨k+1,⟨by omega,fun j z hj hz=>?_⟩,by omega,⟨rfl,rfl,rfl,rfl,rfl,trivial⟩,SubM.refl _ _⟩
     rcases Nat.lt_succ_iff_lt_or_eq.1 hj with hj|rfl
     ·exact hkn j z hj hz
     ·rw [hpk] at hz
      injection hz with hz
      subst hz
      exact he
   ·obtain rfl:k=i:=by omega
    have hf:zcv ((L.take k).map (·.name)) x.name=true:=by
     rw [freshB_iff]
     intro h
     obtain ⟨y,hy,he⟩:=List.mem_map.1 h
     obtain ⟨j,hj,hyj⟩:=List.getElem_of_mem hy
     have hj2:j<k:=by rw [List.length_take] at hj;omega
     exact hkn j y hj2 (by rw [← hyj,List.getElem_take,List.getElem?_eq_getElem]) he
    rw [hf,Bool.true_and] at hG
    have hbd:=zck hs
    refine gGw ?_
    refine And.intro ⟨by omega,by omega,Pl.mk _ _⟩ ?_
    refine gGw ?_
    refine zai (ldF (a:=⟨b,0+k*4+0,none⟩) zaa (by rw [Nat.zero_add];exact hcell 0 _ rfl) (zam _) rfl rfl) ?_
    refine gGw ?_
    refine⟨zid,zac (m1:=[]) .nil (fun w' hm'=>zob x.name w' hxn) ?_⟩
    rintro e m' ⟨N1,d1,rfl,rfl⟩
    conv=>whnf
    refine zba (acc:=(L.take k).flatMap zal) (ys:=zb4 x.name) zaa rfl (by repeat constructor) (by repeat constructor) (by show x.name.data.toList.length+1=1+x.name.size;rw [Array.length_toList,Nat.add_comm];rfl) (by omega) (fun A1 c1=>?_)
    refine gGw ?_
    refine And.intro ⟨by omega,by omega,Pl.mk _ _⟩ ?_
    refine gGw ?_
    refine zai (ldF (a:=⟨b,0+k*4+1,none⟩) zaa (by rw [Nat.zero_add];exact hcell 1 _ rfl) (zam _) rfl rfl) ?_
    refine gGw ?_
    refine⟨zaA,zac (m1:=[]) .nil (fun w' hm'=>zcg x.l1 8 w' (by omega) (by omega)) ?_⟩
    rintro e m' ⟨N2,d2,rfl,rfl⟩
    conv=>whnf
    refine zba (acc:=(L.take k).flatMap zal++zb4 x.name) (ys:=leB x.l1.toNat 8) zaa rfl (by repeat constructor) (by repeat constructor) (zad _ _) (by omega) (fun A2 c2=>?_)
    refine gGw ?_
    refine And.intro ⟨by omega,by omega,Pl.mk _ _⟩ ?_
    refine gGw ?_
    refine zai (ldF (a:=⟨b,0+k*4+2,none⟩) zaa (by rw [Nat.zero_add];exact hcell 2 _ rfl) (zam _) rfl rfl) ?_
    refine gGw ?_
    refine⟨zaA,zac (m1:=[]) .nil (fun w' hm'=>zcg x.l1len 4 w' (by omega) (by omega)) ?_⟩
    rintro e m' ⟨N3,d3,rfl,rfl⟩
    conv=>whnf
    refine zba (acc:=(L.take k).flatMap zal++zb4 x.name++leB x.l1.toNat 8) (ys:=leB x.l1len.toNat 4) zaa rfl (by repeat constructor) (by repeat constructor) (zad _ _) (by omega) (fun A3 c3=>?_)
    refine gGw ?_
    refine And.intro ⟨by omega,by omega,Pl.mk _ _⟩ ?_
    refine gGw ?_
    refine zai (ldF (a:=⟨b,0+k*4+3,none⟩) zaa (by rw [Nat.zero_add];exact hcell 3 _ rfl) (zam _) rfl rfl) ?_
    refine gGw ?_
    refine⟨zaA,zac (m1:=[]) .nil (fun w' hm'=>zcg x.size 8 w' (by omega) (by omega)) ?_⟩
    rintro e m' ⟨N4,d4,rfl,rfl⟩
    conv=>whnf
    refine zba (acc:=(L.take k).flatMap zal++zb4 x.name++leB x.l1.toNat 8++leB x.l1len.toNat 4) (ys:=leB x.size.toNat 8) zaa rfl (by repeat constructor) (by repeat constructor) (zad _ _) (by omega) (fun A4 c4=>?_)
    refine gGw ?_
    have ebs:(L.take (k+1)).flatMap zal=(L.take k).flatMap zal++zb4 x.name++leB x.l1.toNat 8++leB x.l1len.toNat 4++leB x.size.toNat 8:=by
     rw [htake,List.flatMap_append,List.flatMap_singleton,zpr]
     simp only [List.append_assoc]
    have enl:(zb4 x.name).length=1+x.name.size:=by
     show x.name.data.toList.length+1=1+x.name.size
     rw [Array.length_toList,Nat.add_comm];rfl
    have elen:((L.take (k+1)).flatMap zal).length=((L.take k).flatMap zal).length+(1+x.name.size)+8+4+8:=by
     rw [ebs]
     simp only [List.length_append,zad,enl]
    refine⟨(k+1,A4,c4),⟨by omega,by rw [hG,htake,List.map_append];rfl,by show ((L.take (k+1)).flatMap zal).length≤300*(k+1);omega⟩,by show L.length-(k+1)<L.length-k;omega,⟨rfl,?_,rfl,rfl,trivial⟩,?_⟩
    ·show some _=some (Value.slice A4 ((L.take (k+1)).flatMap zal).length c4)
     rw [elen]
    ·show SubM _ _ [BR8 A4 c4 ((L.take (k+1)).flatMap zal).length ((L.take (k+1)).flatMap zal)]
     rw [elen,ebs]
     exact SubM.sl
 ·refine gGw ?_
  have ei:i=L.length:=by omega
  have hd:L.drop i=[]:=by rw [ei];exact List.drop_length
  have ht:L.take i=L:=by rw [ei];exact List.take_length
  rw [hd] at hG
  have hG1:zbX bits [] L=true:=by rw [hG];rfl
  rw [if_pos hG1] at hR
  rw [ht]
  rw [ht] at hlen
  refine br_d (fun hlt=>?_) (fun hle=>?_)
  ·rw [if_pos (by omega)] at hR
   subst hR
   exact fin2 rfl rfl rfl (fun w' hm=>⟨_,.inl ⟨3,rfl,by decide,rfl,rfl⟩,hm.sublist (List.nil_sublist _)⟩)
  ·rw [if_neg (by omega)] at hR
   subst hR
   exact fin2 rfl rfl rfl (fun w' hm=>⟨_,.inr ⟨_,A,c,rfl,rfl,rfl⟩,hm⟩)
end
section
attribute [local irreducible] Br Rn RnU Cl RdG CpG Ld Rd Lp Dr Oth Cut fin Fits Eng.Enters Md NA
theorem zkm:Eng.Enters Tryz.prog 160:=zab fun _ _=>by kernel_rfl
theorem zka {cx:Cx} {m m1 m2:Mem} (h:SubM cx m m1) (h':SubM cx m1 m2):SubM cx m m2:=fun w hw=>h' w (h w hw)
theorem zvu {x:Int} (h:0≤x∧x≤255):Value.int .u8 x=.int .u8 ((x.toNat.toUInt8).toNat:Int):=by
 congr 1
 show x=((UInt8.ofNat x.toNat).toNat:Int)
 rw [UInt8.toNat_ofNat']
 omega
theorem zxT {x:Int} (h:0≤x∧x≤255):leB x.toNat 1=[x.toNat.toUInt8]:=by
 show [UInt8.ofNat (x.toNat%256)]=_
 rw [Nat.mod_eq_of_lt (by omega)]
theorem zpx (x:Rwp) (h1:0≤x.gran∧x.gran≤255) (h2:0≤x.flags∧x.flags≤255):zaj x=zb4 x.name++[x.gran.toNat.toUInt8,x.flags.toNat.toUInt8]++leB x.at_.toNat 8++leB x.len.toNat 4:=by
 unfold zaj zb4
 rw [zxT h1,zxT h2,Int.toNat_natCast]
 simp [leB]
set_option maxHeartbeats 2000000 in
theorem zpB (bits:Int) (L:List Rwp) (lA:Option Addr) (lc:Nat) (w:World) (hb:9≤bits∧bits≤16) (hL:L.length≤1000) (hrow:RowIn w lA L Rwp.cells 5) (hnm:∀ x∈L,x.name.size≤255) :
  Ctr Tryz.prog 160 [.int .i64 bits,.slice lA L.length lc] [] (zlh (zb3 bits L)) w:=by
 refine enter (cx:=CXS 89 [] w (Foot [])) [(0,.int .i64 bits),(1,.slice lA L.length lc)] zaa Tryz.func160 rfl rfl rfl rfl (MemOk.nil w _) ?_
 generalize hR:zb3 bits L=R
 unfold zb3 at hR
 refine gGw ?_
 refine br_f (by rw [decide_eq_false (by omega),decide_eq_false (by omega)];rfl) ?_
 refine gGw ?_
 refine lp zaa (γ:=Nat × Option Addr × Nat) (fun g=>g.1≤L.length∧zbY bits [] L=zbY bits ((L.take g.1).map (·.name)) (L.drop g.1)∧((L.take g.1).flatMap zaj).length≤300*g.1)
  (fun g=>[(7,.int .i64 (g.1:Int)),(6,.slice g.2.1 ((L.take g.1).flatMap zaj).length g.2.2),(0,.int .i64 bits),(1,.slice lA L.length lc)])
  (fun g=>[BR8 g.2.1 g.2.2 ((L.take g.1).flatMap zaj).length ((L.take g.1).flatMap zaj)]) (fun g=>L.length-g.1) (0,none,0) ⟨Nat.zero_le _,rfl,Nat.zero_le _⟩ ⟨rfl,rfl,rfl,rfl,trivial⟩ (SubM.row0 SubM.sl _ _) ?_
 rintro ⟨i,A,c⟩ ⟨hi,hG,hlen⟩
 simp only at hi hG hlen
 dsimp only
 conv=>whnf
 refine br_d (fun hlt=>?_) (fun hge=>?_)
 ·have hi':i<L.length:=by omega
  have hpi:=List.getElem?_eq_getElem hi'
  have hdrop:L.drop i=L[i]::L.drop (i+1):=List.drop_eq_getElem_cons hi'
  have htake:L.take (i+1)=L.take i++[L[i]]:=List.take_succ_eq_append_getElem hi'
  have hxn:=hnm _ (List.getElem_mem hi')
  obtain ⟨b,hbA,hcell⟩:=hrow i _ hpi
  generalize L[i]=x at hpi hdrop htake hcell hxn
  rw [hdrop,zbY] at hG
  refine gGw ?_
  subst hbA
  refine And.intro ⟨by omega,by omega,Pl.mk _ _⟩ ?_
  conv=>whnf
  refine zai (zmb (k:=5) zaa (zam _) rfl rfl rfl rfl hcell) ?_
  refine gGw ?_
  refine⟨zko,zae _ (fun w' _=>zpD x bits w' hb (by omega)) ?_⟩
  cases hs:rowB x bits with
  | false =>
   have hno:zbY bits [] L=false:=by rw [hG,hs];rfl
   rw [hno] at hR
   subst hR
   refine gGw ?_
   refine br_n (br_f rfl ?_)
   refine gGw ?_
   exact fin2 rfl rfl rfl (fun w' hm=>⟨_,.inl ⟨2,rfl,by decide,rfl,rfl⟩,hm.sublist (List.nil_sublist _)⟩)
  | true =>
   rw [hs,Bool.true_and] at hG
   refine gGw ?_
   refine br_n (br_t rfl ?_)
   refine gGw ?_
   refine lp zaa (γ:=Nat) (fun k=>k≤i∧∀ j y,j<k→L[j]?=some y→y.name≠x.name) (fun k=>[(8,.int .i64 (k:Int)),(7,.int .i64 (i:Int)),(6,.slice A ((L.take i).flatMap zaj).length c),(0,.int .i64 bits),(1,.slice (some ⟨b,0,none⟩) L.length lc)])
    (fun _=>[BR8 A c ((L.take i).flatMap zaj).length ((L.take i).flatMap zaj)]) (fun k=>i-k) 0 ⟨Nat.zero_le _,fun j y hj=>absurd hj (Nat.not_lt_zero _)⟩ ⟨rfl,rfl,rfl,rfl,rfl,trivial⟩ SubM.sl ?_
   rintro k ⟨hk,hkn⟩
   dsimp only
   refine gGw ?_
   refine br_d (fun hk2=>?_) (fun hk2=>?_)
   ·have hk':k<L.length:=by omega
    have hpk:=List.getElem?_eq_getElem hk'
    obtain ⟨b',hb',hcell'⟩:=hrow k _ hpk
    injection hb' with hb';injection hb' with hb';subst hb'
    generalize L[k]=y at hpk hcell'
    conv=>whnf
    refine zao zaa mixed (by kernel_rfl) rfl ?_;conv=>whnf
    refine gG0 ?_
    refine And.intro ⟨by omega,by omega,Pl.mk _ _⟩ ?_
    refine gGw ?_
    refine⟨.string y.name,Ld.g (ldF (a:=⟨b,0+k*5+0,none⟩) zaa (by rw [Nat.zero_add];exact hcell' 0 _ rfl) (zam _) rfl rfl),?_⟩
    refine gGw ?_
    refine And.intro ⟨by omega,by omega,Pl.mk _ _⟩ ?_
    refine gGw ?_
    refine⟨.string x.name,Ld.g (ldF (a:=⟨b,0+i*5+0,none⟩) zaa (by rw [Nat.zero_add];exact hcell 0 _ rfl) (zam _) rfl rfl),?_⟩
    refine gGw ?_
    refine br_d (fun he=>?_) (fun he=>?_)
    ·have hno:zbY bits [] L=false:=by
      rw [hG]
      have hf:zcv ((L.take i).map (·.name)) x.name=false:=by
       rw [Bool.eq_false_iff]
       intro h
       exact freshB_iff.1 h (List.mem_map.2 ⟨y,List.mem_of_getElem? (i:=k) (by rw [List.getElem?_take,if_pos (by omega)];exact hpk),he⟩)
      rw [hf];rfl
     rw [hno] at hR
     subst hR
     refine gGw ?_
     exact fin2 rfl rfl rfl (fun w' hm=>⟨_,.inl ⟨2,rfl,by decide,rfl,rfl⟩,hm.sublist (List.nil_sublist _)⟩)
    ·refine gGw ?_
     refine⟨k+1,⟨by omega,fun j z hj hz=>?_⟩,by omega,⟨rfl,rfl,rfl,rfl,rfl,trivial⟩,SubM.refl _ _⟩
     rcases Nat.lt_succ_iff_lt_or_eq.1 hj with hj|rfl
     ·exact hkn j z hj hz
     ·rw [hpk] at hz
      injection hz with hz
      subst hz
      exact he
   ·obtain rfl:k=i:=by omega
    have hf:zcv ((L.take k).map (·.name)) x.name=true:=by
     rw [freshB_iff]
     intro h
     obtain ⟨y,hy,he⟩:=List.mem_map.1 h
     obtain ⟨j,hj,hyj⟩:=List.getElem_of_mem hy
     have hj2:j<k:=by rw [List.length_take] at hj;omega
     exact hkn j y hj2 (by rw [← hyj,List.getElem_take,List.getElem?_eq_getElem]) he
    rw [hf,Bool.true_and] at hG
    have hbd:=zcW hs
    refine gGw ?_
    refine And.intro ⟨by omega,by omega,Pl.mk _ _⟩ ?_
    refine gGw ?_
    refine zai (ldF (a:=⟨b,0+k*5+0,none⟩) zaa (by rw [Nat.zero_add];exact hcell 0 _ rfl) (zam _) rfl rfl) ?_
    refine gGw ?_
    refine⟨zid,zac (m1:=[]) .nil (fun w' hm'=>zob x.name w' hxn) ?_⟩
    rintro e m' ⟨N1,d1,rfl,rfl⟩
    conv=>whnf
    refine zba (acc:=(L.take k).flatMap zaj) (ys:=zb4 x.name) zaa rfl (by repeat constructor) (by repeat constructor) (by show x.name.data.toList.length+1=1+x.name.size;rw [Array.length_toList,Nat.add_comm];rfl) (by omega) (fun A1 c1=>?_)
    refine gGw ?_
    refine zcb (γ:=Option Addr × Nat) (Tr.hs [0,1,2,3,4,5,6,7,8,9,10,11,12] (.sq [13,14] (.hs [15] .done))) [] zaa mixed (by kernel_rfl) rfl (fun _=>True)
     (fun g=>[(7,.int .i64 (k:Int)),(6,.slice g.1 (((L.take k).flatMap zaj).length+(1+x.name.size)+2) g.2),(0,.int .i64 bits),(1,.slice (some ⟨b,0,none⟩) L.length lc)])
     (fun g=>[BR8 g.1 g.2 (((L.take k).flatMap zaj).length+(1+x.name.size)+2) ((L.take k).flatMap zaj++zb4 x.name++[x.gran.toNat.toUInt8,x.flags.toNat.toUInt8])]) SubM.sl ?_ ?_
    ·refine gGw ?_
     refine And.intro ⟨by omega,by omega,Pl.mk _ _⟩ ?_
     refine gGw ?_
     refine⟨.int .i64 x.gran,Ld.g (ldF (a:=⟨b,0+k*5+1,none⟩) zaa (by rw [Nat.zero_add];exact hcell 1 _ rfl) (zam _) rfl rfl),?_⟩
     refine gGw ?_
     refine And.intro ⟨by omega,by omega,Pl.mk _ _⟩ ?_
     refine gGw ?_
     refine⟨.int .i64 x.flags,Ld.g (ldF (a:=⟨b,0+k*5+2,none⟩) zaa (by rw [Nat.zero_add];exact hcell 2 _ rfl) (zam _) rfl rfl),?_⟩
     refine gGw ?_;(repeat ((first|refine .mk fun Ap capp=>?_|intro _);(conv=>whnf);refine gG0 ?_))
     have en:(zag ((L.take k).flatMap zaj++zb4 x.name++[x.gran.toNat.toUInt8,x.flags.toNat.toUInt8])).map (Value.int .u8)=(zag ((L.take k).flatMap zaj++zb4 x.name)).map (Value.int .u8)++[.int .u8 x.gran,.int .u8 x.flags]:=by
      rw [zde,zvu (x:=x.gran) (by omega),zvu (x:=x.flags) (by omega)];rfl
     refine⟨(Ap,capp),trivial,⟨rfl,rfl,rfl,rfl,trivial⟩,?_⟩
     show SubM _ _ [Res.row Ap capp _ _ _ ((zag ((L.take k).flatMap zaj++zb4 x.name++[x.gran.toNat.toUInt8,x.flags.toNat.toUInt8])).map (Value.int .u8))]
     rw [en]
     exact SubM.sl
    rintro ⟨A2,c2⟩ _
    simp only
    have eap:((L.take k).flatMap zaj++zb4 x.name++[x.gran.toNat.toUInt8,x.flags.toNat.toUInt8]).length=((L.take k).flatMap zaj).length+(1+x.name.size)+2:=by
     have enl:(zb4 x.name).length=1+x.name.size:=by
      show x.name.data.toList.length+1=1+x.name.size
      rw [Array.length_toList,Nat.add_comm];rfl
     rw [List.length_append,List.length_append,enl];rfl
    refine gGw ?_
    refine And.intro ⟨by omega,by omega,Pl.mk _ _⟩ ?_
    refine gGw ?_
    refine zai (ldF (a:=⟨b,0+k*5+3,none⟩) zaa (by rw [Nat.zero_add];exact hcell 3 _ rfl) (zam _) rfl rfl) ?_
    refine gGw ?_
    refine⟨zaA,zac (m1:=[]) .nil (fun w' hm'=>zcg x.at_ 8 w' (by omega) (by omega)) ?_⟩
    rintro e m' ⟨N2,d2,rfl,rfl⟩
    conv=>whnf
    refine zba (acc:=(L.take k).flatMap zaj++zb4 x.name++[x.gran.toNat.toUInt8,x.flags.toNat.toUInt8]) (ys:=leB x.at_.toNat 8) zaa rfl (by repeat constructor) (by repeat constructor) (zad _ _) (by omega) (fun A3 c3=>?_)
    refine gGw ?_
    refine And.intro ⟨by omega,by omega,Pl.mk _ _⟩ ?_
    refine gGw ?_
    refine zai (ldF (a:=⟨b,0+k*5+4,none⟩) zaa (by rw [Nat.zero_add];exact hcell 4 _ rfl) (zam _) rfl rfl) ?_
    refine gGw ?_
    refine⟨zaA,zac (m1:=[]) .nil (fun w' hm'=>zcg x.len 4 w' (by omega) (by omega)) ?_⟩
    rintro e m' ⟨N3,d3,rfl,rfl⟩
    conv=>whnf
    refine zba (acc:=(L.take k).flatMap zaj++zb4 x.name++[x.gran.toNat.toUInt8,x.flags.toNat.toUInt8]++leB x.at_.toNat 8) (ys:=leB x.len.toNat 4) zaa rfl (by repeat constructor) (by repeat constructor) (zad _ _) (by omega) (fun A4 c4=>?_)
    refine gGw ?_
    have ebs:(L.take (k+1)).flatMap zaj=(L.take k).flatMap zaj++zb4 x.name++[x.gran.toNat.toUInt8,x.flags.toNat.toUInt8]++leB x.at_.toNat 8++leB x.len.toNat 4:=by
     rw [htake,List.flatMap_append,List.flatMap_singleton,zpx x (by omega) (by omega)]
     simp only [List.append_assoc]
    have elen:((L.take (k+1)).flatMap zaj).length=((L.take k).flatMap zaj).length+(1+x.name.size)+2+8+4:=by
     rw [ebs,List.length_append,List.length_append,zad,zad,eap]
    refine⟨(k+1,A4,c4),⟨by omega,by rw [hG,htake,List.map_append];rfl,by show ((L.take (k+1)).flatMap zaj).length≤300*(k+1);omega⟩,by show L.length-(k+1)<L.length-k;omega,⟨rfl,?_,rfl,rfl,trivial⟩,?_⟩
    ·show some _=some (Value.slice A4 ((L.take (k+1)).flatMap zaj).length c4)
     rw [elen]
    ·show SubM _ _ [BR8 A4 c4 ((L.take (k+1)).flatMap zaj).length ((L.take (k+1)).flatMap zaj)]
     rw [elen,ebs]
     exact SubM.sl
 ·refine gGw ?_
  have ei:i=L.length:=by omega
  have hd:L.drop i=[]:=by rw [ei];exact List.drop_length
  have ht:L.take i=L:=by rw [ei];exact List.take_length
  rw [hd] at hG
  have hG1:zbY bits [] L=true:=by rw [hG];rfl
  rw [if_pos hG1] at hR
  rw [ht]
  rw [ht] at hlen
  refine br_d (fun hlt=>?_) (fun hle=>?_)
  ·rw [if_pos (by omega)] at hR
   subst hR
   exact fin2 rfl rfl rfl (fun w' hm=>⟨_,.inl ⟨3,rfl,by decide,rfl,rfl⟩,hm.sublist (List.nil_sublist _)⟩)
  ·rw [if_neg (by omega)] at hR
   subst hR
   exact fin2 rfl rfl rfl (fun w' hm=>⟨_,.inr ⟨_,A,c,rfl,rfl,rfl⟩,hm⟩)
end
section
structure Rr where
 bs:List UInt8
 A:Option Addr
 c:Nat
 B:Nat
def RrM (q:Rr) (a:Nat) (ok:Bool):Mem:=[.blk q.B (.cells [.slice q.A q.bs.length q.c,.int .i64 (a:Int),.bool ok].toArray 270)]
def numV (bs:List UInt8) (a n:Nat):Int:=IntKind.i64.wrap ((getF bs a n).1:Int)
def numK (bs:List UInt8) (a n:Nat) (ok:Bool):Bool:=ok&&(decide ((getF bs a n).2=0)&&decide ((getF bs a n).1<4611686018427387904))
theorem zcY {bs:List UInt8} {a n:Nat} {ok:Bool} (h:numK bs a n ok=true):ok=true∧(getF bs a n).2=0∧numV bs a n=((getF bs a n).1:Int)∧0≤numV bs a n∧numV bs a n<4611686018427387904:=by
 unfold numK at h
 simp only [Bool.and_eq_true,decide_eq_true_eq] at h
 have:numV bs a n=((getF bs a n).1:Int):=by unfold numV;rw [IntKind.wrap_i64];omega
 refine⟨h.1,h.2.1,this,by omega,by omega⟩
theorem zwQ {bs:List UInt8} {a:Nat} {ok:Bool} (h:numK bs a 1 ok=true):a+1≤bs.length∧numV bs a 1<256:=by
 obtain ⟨_,h2,h3,_,_⟩:=zcY h
 rw [h3]
 unfold getF at h2 ⊢
 rw [if_neg (by omega)] at h2 ⊢
 split at h2
 ·rename_i hl
  rw [if_pos hl]
  have h1:=liesB_iff.1 hl
  refine⟨by omega,?_⟩
  have:=zjG ((bs.drop a).take 1)
  have h4:((bs.drop a).take 1).length=1:=by rw [List.length_take,List.length_drop];omega
  rw [h4] at this
  show ((leV ((bs.drop a).take 1):Nat):Int)<256
  omega
 ·simp at h2
def zbT (bs:List UInt8) (a:Nat) (ok:Bool):ByteArray × Nat × Bool :=
 if numK bs a 1 ok=true∧numV bs a 1≤(bs.length:Int)-((a:Int)+1) then (Str ((bs.drop (a+1)).take (numV bs a 1).toNat),a+1+(numV bs a 1).toNat,true) else (Str [],a+1,false)
attribute [local irreducible] Br Rn RnU Cl RdG CpG Ld Rd Lp Dr Oth Cut fin Fits Eng.Enters Md NA
theorem zbF:Eng.Enters Tryz.prog 176:=zab fun _ _=>by kernel_rfl
theorem zhh:Eng.Enters Tryz.prog 175:=zab fun _ _=>by kernel_rfl
theorem zdu (q:Rr) (a n:Nat) (ok:Bool) (w:World) (hb:Stb (RrM q a ok) w (fun w=>BytsIn w q.A q.bs)) (hl:q.bs.length≤20000000) (ha:a≤40000000) (hn:1≤n∧n≤8) (hm:MemOk w (Foot (RrM q a ok)) (RrM q a ok) w) :
  Ctr Tryz.prog 176 [.pointer (some ⟨q.B,0,none⟩),.int .i64 (n:Int)] (RrM q a ok) (fun e m'=>e=.returned (.int .i64 (numV q.bs a n))∧m'=RrM q (a+n) (numK q.bs a n ok)) w:=by
 refine enter (cx:=CXS 45 [44] w (Foot (RrM q a ok))) [(0,.pointer (some ⟨q.B,0,none⟩)),(1,.int .i64 (n:Int))] zaa Tryz.func176 rfl rfl rfl rfl hm ?_
 refine gGw ?_
 refine za5 (γ:=Unit) (Tr.hs [0,1,2,3,4,5,6,7,8] (.sq [9] (.hs [10,11,12,13,14] .done))) (RrM q a ok) zaa mixed (by kernel_rfl) rfl (fun _=>True)
  (fun _=>[(5,.int .u64 ((getF q.bs a n).1:Int)),(6,.int .i64 (getF q.bs a n).2),(0,.pointer (some ⟨q.B,0,none⟩)),(1,.int .i64 (n:Int))]) (fun _=>RrM q a ok) SubM.sl ?_ ?_
 ·refine gGw ?_
  refine⟨zfj,zae _ (fun w' hm'=>zkV q.bs q.A q.c a n w' (hb w' hm'.fr) (by omega) (by omega)) ?_⟩
  refine gGt ?_
  exact⟨(),trivial,⟨rfl,rfl,rfl,rfl,trivial⟩,SubM.sl⟩
 ·rintro - -
  refine gGw ?_
  refine fin1 rfl rfl (fun w' hm=>⟨_,⟨rfl,rfl⟩,?_⟩)
  have e:numK q.bs a n ok=(ok&&decide ((getF q.bs a n).2=0)&&decide (((getF q.bs a n).1:Int)<4611686018427387904)):=by
   rw [numK,Bool.and_assoc,decide_eq_decide.2 (show (getF q.bs a n).1<4611686018427387904↔((getF q.bs a n).1:Int)<4611686018427387904 by omega)]
  unfold RrM
  rw [e,show ((a+n:Nat):Int)=(a:Int)+(n:Int) by omega]
  exact hm
theorem zlV (q:Rr) (a:Nat) (ok:Bool) (w:World) (hb:Stb (RrM q a ok) w (fun w=>BytsIn w q.A q.bs)) (hl:q.bs.length≤20000000) (hc:q.bs.length≤q.c) (ha:a≤40000000) (hm:MemOk w (Foot (RrM q a ok)) (RrM q a ok) w) :
  Ctr Tryz.prog 175 [.pointer (some ⟨q.B,0,none⟩)] (RrM q a ok) (fun e m'=>e=.returned (.string (zbT q.bs a ok).1)∧m'=RrM q (zbT q.bs a ok).2.1 (zbT q.bs a ok).2.2) w:=by
 refine enter (cx:=CXS 54 [] w (Foot (RrM q a ok))) [(0,.pointer (some ⟨q.B,0,none⟩))] zaa Tryz.func175 rfl rfl rfl rfl hm ?_
 refine gGw ?_
 refine⟨zbF,zac (m1:=RrM q a ok) (by repeat constructor) (fun w' hm'=>zdu q a 1 ok w' (fun w2 hf=>hb w2 (hm'.fr.trans hf)) hl ha ⟨by omega,by omega⟩ hm'.part) ?_⟩
 rintro e m' ⟨rfl,rfl⟩
 have hkk:=fun h=>zcY (bs:=q.bs) (a:=a) (n:=1) (ok:=ok) h
 have hin:=fun h=>zwQ (bs:=q.bs) (a:=a) (ok:=ok) h
 have hvr:-9223372036854775808≤numV q.bs a 1∧numV q.bs a 1≤9223372036854775807:=by unfold numV;rw [IntKind.wrap_i64];omega
 unfold zbT
 generalize numK q.bs a 1 ok=k at hkk hin ⊢
 generalize numV q.bs a 1=v at hkk hin hvr ⊢
 refine gGw ?_
 refine zao zaa mixed (by kernel_rfl) rfl ?_
 refine gGw ?_
 refine And.intro (fun _=>zaB (by omega)) ?_
 refine gGw ?_
 refine br (fun hbad=>?_) (fun hgood=>?_)
 ·refine gGw ?_
  refine fin1 rfl rfl (fun w' hm=>⟨_,⟨?_,?_⟩,hm⟩)
  ·rw [if_neg ?_]
   rintro ⟨rfl,h2⟩
   rw [Bool.not_true,Bool.false_or,decide_eq_true_eq] at hbad
   omega
  ·rw [if_neg ?_]
   ·rfl
   rintro ⟨rfl,h2⟩
   rw [Bool.not_true,Bool.false_or,decide_eq_true_eq] at hbad
   omega
 ·simp only [Bool.or_eq_false_iff,Bool.not_eq_false',decide_eq_false_iff_not] at hgood
  obtain ⟨rfl,hle⟩:=hgood
  obtain ⟨ha1,hv⟩:=hin rfl
  obtain ⟨rfl,-,-,hv0,-⟩:=hkk rfl
  rw [if_pos ⟨rfl,by omega⟩]
  obtain ⟨n,rfl⟩:∃ n:Nat,v=(n:Int):=⟨v.toNat,by omega⟩
  rw [Int.toNat_natCast]
  refine gGw ?_
  refine zao zaa mixed (by kernel_rfl) rfl ?_
  refine gGw ?_
  have hpl:Pl q.A:=(Stb.byts (cx:=CXS 54 [] w (Foot (RrM q a true))) (m:=[]) hb rfl).plain (by omega)
  refine And.intro ⟨by omega,by omega,by omega,.inr hpl⟩ ?_
  conv=>whnf
  have hvl:((q.bs.drop (a+1)).take n).length=n:=by rw [List.length_take,List.length_drop];omega
  rw [show (((a+1:Nat):Int)+(n:Int)).toNat-((a+1:Nat):Int).toNat=((q.bs.drop (a+1)).take n).length by omega,show ((a+1:Nat):Int).toNat=a+1 by omega]
  refine⟨_,rdg fun _=>zcy (bs:=(q.bs.drop (a+1)).take n) zaa rfl rfl rfl rfl rfl rfl (Stb.byts (cx:=CXS 54 [] w (Foot (RrM q a true))) (m0:=RrM q a true) (fun w' hf=>BytsIn.sub (hb w' hf) q.c (a+1) n (by omega) hc) rfl) _,?_⟩
  refine gGw ?_
  refine fin1 rfl rfl (fun w' hm=>⟨_,⟨rfl,rfl⟩,?_⟩)
  unfold RrM
  rw [show ((a+1+n:Nat):Int)=((a+1:Nat):Int)+(n:Int) by omega]
  exact hm
end
end Go.Proofs.YtlmgelmloddfgaaGreat
