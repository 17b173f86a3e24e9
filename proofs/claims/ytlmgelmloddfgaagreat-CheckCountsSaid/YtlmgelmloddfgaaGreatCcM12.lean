/- Part of a proof: contracts of the functions that the law reaches. No statement of the seat is proved here. -/
import Derived.Test.YtlmgelmloddfgaaGreatCcM11
import Derived.Test.YtlmgelmloddfgaaGreatShelf
set_option linter.unusedVariables false
set_option linter.unusedSimpArgs false
set_option linter.unusedSectionVars false
set_option maxRecDepth 100000
namespace Go.Proofs.YtlmgelmloddfgaaGreat
open Go Go.RowKit Eng
section
def zn6:List Nat:=[0,16,21,23,25,27,29,31,33,35,37,39,41,43]
structure BRd (A:Option Addr) (n c:Nat) (nm:ByteArray) (rB:Nat) (e:Env):Prop where
 sl:∀ s∈zn6,e.get s=some (.slice A n c)
 fl:e.get 19=some (.slice (cutA A c 8 1) 8 (c-8))
 nm:e.get 49=some (.string nm)
 rb:e.get 2=some (.pointer (some ⟨rB,0,none⟩))
 ok:e.get 3=some (.bool false)
def zx2 (d:Nat):Bool:=(zn6++[19,49,2,3]).all fun s=>!(d == s)
theorem BRd.put {A:Option Addr} {n c:Nat} {nm:ByteArray} {rB:Nat} {e:Env} (h:BRd A n c nm rB e) {d:Nat} (hd:zx2 d=true) (v:Value):BRd A n c nm rB ((d,v)::e):=by
 have hne:∀ s∈zn6++[19,49,2,3],d≠s:=fun s hs he=>by
  unfold zx2 at hd
  rw [List.all_eq_true] at hd
  have:=hd s hs
  rw [he] at this
  simp at this
 refine⟨fun s hs=>?_,?_,?_,?_,?_⟩<;>rw [Env.get_cons]
 ·rw [if_neg (hne s (List.mem_append_left _ hs))];exact h.sl s hs
 ·rw [if_neg (hne 19 (by decide))];exact h.fl
 ·rw [if_neg (hne 49 (by decide))];exact h.nm
 ·rw [if_neg (hne 2 (by decide))];exact h.rb
 ·rw [if_neg (hne 3 (by decide))];exact h.ok
theorem zqH {cx:Cx} {d:Option Nat} {f ty:Nat} {args:Array Operand} {tys:Array TypeId} {e:Env} {m:Mem} {K:Value→Mem→Prop} {KP:List PanicEntry→Mem→Prop} {vs:List Value} (hvs:Env.evs e args.toList=some vs) (h:Eng.Enters cx.P f∧Cl cx m f vs K KP) :
  XO cx d (.call ⟨.value (.func f),args,tys⟩) ty e m K KP:=by
 show (match Env.ev e (.func f),Env.evs e args.toList with
  | some (.func (.func g) f' c'),some us=>Eng.Enters cx.P g∧Cl cx m g (f'.toList++us++c'.toList) K KP
  | _,_=>False)
 rw [hvs]
 simpa [Env.ev] using h
def csR (bs:List UInt8):List CS:=[(1,17,.int .i64 (numR (getV bs 4 4))),(4,20,.int .u64 (getV bs 8 8:Nat)),(6,22,.int .i64 (numR (getV bs 16 8))),(8,24,.int .i64 (numR (getV bs 24 8))),(10,26,.int .i64 (numR (getV bs 32 4))),(12,28,.int .i64 (numR (getV bs 36 4))),(14,30,.int .i64 (numR (getV bs 40 8))),(16,32,.int .i64 (numR (getV bs 48 4))),(18,34,.int .i64 (numR (getV bs 52 4))),(20,36,.int .i64 (numR (getV bs 56 8))),(22,38,.int .i64 (numR (getV bs 64 4))),(24,40,.int .i64 (numR (getV bs 68 4))),(26,42,.int .i64 (numR (getV bs 72 8))),(28,44,.int .i64 (numR (getV bs 80 4)))]
section
variable {bs:List UInt8} {A:Option Addr} {c:Nat} {nm:ByteArray} {rB:Nat} {w:World} {ops:List Oper} {kp:List PanicEntry→Mem→Prop}
theorem zaK {i d s at_ n ty:Nat} {tys:Array TypeId} {pos:String} {af:Array Edge} {Base:Env→Mem→Prop} (hF:∀ w',Fr (fun _=>False) w w'→BytsIn w' A bs) (hl:bs.length≤20000000) (hc:bs.length≤c) (h1:at_+n≤bs.length) (hn:1≤n∧n≤8)
  (hi:nth ops i=some ⟨some d,.call ⟨.value (.func 33),#[.tmp s,.const (.int .i64 (at_:Int)),.const (.int .i64 (n:Int))],tys⟩,ty,pos,af,none⟩)
  (hs:∀ e m,Base e m→e.get s=some (.slice A bs.length c)) (hst:∀ e m v,Base e m→Base ((d,v)::e) m):zqB (CX 66 [] w) ops kp Base (i,d,.int .i64 (numR (getV bs at_ n))):=by
 refine⟨⟨_,hi,rfl,rfl,fun e m K hB hK=>?_⟩,fun e m hB=>hst e m _ hB⟩
 refine zqH (vs:=[.slice A bs.length c,.int .i64 (at_:Int),.int .i64 (n:Int)]) ?_ ⟨zfu,zae _ (fun w' hm'=>zif bs A c at_ n w' (hF w' hm'.fr) hl hc h1 hn) hK⟩
 show Env.evs e [.tmp s,.const (.int .i64 (at_:Int)),.const (.int .i64 (n:Int))]=_
 simp only [Env.evs,Env.ev,hs e m hB]
theorem znV {i d s ty:Nat} {tys:Array TypeId} {pos:String} {af:Array Edge} {Base:Env→Mem→Prop} (hF:∀ w',Fr (fun _=>False) w w'→BytsIn w' A bs) (hc:bs.length≤c) (h1:8+8≤bs.length)
  (hi:nth ops i=some ⟨some d,.call ⟨.value (.func 34),#[.tmp s],tys⟩,ty,pos,af,none⟩)
  (hs:∀ e m,Base e m→e.get s=some (.slice (cutA A c 8 1) 8 (c-8))) (hst:∀ e m v,Base e m→Base ((d,v)::e) m):zqB (CX 66 [] w) ops kp Base (i,d,.int .u64 (getV bs 8 8:Nat)):=by
 refine⟨⟨_,hi,rfl,rfl,fun e m K hB hK=>?_⟩,fun e m hB=>hst e m _ hB⟩
 refine zqH (vs:=[.slice (cutA A c 8 1) 8 (c-8)]) ?_ ⟨zef,zae _ (fun w' hm'=>zum bs A c 8 8 w' (hF w' hm'.fr) hc h1 (by omega)) hK⟩
 show Env.evs e [.tmp s]=_
 simp only [Env.evs,Env.ev,hs e m hB]
theorem zuo {e:Env} (hB:BRd A bs.length c nm rB e) (hG:Got (csR bs) e):popV (CX 66 [] w) (some 50) (.build 34 #[(0,.tmp 17),(1,.tmp 20),(2,.tmp 22),(3,.tmp 24),(4,.tmp 26),(5,.tmp 28),(6,.tmp 30),(7,.tmp 32),(8,.tmp 34),(9,.tmp 36),(10,.tmp 38),(11,.tmp 40),(12,.tmp 42),(13,.tmp 44),(14,.tmp 49)]) e=some (.agg (hdR bs nm).cells.toArray,none):=by
 unfold Got csR at hG
 simp only [List.mem_cons,List.not_mem_nil,or_false,forall_eq_or_imp,forall_eq] at hG
 obtain ⟨g0,g1,g2,g3,g4,g5,g6,g7,g8,g9,g10,g11,g12,g13⟩:=hG
 have hps:zdJ e [(0,.tmp 17),(1,.tmp 20),(2,.tmp 22),(3,.tmp 24),(4,.tmp 26),(5,.tmp 28),(6,.tmp 30),(7,.tmp 32),(8,.tmp 34),(9,.tmp 36),(10,.tmp 38),(11,.tmp 40),(12,.tmp 42),(13,.tmp 44),(14,.tmp 49)]=some [(0,.int .i64 (numR (getV bs 4 4))),(1,.int .u64 (getV bs 8 8:Nat)),(2,.int .i64 (numR (getV bs 16 8))),(3,.int .i64 (numR (getV bs 24 8))),(4,.int .i64 (numR (getV bs 32 4))),(5,.int .i64 (numR (getV bs 36 4))),(6,.int .i64 (numR (getV bs 40 8))),(7,.int .i64 (numR (getV bs 48 4))),(8,.int .i64 (numR (getV bs 52 4))),(9,.int .i64 (numR (getV bs 56 8))),(10,.int .i64 (numR (getV bs 64 4))),(11,.int .i64 (numR (getV bs 68 4))),(12,.int .i64 (numR (getV bs 72 8))),(13,.int .i64 (numR (getV bs 80 4))),(14,.string nm)]:=by
  simp only [zdJ,Env.ev,g0,g1,g2,g3,g4,g5,g6,g7,g8,g9,g10,g11,g12,g13,hB.nm]
 unfold popV
 simp only [hps]
 show _=_
 kernel_rfl
abbrev mZ (rB:Nat):Res:=.blk rB (.cells hdZ.cells.toArray 34)
def kR (A:Option Addr) (c:Nat) (bs:List UInt8) (nm:ByteArray) (rB:Nat) (w:World):Env→Mem→Prop:=fun e m=>∃ g:Nat,True∧Env.sub [(5,.pointer (some ⟨g,0,none⟩)),(3,.bool false),(2,.pointer (some ⟨rB,0,none⟩)),(0,.slice A bs.length c)] e ∧
 SubM (CX 66 [] w) m [.blk g (.cells (hdR bs nm).cells.toArray 34),mZ rB]
theorem zoc {e:Env} {bA t6:Nat} {p6:String} {a6:Array Edge} (h36:nth ops 36=some ⟨none,.store 34 (.tmp 5) (.tmp 50),t6,p6,a6,none⟩) (hB:BRd A bs.length c nm rB e) (h5:e.get 5=some (.pointer (some ⟨bA,0,none⟩))) (h50:e.get 50=some (.agg (hdR bs nm).cells.toArray)) :
  XTG (CX 66 [] w) [mZ rB] ops (kR A c bs nm rB w) kp (Tr.sq [36] .done) e [.blk bA (.cells hdZ.cells.toArray 34),mZ rB]:=by
 show zdM (CX 66 [] w) [mZ rB] ops kp 36 (XTG (CX 66 [] w) [mZ rB] ops (kR A c bs nm rB w) kp .done) (XTG (CX 66 [] w) [mZ rB] ops (kR A c bs nm rB w) kp .stop) e _
 unfold zdM
 rw [h36]
 refine⟨?_,trivial⟩
 show (match Env.ev e (.tmp 5),Env.ev e (.tmp 50) with
  | some p,some v=>RnU (CX 66 [] w) _ (Instr.storeAt 34 p v) _
  | _,_=>False)
 rw [show Env.ev e (.tmp 5)=_ from h5,show Env.ev e (.tmp 50)=_ from h50]
 refine zaO (cs':=(hdR bs nm).cells) zaa rfl (by repeat constructor) rfl rfl rfl (by kernel_rfl) ⟨SubM.sl,?_⟩
 exact⟨bA,trivial,⟨h5,hB.ok,hB.rb,hB.sl 0 (by decide),trivial⟩,SubM.refl _ _⟩
theorem zrp {e:Env} {m:Mem} {last:Tr} {t4:Nat} {p4:String} {a4:Array Edge} {k:Env→Mem→Prop} (h34:nth ops 34=some ⟨some 50,.build 34 #[(0,.tmp 17),(1,.tmp 20),(2,.tmp 22),(3,.tmp 24),(4,.tmp 26),(5,.tmp 28),(6,.tmp 30),(7,.tmp 32),(8,.tmp 34),(9,.tmp 36),(10,.tmp 38),(11,.tmp 40),(12,.tmp 42),(13,.tmp 44),(14,.tmp 49)],t4,p4,a4,none⟩) (hB:BRd A bs.length c nm rB e) (hG:Got (csR bs) e)
  (h:XTG (CX 66 [] w) [mZ rB] ops k kp last ((50,.agg (hdR bs nm).cells.toArray)::e) m):XTG (CX 66 [] w) [mZ rB] ops k kp (Tr.hs [34] last) e m:=by
 show zgz (CX 66 [] w) [mZ rB] ops 34 (XTG (CX 66 [] w) [mZ rB] ops k kp last) e m
 unfold zgz
 rw [h34]
 show zcI (CX 66 [] w) (some 50) (.build 34 #[(0,.tmp 17),(1,.tmp 20),(2,.tmp 22),(3,.tmp 24),(4,.tmp 26),(5,.tmp 28),(6,.tmp 30),(7,.tmp 32),(8,.tmp 34),(9,.tmp 36),(10,.tmp 38),(11,.tmp 40),(12,.tmp 42),(13,.tmp 44),(14,.tmp 49)]) e _
 unfold zcI
 rw [zuo hB hG]
 exact h
theorem zwE {e:Env} {t5 t6:Nat} {p5 p6:String} {a5 a6:Array Edge} (h35:nth ops 35=some ⟨some 5,.alloc 34,t5,p5,a5,none⟩) (h36:nth ops 36=some ⟨none,.store 34 (.tmp 5) (.tmp 50),t6,p6,a6,none⟩)
  (hB:BRd A bs.length c nm rB e) (h50:e.get 50=some (.agg (hdR bs nm).cells.toArray)):XTG (CX 66 [] w) [mZ rB] ops (kR A c bs nm rB w) kp (Tr.sq [35,36] .done) e [mZ rB]:=by
 show zdM (CX 66 [] w) [mZ rB] ops kp 35 (XTG (CX 66 [] w) [mZ rB] ops (kR A c bs nm rB w) kp (Tr.sq [36] .done)) (XTG (CX 66 [] w) [mZ rB] ops (kR A c bs nm rB w) kp .stop) e _
 unfold zdM
 rw [h35]
 refine⟨fun b=>⟨SubM.sl,?_⟩,trivial⟩
 exact zoc h36 (hB.put rfl _) (by show Env.get ((5,_)::e) 5=_;rw [Env.get_cons,if_pos rfl]) (by show Env.get ((5,_)::e) 50=_;rw [Env.get_cons,if_neg (by decide)];exact h50)
end
attribute [local irreducible] Br Rn RnU Cl RdG CpG Ld Rd Lp Dr Oth Cut fin Fits Eng.Enters Md NA
attribute [local irreducible] Eng.trB
set_option maxHeartbeats 4000000 in
theorem zlS (bs:List UInt8) (A:Option Addr) (c:Nat) (w:World) (hb:BytsIn w A bs) (hc:bs.length≤c) (hl:bs.length≤20000000) :
  Calls Tryz.prog 9 #[.slice A bs.length c] w fun e w'=>e=.returned (match zml bs with
   | none=>.tuple #[.agg hdZ.cells.toArray,.bool false]
   | some h=>.tuple #[.agg h.cells.toArray,.bool true])∧Fr (fun _=>False) w w':=by
 have hF:∀ w',Fr (fun _=>False) w w'→BytsIn w' A bs:=fun w' hf=>Byts.in_ (BytsIn.byts (cx:=CX 17 [] w) (m:=[]) hb (fun _ h=>h)) ((MemOk.nil w _).same hf)
 refine enter (cx:=CX 66 [] w) [(0,.slice A bs.length c)] zaa Tryz.func9 rfl rfl rfl rfl (MemOk.nil w _) ?_
 refine gGw ?_;(repeat ((first|refine .mk fun Ap capp=>?_|intro _);(conv=>whnf);refine gG0 ?_))
 rename_i rB
 by_cases hlt:bs.length<512
 ·have eH:zml bs=none:=if_pos hlt
  rw [eH]
  refine br_t (decide_eq_true (by omega)) ?_
  refine gGw ?_
  exact zbV rfl rfl (ldN (vs:=hdZ.cells) zaa (by repeat constructor) rfl rfl rfl rfl) rfl (fun w' hm=>⟨rfl,hm.fr⟩)
 have hpl:Pl A:=(BytsIn.byts (cx:=CX 54 [] w) (m:=[]) hb (fun _ h=>h)).plain (by omega)
 refine br_f (decide_eq_false (by omega)) ?_
 refine gGw ?_
 have hnm:=zgW bs 84 (k:=4) (by omega)
 refine⟨zfu,zae _ (fun w' hm'=>zif bs A c 84 4 w' (hF w' hm'.fr) hl hc (by omega) (by omega)) ?_⟩
 have hn4:∀ at_:Nat,getV bs at_ 4<72057594037927936:=fun at_=>znn (by rw [List.length_take];omega)
 have e84:numR (getV bs 84 4)=(getV bs 84 4:Nat):=by rw [numR,if_neg (by have:=hn4 84;omega)]
 rw [e84]
 refine gGw ?_
 refine br_d (fun h64=>?_) (fun h64=>?_)
 ·have eH:zml bs=none:=by rw [zml,if_neg hlt,if_pos (by omega)]
  rw [eH]
  refine gGw ?_
  exact zbV rfl rfl (ldN (vs:=hdZ.cells) zaa (by repeat constructor) rfl rfl rfl rfl) rfl (fun w' hm=>⟨rfl,hm.fr⟩)
 have eH:zml bs=if mayH (hdR bs (Str ((bs.drop 88).take (getV bs 84 4))))=true∧za7 (hdR bs (Str ((bs.drop 88).take (getV bs 84 4))))=bs.take 512 then some (hdR bs (Str ((bs.drop 88).take (getV bs 84 4)))) else none:=by rw [zml,if_neg hlt,if_neg (by omega)]
 rw [eH]
 clear eH
 refine gGw ?_
 obtain ⟨nm,hnmE⟩:∃ nm,nm=Str ((bs.drop 88).take (getV bs 84 4)):=⟨_,rfl⟩
 rw [← hnmE]
 refine zcb (γ:=Nat) (Tr.hs [0,2,3,5,7,9,11,13,15,17,19,21,23,25,27,29,30,31,32,33] (trB 35 (Tr.hs [34] (Tr.sq [36] .done)) (Tr.hs [34] (Tr.sq [35,36] .done)) (csR bs)))
  [mZ rB] zaa mixed (by kernel_rfl) rfl (fun _=>True)
  (fun g=>[(5,.pointer (some ⟨g,0,none⟩)),(3,.bool false),(2,.pointer (some ⟨rB,0,none⟩)),(0,.slice A bs.length c)])
  (fun g=>[.blk g (.cells (hdR bs nm).cells.toArray 34),mZ rB]) SubM.sl ?_ ?_
 ·refine gGw ?_
  refine And.intro ⟨by omega,by omega,by omega,.inr hpl⟩ ?_
  refine gGw ?_
  refine And.intro ⟨by omega,by omega,by omega,.inr hpl⟩ ?_
  refine gGw ?_
  rw [show (88+((getV bs 84 4:Nat):Int)).toNat-Int.toNat 88=((bs.drop 88).take (getV bs 84 4)).length by rw [List.length_take,List.length_drop];have:=h64;omega]
  refine⟨.string nm,by
   rw [hnmE]
   exact Rd.g (zcy (bs:=(bs.drop 88).take (getV bs 84 4)) zaa rfl rfl rfl rfl rfl rfl (BytsIn.byts (BytsIn.sub hb c 88 (getV bs 84 4) (by omega) hc) (fun _ h=>h)) _),?_⟩
  show XTG (CX 66 [] w) [mZ rB] _ (kR A c bs nm rB w) _ (trB 35 (Tr.hs [34] (Tr.sq [36] .done)) (Tr.hs [34] (Tr.sq [35,36] .done)) (csR bs)) _ [mZ rB]
  refine zvv (cx:=CX 66 [] w) (mC:=[mZ rB]) (z:=35) (lastA:=Tr.hs [34] (Tr.sq [36] .done)) (lastB:=Tr.hs [34] (Tr.sq [35,36] .done)) (k:=kR A c bs nm rB w) (BB:=fun e _=>BRd A bs.length c nm rB e) (BA:=fun b e _=>BRd A bs.length c nm rB e∧e.get 5=some (.pointer (some ⟨b,0,none⟩))) (d:=5) (t:=34) (SubM.refl _ _) ?_ rfl
   (fun b e h=>⟨h.put rfl _,by rw [Env.get_cons,if_pos rfl]⟩) (csR bs) [] _ ?_ ?_ ?_ ?_ ?_ ?_ ?_ ?_
  ·exact⟨_,rfl,rfl,rfl,rfl⟩
  ·skip
   intro x hx
   simp only [csR,List.mem_cons,List.not_mem_nil,or_false] at hx
   rcases hx with rfl|rfl|rfl|rfl|rfl|rfl|rfl|rfl|rfl|rfl|rfl|rfl|rfl|rfl
   ·exact zaK (s:=16) (at_:=4) (n:=4) hF hl hc (by omega) (by omega) (by rfl) (fun e m h=>h.sl 16 (by decide)) (fun e m v h=>h.put rfl v)
   ·exact znV hF hc (by omega) (s:=19) (by rfl) (fun e m h=>h.fl) (fun e m v h=>h.put rfl v)
   ·exact zaK (s:=21) (at_:=16) (n:=8) hF hl hc (by omega) (by omega) (by rfl) (fun e m h=>h.sl 21 (by decide)) (fun e m v h=>h.put rfl v)
   ·exact zaK (s:=23) (at_:=24) (n:=8) hF hl hc (by omega) (by omega) (by rfl) (fun e m h=>h.sl 23 (by decide)) (fun e m v h=>h.put rfl v)
   ·exact zaK (s:=25) (at_:=32) (n:=4) hF hl hc (by omega) (by omega) (by rfl) (fun e m h=>h.sl 25 (by decide)) (fun e m v h=>h.put rfl v)
   ·exact zaK (s:=27) (at_:=36) (n:=4) hF hl hc (by omega) (by omega) (by rfl) (fun e m h=>h.sl 27 (by decide)) (fun e m v h=>h.put rfl v)
   ·exact zaK (s:=29) (at_:=40) (n:=8) hF hl hc (by omega) (by omega) (by rfl) (fun e m h=>h.sl 29 (by decide)) (fun e m v h=>h.put rfl v)
   ·exact zaK (s:=31) (at_:=48) (n:=4) hF hl hc (by omega) (by omega) (by rfl) (fun e m h=>h.sl 31 (by decide)) (fun e m v h=>h.put rfl v)
   ·exact zaK (s:=33) (at_:=52) (n:=4) hF hl hc (by omega) (by omega) (by rfl) (fun e m h=>h.sl 33 (by decide)) (fun e m v h=>h.put rfl v)
   ·exact zaK (s:=35) (at_:=56) (n:=8) hF hl hc (by omega) (by omega) (by rfl) (fun e m h=>h.sl 35 (by decide)) (fun e m v h=>h.put rfl v)
   ·exact zaK (s:=37) (at_:=64) (n:=4) hF hl hc (by omega) (by omega) (by rfl) (fun e m h=>h.sl 37 (by decide)) (fun e m v h=>h.put rfl v)
   ·exact zaK (s:=39) (at_:=68) (n:=4) hF hl hc (by omega) (by omega) (by rfl) (fun e m h=>h.sl 39 (by decide)) (fun e m v h=>h.put rfl v)
   ·exact zaK (s:=41) (at_:=72) (n:=8) hF hl hc (by omega) (by omega) (by rfl) (fun e m h=>h.sl 41 (by decide)) (fun e m v h=>h.put rfl v)
   ·exact zaK (s:=43) (at_:=80) (n:=4) hF hl hc (by omega) (by omega) (by rfl) (fun e m h=>h.sl 43 (by decide)) (fun e m v h=>h.put rfl v)
  ·intro b
   intro x hx
   simp only [csR,List.mem_cons,List.not_mem_nil,or_false] at hx
   rcases hx with rfl|rfl|rfl|rfl|rfl|rfl|rfl|rfl|rfl|rfl|rfl|rfl|rfl|rfl
   ·exact zaK (s:=16) (at_:=4) (n:=4) hF hl hc (by omega) (by omega) (by rfl) (fun e m h=>h.1.sl 16 (by decide)) (fun e m v h=>⟨h.1.put rfl v,by rw [Env.get_cons,if_neg (by decide)];exact h.2⟩)
   ·exact znV hF hc (by omega) (s:=19) (by rfl) (fun e m h=>h.1.fl) (fun e m v h=>⟨h.1.put rfl v,by rw [Env.get_cons,if_neg (by decide)];exact h.2⟩)
   ·exact zaK (s:=21) (at_:=16) (n:=8) hF hl hc (by omega) (by omega) (by rfl) (fun e m h=>h.1.sl 21 (by decide)) (fun e m v h=>⟨h.1.put rfl v,by rw [Env.get_cons,if_neg (by decide)];exact h.2⟩)
   ·exact zaK (s:=23) (at_:=24) (n:=8) hF hl hc (by omega) (by omega) (by rfl) (fun e m h=>h.1.sl 23 (by decide)) (fun e m v h=>⟨h.1.put rfl v,by rw [Env.get_cons,if_neg (by decide)];exact h.2⟩)
   ·exact zaK (s:=25) (at_:=32) (n:=4) hF hl hc (by omega) (by omega) (by rfl) (fun e m h=>h.1.sl 25 (by decide)) (fun e m v h=>⟨h.1.put rfl v,by rw [Env.get_cons,if_neg (by decide)];exact h.2⟩)
   ·exact zaK (s:=27) (at_:=36) (n:=4) hF hl hc (by omega) (by omega) (by rfl) (fun e m h=>h.1.sl 27 (by decide)) (fun e m v h=>⟨h.1.put rfl v,by rw [Env.get_cons,if_neg (by decide)];exact h.2⟩)
   ·exact zaK (s:=29) (at_:=40) (n:=8) hF hl hc (by omega) (by omega) (by rfl) (fun e m h=>h.1.sl 29 (by decide)) (fun e m v h=>⟨h.1.put rfl v,by rw [Env.get_cons,if_neg (by decide)];exact h.2⟩)
   ·exact zaK (s:=31) (at_:=48) (n:=4) hF hl hc (by omega) (by omega) (by rfl) (fun e m h=>h.1.sl 31 (by decide)) (fun e m v h=>⟨h.1.put rfl v,by rw [Env.get_cons,if_neg (by decide)];exact h.2⟩)
   ·exact zaK (s:=33) (at_:=52) (n:=4) hF hl hc (by omega) (by omega) (by rfl) (fun e m h=>h.1.sl 33 (by decide)) (fun e m v h=>⟨h.1.put rfl v,by rw [Env.get_cons,if_neg (by decide)];exact h.2⟩)
   ·exact zaK (s:=35) (at_:=56) (n:=8) hF hl hc (by omega) (by omega) (by rfl) (fun e m h=>h.1.sl 35 (by decide)) (fun e m v h=>⟨h.1.put rfl v,by rw [Env.get_cons,if_neg (by decide)];exact h.2⟩)
   ·exact zaK (s:=37) (at_:=64) (n:=4) hF hl hc (by omega) (by omega) (by rfl) (fun e m h=>h.1.sl 37 (by decide)) (fun e m v h=>⟨h.1.put rfl v,by rw [Env.get_cons,if_neg (by decide)];exact h.2⟩)
   ·exact zaK (s:=39) (at_:=68) (n:=4) hF hl hc (by omega) (by omega) (by rfl) (fun e m h=>h.1.sl 39 (by decide)) (fun e m v h=>⟨h.1.put rfl v,by rw [Env.get_cons,if_neg (by decide)];exact h.2⟩)
   ·exact zaK (s:=41) (at_:=72) (n:=8) hF hl hc (by omega) (by omega) (by rfl) (fun e m h=>h.1.sl 41 (by decide)) (fun e m v h=>⟨h.1.put rfl v,by rw [Env.get_cons,if_neg (by decide)];exact h.2⟩)
   ·exact zaK (s:=43) (at_:=80) (n:=4) hF hl hc (by omega) (by omega) (by rfl) (fun e m h=>h.1.sl 43 (by decide)) (fun e m v h=>⟨h.1.put rfl v,by rw [Env.get_cons,if_neg (by decide)];exact h.2⟩)
  ·show ([17,20,22,24,26,28,30,32,34,36,38,40,42,44]:List Nat).Nodup
   decide
  ·intro x hx
   simp only [csR,List.nil_append,List.mem_cons,List.not_mem_nil,or_false] at hx
   rcases hx with rfl|rfl|rfl|rfl|rfl|rfl|rfl|rfl|rfl|rfl|rfl|rfl|rfl|rfl<;>(dsimp only;omega)
  ·refine⟨fun s hs=>?_,rfl,rfl,rfl,rfl⟩
   simp only [zn6,List.mem_cons,List.not_mem_nil,or_false] at hs
   rcases hs with rfl|rfl|rfl|rfl|rfl|rfl|rfl|rfl|rfl|rfl|rfl|rfl|rfl|rfl<;>rfl
  ·intro x hx
   cases hx
  ·exact fun e hB hG=>zrp (by rfl) hB hG (zwE (by rfl) (by rfl) (hB.put rfl _) (by rw [Env.get_cons,if_pos rfl]))
  ·exact fun b e hB hG=>zrp (by rfl) hB.1 hG (zoc (by rfl) (hB.1.put rfl _) (by rw [Env.get_cons,if_neg (by decide)];exact hB.2) (by rw [Env.get_cons,if_pos rfl]))
 ·rintro bA -
  have hns:nm.size≤64:=by
   rw [hnmE]
   show ((bs.drop 88).take (getV bs 84 4)).toArray.size≤64
   rw [List.size_toArray,List.length_take];omega
  have hfl:0≤(hdR bs nm).flags:=by show 0≤((getV bs 8 8:Nat):Int);omega
  have hbk:(hdR bs nm).backing.size≤64:=hns
  have h5:(bs.take 512).length=512:=by rw [List.length_take];omega
  have hb5:BytsIn w (cutA A c 0 1) (bs.take 512):=BytsIn.sub hb c 0 512 (by omega) hc
  generalize hdR bs nm=H at hfl hbk ⊢
  refine gGw ?_
  refine⟨zm4,zae _ (fun w' _=>zut H w' (by omega)) ?_⟩
  cases hmay:mayH H with
  | false =>
   rw [if_neg (fun h=>absurd h.1 (by decide))]
   refine gGw ?_
   refine zao zaa mixed (by kernel_rfl) rfl ?_;conv=>whnf
   refine gG0 ?_
   refine br_t rfl ?_
   refine gGw ?_
   refine br_t rfl ?_
   refine gGw ?_
   exact zbV rfl rfl (ldN (vs:=hdZ.cells) zaa (by repeat constructor) rfl rfl rfl rfl) rfl (fun w' hm=>⟨rfl,hm.fr⟩)
  | true =>
   have hk:=zgV hfl hmay
   have hlen:(za7 H).length=512:=by
    have e:za7 H=preB H 14++leB H.backing.size 4++H.backing.data.toList++List.replicate (424-H.backing.size) 0:=rfl
    rw [e,List.length_append,List.length_append,List.length_append,zgi,zad,List.length_replicate,Array.length_toList]
    have:H.backing.data.size=H.backing.size:=rfl
    omega
   refine gGw ?_
   refine zcb (γ:=Unit) (Tr.hs [0,1,2,3,6,7,8] (.sq [4,5] (.hs [9,10] .done))) [.blk bA (.cells H.cells.toArray 34),mZ rB] zaa mixed (by kernel_rfl) rfl (fun _=>True)
    (fun _=>[(63,.bool (!decide (Str (za7 H)=Str (bs.take 512)))),(5,.pointer (some ⟨bA,0,none⟩)),(3,.bool false),(2,.pointer (some ⟨rB,0,none⟩))]) (fun _=>[.blk bA (.cells H.cells.toArray 34),mZ rB]) SubM.sl ?_ ?_
   ·refine gGw ?_
    refine And.intro ⟨by omega,by omega,by omega,.inr hpl⟩ ?_
    refine gGw ?_
    refine⟨.string (Str (bs.take 512)),?_,?_⟩
    ·have h9:=zcy (cx:=CX 66 [] w) (m:=[.blk bA (.cells H.cells.toArray 34),mZ rB]) (s:=22) (d:=9) (bs:=bs.take 512) zaa rfl rfl rfl rfl rfl rfl (BytsIn.byts hb5 (fun _ h=>h)) c
     rw [h5] at h9
     exact Rd.g h9
    conv=>whnf
    refine⟨?_,trivial⟩
    refine⟨zfw,zac (m1:=[]) .nil (fun w' hm'=>zij H w' hk) ?_⟩
    rintro e m' ⟨gA,gc,rfl,rfl⟩
    refine gGs ?_
    conv=>whnf
    refine⟨?_,trivial⟩
    refine Rd.n (zik (bs:=za7 H) (t:=5) zaa rfl rfl rfl rfl rfl rfl .here hlen.symm) ?_
    refine gGs ?_
    refine gGw ?_
    exact⟨(),trivial,⟨rfl,rfl,rfl,rfl,trivial⟩,SubM.sl⟩
   ·rintro - -
    by_cases hC:za7 H=bs.take 512
    ·rw [if_pos ⟨rfl,hC⟩]
     rw [hC]
     refine gGw ?_
     refine br_f (by simp) ?_
     refine gGw ?_
     exact zbV rfl rfl (ldN (vs:=H.cells) zaa (by repeat constructor) rfl rfl rfl rfl) rfl (fun w' hm=>⟨rfl,hm.fr⟩)
    ·rw [if_neg (fun h=>hC h.2)]
     refine gGw ?_
     refine br_t (by rw [decide_eq_false (fun h=>hC (Str.inj.1 h))];rfl) ?_
     refine gGw ?_
     exact zbV rfl rfl (ldN (vs:=hdZ.cells) zaa (by repeat constructor) rfl rfl rfl rfl) rfl (fun w' hm=>⟨rfl,hm.fr⟩)
end
theorem zbf {bs:List UInt8} {a n N:Nat} (h:a+n≤N):getV (bs.take N) a n=getV bs a n:=by
 unfold getV
 rw [List.drop_take,List.take_take,Nat.min_eq_left (by omega)]
theorem zt9 {bs:List UInt8} {a n N:Nat} (h:a+n≤N):((bs.take N).drop a).take n=(bs.drop a).take n:=by
 rw [List.drop_take,List.take_take,Nat.min_eq_left (by omega)]
theorem zcC {x:Nat} (hx:x<18446744073709551616) (h:0≤i64w x∧i64w x≤4611686018427387904):numR x=i64w x:=by
 unfold i64w at h ⊢
 rw [IntKind.wrap_i64] at h ⊢
 unfold numR
 split<;>omega
theorem zcz {x:Nat} (h:0≤numR x):i64w x=numR x:=by
 unfold numR at h ⊢
 split at h
 ·omega
 ·rename_i hx
  rw [if_neg hx,zp1 (by omega)]
theorem hdI_R {bs:List UInt8} {nm:ByteArray} (h:mayH (hdI bs nm)=true):hdI bs nm=hdR bs nm:=by
 have hf:0≤(hdI bs nm).flags:=by
  show 0≤IntKind.u64.wrap _
  rw [IntKind.wrap_u64];omega
 obtain ⟨k1,k2,k3,k4,k5,k6,k7,k8,k9,k10,k11,k12,k13,k14,_⟩:=zgV hf h
 have hv:∀ a n,n≤8→getV bs a n<18446744073709551616:=fun a n hn=>zgW bs a (k:=n) hn
 unfold hdI at k1 k3 k4 k5 k6 k7 k8 k9 k10 k11 k12 k13 k14 ⊢
 unfold hdR
 simp only at k1 k3 k4 k5 k6 k7 k8 k9 k10 k11 k12 k13 k14
 rw [znZ (hv 8 8 (by omega)),zcC (hv 4 4 (by omega)) (by omega),zcC (hv 16 8 (by omega)) (by omega),zcC (hv 24 8 (by omega)) (by omega),zcC (hv 32 4 (by omega)) (by omega),zcC (hv 36 4 (by omega)) (by omega),zcC (hv 40 8 (by omega)) (by omega),zcC (hv 48 4 (by omega)) (by omega),
  zcC (hv 52 4 (by omega)) (by omega),zcC (hv 56 8 (by omega)) (by omega),zcC (hv 64 4 (by omega)) (by omega),zcC (hv 68 4 (by omega)) (by omega),zcC (hv 72 8 (by omega)) (by omega),zcC (hv 80 4 (by omega)) (by omega)]
theorem hdR_I {bs:List UInt8} {nm:ByteArray} (h:mayH (hdR bs nm)=true):hdI bs nm=hdR bs nm:=by
 have hf:0≤(hdR bs nm).flags:=by show 0≤((getV bs 8 8:Nat):Int);omega
 obtain ⟨k1,k2,k3,k4,k5,k6,k7,k8,k9,k10,k11,k12,k13,k14,_⟩:=zgV hf h
 unfold hdR at k1 k3 k4 k5 k6 k7 k8 k9 k10 k11 k12 k13 k14 ⊢
 unfold hdI
 simp only at k1 k3 k4 k5 k6 k7 k8 k9 k10 k11 k12 k13 k14
 rw [znZ (zgW bs 8 (k:=8) (by omega)),zcz (by omega:0≤numR (getV bs 4 4)),zcz (by omega:0≤numR (getV bs 16 8)),zcz (by omega:0≤numR (getV bs 24 8)),zcz (by omega:0≤numR (getV bs 32 4)),zcz (by omega:0≤numR (getV bs 36 4)),zcz (by omega:0≤numR (getV bs 40 8)),
  zcz (by omega:0≤numR (getV bs 48 4)),zcz (by omega:0≤numR (getV bs 52 4)),zcz (by omega:0≤numR (getV bs 56 8)),zcz (by omega:0≤numR (getV bs 64 4)),zcz (by omega:0≤numR (getV bs 68 4)),zcz (by omega:0≤numR (getV bs 72 8)),zcz (by omega:0≤numR (getV bs 80 4))]
theorem zkQ (bs:List UInt8) (nm:ByteArray):hdR (bs.take 512) nm=hdR bs nm:=by
 unfold hdR
 simp only [zbf (bs:=bs) (N:=512) (a:=4) (n:=4) (by omega),zbf (bs:=bs) (N:=512) (a:=8) (n:=8) (by omega),zbf (bs:=bs) (N:=512) (a:=16) (n:=8) (by omega),zbf (bs:=bs) (N:=512) (a:=24) (n:=8) (by omega),zbf (bs:=bs) (N:=512) (a:=32) (n:=4) (by omega),zbf (bs:=bs) (N:=512) (a:=36) (n:=4) (by omega),
  zbf (bs:=bs) (N:=512) (a:=40) (n:=8) (by omega),zbf (bs:=bs) (N:=512) (a:=48) (n:=4) (by omega),zbf (bs:=bs) (N:=512) (a:=52) (n:=4) (by omega),zbf (bs:=bs) (N:=512) (a:=56) (n:=8) (by omega),zbf (bs:=bs) (N:=512) (a:=64) (n:=4) (by omega),zbf (bs:=bs) (N:=512) (a:=68) (n:=4) (by omega),zbf (bs:=bs) (N:=512) (a:=72) (n:=8) (by omega),zbf (bs:=bs) (N:=512) (a:=80) (n:=4) (by omega)]
theorem ziH (h:Hd) {n:Nat} (hn:h.backing.size=n) (h64:n≤64):zg6 (((za7 h).drop (88+n)).take (64-n))=true:=by
 have e:za7 h=(preB h 14++leB h.backing.size 4++h.backing.data.toList)++List.replicate (424-h.backing.size) 0:=rfl
 have hl:(preB h 14++leB h.backing.size 4++h.backing.data.toList).length=88+n:=by
  rw [List.length_append,List.length_append,zgi,zad,Array.length_toList,← hn];rfl
 rw [e,List.drop_append,List.drop_of_length_le (by omega),hl,Nat.sub_self,List.drop_zero,List.nil_append,List.take_replicate]
 unfold zg6
 rw [List.all_eq_true]
 intro x hx
 rw [(List.mem_replicate.1 hx).2];rfl
theorem zoI (bs:List UInt8):zml bs=zbz bs:=by
 unfold zml zbz
 by_cases hlt:bs.length<512
 ·rw [if_pos hlt,if_pos hlt]
 rw [if_neg hlt,if_neg hlt]
 have e84:getV (bs.take 512) 84 4=getV bs 84 4:=zbf (by omega)
 by_cases h64:64<getV bs 84 4
 ·rw [if_pos h64]
  have ht:(zdP (bs.take 512) 84 64).2≠0:=by
   unfold zdP
   rw [e84,if_neg (fun h=>by omega)];decide
  rw [if_neg (fun h=>ht h.1)]
 rw [if_neg h64]
 have hnm:((bs.take 512).drop (84+4)).take (getV bs 84 4)=(bs.drop 88).take (getV bs 84 4):=zt9 (by omega)
 have hsz:(Str ((bs.drop 88).take (getV bs 84 4))).size=getV bs 84 4:=by
  rw [Str.size,List.length_take,List.length_drop];omega
 by_cases hz:zg6 (((bs.take 512).drop (84+4+getV bs 84 4)).take (64-getV bs 84 4))=true
 ·have ht:zdP (bs.take 512) 84 64=(Str ((bs.drop 88).take (getV bs 84 4)),0):=by
   unfold zdP
   rw [e84,if_pos ⟨by omega,hz⟩,hnm]
  rw [ht]
  simp only [true_and]
  by_cases hm:mayH (hdR bs (Str ((bs.drop 88).take (getV bs 84 4))))=true
  ·have e:hdI (bs.take 512) (Str ((bs.drop 88).take (getV bs 84 4)))=hdR bs (Str ((bs.drop 88).take (getV bs 84 4))):=by
    rw [← zkQ] at hm
    rw [hdR_I hm,zkQ]
   rw [e]
  ·rw [if_neg (fun h=>hm h.1),if_neg (fun h=>hm (by
    have:=h.1
    rw [hdI_R this,zkQ] at this
    exact this))]
 ·have ht:(zdP (bs.take 512) 84 64).2≠0:=by
   unfold zdP
   rw [e84,if_neg (fun h=>hz h.2)];decide
  rw [if_neg (fun h=>hz (by
   rw [← h.2,show 84+4=88 from rfl]
   exact ziH _ hsz (by omega))),if_neg (fun h=>ht h.1)]
section
theorem zrl {P:Program} {t:Nat} {i:TyI} {n e:Nat} (h:i.ok P t) (hk:i.kind=.arr n e) {a:Addr} {vs:List Value} {w:World} (hl:vs.length=i.cells) (hc:∀ j v,vs[j]?=some v→w.cell? (a.add j)=some v) :
  (Instr.loadAt t (.pointer (some a))).run P w=.ok (.agg vs.toArray) w:=by
 obtain ⟨d,hd,hkd⟩:=h.desc
 rw [hk] at hkd
 subst hkd
 have:(isAgg t).run P w=.ok true w:=by simp [isAgg,run_underlying hd]
 have h2:=run_loadCells_list (P:=P) w a vs hc
 rw [hl] at h2
 simp [Instr.loadAt,Instr.sureAddr,loadVar,this,za3 h,h2]
theorem ldA {cx:Cx} (ht:TabOk cx.P cx.tab) {m:Mem} {t:Nat} {i:TyI} {b t' n e:Nat} {cs:List Value} (hh:Has m (.blk b (.cells cs.toArray t'))) (hi:cx.tab.get t=some i) (hk:i.kind=.arr n e) (hl:cs.length=i.cells):Ld cx m t (.pointer (some ⟨b,0,none⟩)) (.agg cs.toArray):=by
 intro w hm
 refine zrl (ht _ _ hi) hk hl fun j v hj=>?_
 rw [Addr.add_lit,zaJ (hm.ok _ hh.mem),Nat.zero_add]
 exact hj
theorem zat (l:List Value):zaS (.agg l.toArray)=l:=rfl
theorem zx5 {cx:Cx} {fn:Func} {R:Ending→World→Prop} {e:Env} {m:Mem} {t s:Tmp} {ty ty2:TypeId} (hr:fn.results=#[.cell t ty,.cell s ty2]) {u u' v v':Value} (hu:e.get t=some u) (hv:Ld cx m ty u v) (hu':e.get s=some u') (hv':Ld cx m ty2 u' v') (h:∀ w,MemOk cx.w0 cx.S m w→R (.returned (.tuple #[v,v'])) w):fin cx fn R .ret e m :=
 ⟨[v,v'],by rw [hr];exact⟨u,v,[v'],hu,hv,rfl,u',v',[],hu',hv',rfl,rfl⟩,h⟩
def upL (f:Nat→Int) (n i:Nat):List Int:=(List.range n).map fun k=>if k<i then f k else 0
theorem zfJ (f:Nat→Int) (n i:Nat):(upL f n i).length=n:=by simp [upL]
theorem zhQ (f:Nat→Int) (n i:Nat):(upL f n i).set i (f i)=upL f n (i+1):=by
 apply List.ext_getElem
 ·rw [List.length_set,zfJ,zfJ]
 ·intro j h1 h2
  rw [List.getElem_set]
  simp only [upL,List.getElem_map,List.getElem_range]
  by_cases h:i=j
  ·subst h;rw [if_pos rfl,if_pos (by omega)]
  ·rw [if_neg h]
   by_cases hj:j<i
   ·rw [if_pos hj,if_pos (by omega)]
   ·rw [if_neg hj,if_neg (by omega)]
theorem zqO (f:Nat→Int) (n:Nat):upL f n n=(List.range n).map f:=by
 unfold upL
 apply List.map_congr_left
 intro k hk
 rw [if_pos (List.mem_range.1 hk)]
theorem zs9 (f:Nat→Int) (n:Nat):upL f n 0=List.replicate n 0:=by
 unfold upL
 apply List.ext_getElem
 ·simp
 ·intro j h1 h2
  rw [List.getElem_map,List.getElem_replicate,if_neg (by omega)]
def fixV (i:Nat):Int:=if 280≤i∨i<144 then 8 else if i<256 then 9 else 7
theorem zsi:upL fixV 288 288=fixL:=zqO fixV 288
theorem zsk:upL (fun _=>5) 32 32=fixD:=by decide
theorem zu3:newE fixL=0:=by decide +kernel
theorem zu4:newE fixD=0:=by decide +kernel
attribute [local irreducible] Br Rn RnU Cl RdG CpG Ld Rd Lp Dr Oth Cut fin Fits Eng.Enters Md NA
theorem zl4:Eng.Enters Tryz.prog 201:=zab fun _ _=>by kernel_rfl
theorem zk5:Eng.Enters Tryz.prog 197:=zab fun _ _=>by kernel_rfl
theorem zk3:Eng.Enters Tryz.prog 169:=zab fun _ _=>by kernel_rfl
theorem zrG (w:World):Ctr Tryz.prog 201 [] [] (fun e m'=>e=.returned (.agg (ordL.map (Value.int .i64)).toArray)∧m'=[]) w:=by
 refine enter (cx:=CXS 2 [] w (Foot [])) [] zaa Tryz.func201 rfl rfl rfl rfl (MemOk.nil w _) ?_
 refine gGw ?_;(repeat ((first|refine .mk fun Ap capp=>?_|intro _);(conv=>whnf);refine gG0 ?_))
 refine zw7 rfl rfl (ldA zaa (by repeat constructor) rfl rfl rfl) (fun w' hm=>⟨_,⟨rfl,rfl⟩,hm.sublist (List.nil_sublist _)⟩)
theorem zqk (w:World):Ctr Tryz.prog 197 [] [] (fun e m'=>e=.returned (.tuple #[.agg (fixL.map (Value.int .i64)).toArray,.agg (fixD.map (Value.int .i64)).toArray])∧m'=[]) w:=by
 refine enter (cx:=CXS 32 [] w (Foot [])) [] zaa Tryz.func197 rfl rfl rfl rfl (MemOk.nil w _) ?_
 refine gGw ?_;(repeat ((first|refine .mk fun Ap capp=>?_|intro _);(conv=>whnf);refine gG0 ?_))
 rename_i b0 b1
 refine lp zaa (γ:=Nat) (fun i=>i≤288) (fun i=>[(4,.int .i64 (i:Int)),(0,.pointer (some ⟨b0,0,none⟩)),(1,.pointer (some ⟨b1,0,none⟩))]) (fun i=>[.blk b0 (.cells ((upL fixV 288 i).map (Value.int .i64)).toArray 293),.blk b1 (.cells ((upL (fun _=>5) 32 0).map (Value.int .i64)).toArray 294)]) (fun i=>288-i) 0 (by omega) ⟨rfl,rfl,rfl,trivial⟩ (SubM.perm (List.Perm.swap _ _ _)) ?_
 rintro i hi
 dsimp only
 conv=>whnf
 refine br_d (fun hlt=>?_) (fun hge=>?_)
 ·have hl:=zfJ fixV 288 i
  have hu:=zhQ fixV 288 i
  have h5:∀ v:Int,v=fixV i→((upL fixV 288 i).set i 8).set i v=upL fixV 288 (i+1):=fun v h=>by rw [List.set_set,h,hu]
  have h6:fixV i=8→(upL fixV 288 i).set i 8=upL fixV 288 (i+1):=fun h=>by rw [← h,hu]
  have hfv:fixV i=if 280≤i∨i<144 then 8 else if i<256 then 9 else 7:=rfl
  generalize upL fixV 288 i=q at hl h5 h6 ⊢
  refine gGw ?_
  refine And.intro ⟨by omega,by omega,Pl.mk _ _⟩ ?_
  conv=>whnf
  refine zaO (b:=b0) (off:=0+i) (cs':=(q.set i 8).map (Value.int .i64)) zaa rfl (by repeat constructor) rfl rfl (Nat.ble_eq_true_of_le (show 0+i+1≤_ by rw [List.length_map,hl];omega)) (by rw [Nat.zero_add,List.map_set];rfl) ?_
  refine gGw ?_
  by_cases hc1:280≤i∨i<144
  ·have hor:(decide ((280:Int)≤i)||decide ((i:Int)<144))=true:=by
    rcases hc1 with h|h
    ·rw [decide_eq_true (show (280:Int)≤i by omega)];rfl
    ·rw [decide_eq_true (show (i:Int)<144 by omega),Bool.or_true]
   refine br_t hor ?_
   rw [if_pos hc1] at hfv
   rw [h6 hfv]
   refine gGw ?_
   exact⟨i+1,by omega,by omega,⟨rfl,rfl,rfl,trivial⟩,SubM.refl _ _⟩
  rw [if_neg hc1] at hfv
  refine br_f (by rw [decide_eq_false (by omega),decide_eq_false (by omega)];rfl) ?_
  refine gGw ?_
  refine br_d (fun hc2=>?_) (fun hc2=>?_)
  ·rw [if_pos (by omega)] at hfv
   refine gGw ?_
   refine And.intro ⟨by omega,by omega,Pl.mk _ _⟩ ?_
   conv=>whnf
   refine zaO (b:=b0) (off:=0+i) (cs':=(upL fixV 288 (i+1)).map (Value.int .i64)) zaa rfl (by repeat constructor) rfl rfl (Nat.ble_eq_true_of_le (show 0+i+1≤_ by rw [List.length_map,List.length_set,hl];omega)) (by rw [Nat.zero_add,← h5 9 hfv.symm,List.map_set (l:=q.set i 8)];rfl) ?_
   refine gGw ?_
   exact⟨i+1,by omega,by omega,⟨rfl,rfl,rfl,trivial⟩,SubM.refl _ _⟩
  ·rw [if_neg (by omega)] at hfv
   refine gGw ?_
   refine And.intro ⟨by omega,by omega,Pl.mk _ _⟩ ?_
   conv=>whnf
   refine zaO (b:=b0) (off:=0+i) (cs':=(upL fixV 288 (i+1)).map (Value.int .i64)) zaa rfl (by repeat constructor) rfl rfl (Nat.ble_eq_true_of_le (show 0+i+1≤_ by rw [List.length_map,List.length_set,hl];omega)) (by rw [Nat.zero_add,← h5 7 hfv.symm,List.map_set (l:=q.set i 8)];rfl) ?_
   refine gGw ?_
   exact⟨i+1,by omega,by omega,⟨rfl,rfl,rfl,trivial⟩,SubM.refl _ _⟩
 ·obtain rfl:i=288:=by omega
  rw [zsi]
  have hfl:fixL.length=288:=by decide
  generalize hq:fixL=q at hfl
  refine gGw ?_
  refine lp zaa (γ:=Nat) (fun i=>i≤32) (fun i=>[(24,.int .i64 (i:Int)),(0,.pointer (some ⟨b0,0,none⟩)),(1,.pointer (some ⟨b1,0,none⟩))]) (fun i=>[.blk b0 (.cells (q.map (Value.int .i64)).toArray 293),.blk b1 (.cells ((upL (fun _=>5) 32 i).map (Value.int .i64)).toArray 294)]) (fun i=>32-i) 0 (by omega) ⟨rfl,rfl,rfl,trivial⟩ (SubM.refl _ _) ?_
  clear hi hge
  rintro i hi
  dsimp only
  conv=>whnf
  refine br_d (fun hlt=>?_) (fun hge=>?_)
  ·have hl:=zfJ (fun _=>5) 32 i
   have hu:=zhQ (fun _=>5) 32 i
   refine gGw ?_
   refine And.intro ⟨by omega,by omega,Pl.mk _ _⟩ ?_
   conv=>whnf
   refine zaO (b:=b1) (off:=0+i) (cs':=(upL (fun _=>5) 32 (i+1)).map (Value.int .i64)) zaa rfl (by repeat constructor) rfl rfl (Nat.ble_eq_true_of_le (show 0+i+1≤_ by rw [List.length_map,hl];omega)) (by rw [Nat.zero_add,← hu,List.map_set];rfl) ?_
   refine gGw ?_
   exact⟨i+1,by omega,by omega,⟨rfl,rfl,rfl,trivial⟩,SubM.refl _ _⟩
  ·obtain rfl:i=32:=by omega
   rw [zsk]
   have hdl:fixD.length=32:=by decide
   generalize hr:fixD=r at hdl
   conv=>whnf
   refine za5 (γ:=Unit) (Tr.hs [0,1] (.sq [2,3] .done)) [.blk b0 (.cells (q.map (Value.int .i64)).toArray 293),.blk b1 (.cells (r.map (Value.int .i64)).toArray 294)] zaa mixed (by kernel_rfl) rfl (fun _=>True)
    (fun _=>[(0,.pointer (some ⟨b0,0,none⟩)),(1,.pointer (some ⟨b1,0,none⟩))]) (fun _=>[.blk b0 (.cells (q.map (Value.int .i64)).toArray 293),.blk b1 (.cells (r.map (Value.int .i64)).toArray 294)]) SubM.sl ?_ ?_
   ·refine gGw ?_
    refine⟨_,(ldA zaa (by repeat constructor) rfl rfl (by rw [List.length_map];exact hfl)).g,?_⟩
    conv=>whnf
    refine⟨_,(ldA zaa (by repeat constructor) rfl rfl (by rw [List.length_map];exact hdl)).g,?_⟩
    conv=>whnf
    refine⟨?_,trivial⟩
    conv=>whnf
    refine zaO (b:=b0) (off:=0) (cs':=q.map (Value.int .i64)) zaa rfl (by repeat constructor) (by rw [zat,List.length_map];exact hfl) (by rw [zat];exact zbn _ _) (Nat.ble_eq_true_of_le (by rw [zat];omega)) (by rw [zat];exact zb1 _ _ rfl) ?_
    conv=>whnf
    refine And.intro (SubM.refl _ _) ?_
    conv=>whnf
    refine⟨?_,trivial⟩
    conv=>whnf
    refine zaO (b:=b1) (off:=0) (cs':=r.map (Value.int .i64)) zaa rfl (by repeat constructor) (by rw [zat,List.length_map];exact hdl) (by rw [zat];exact zbn _ _) (Nat.ble_eq_true_of_le (by rw [zat];omega)) (by rw [zat];exact zb1 _ _ rfl) ?_
    conv=>whnf
    refine And.intro (SubM.refl _ _) ?_
    conv=>whnf
    exact⟨(),trivial,⟨rfl,rfl,trivial⟩,SubM.refl _ _⟩
   ·rintro ⟨⟩ -
    refine gGw ?_
    subst hq hr
    exact zx5 rfl rfl (ldA zaa (by repeat constructor) rfl rfl (by rw [List.length_map];exact hfl)) rfl (ldA zaa (by repeat constructor) rfl rfl (by rw [List.length_map];exact hdl)) (fun w' hm=>⟨_,⟨rfl,rfl⟩,hm.sublist (List.nil_sublist _)⟩)
theorem zvJ {L:List Int} {n:Nat} (hn:L.length=n) (A:Option Addr) (c:Nat) (w:World) (hb:IntsIn .i64 w A L) (hc:newE L=0) :
  Ctr Tryz.prog 200 [.slice A n c] [] (fun e m'=>∃ d:Cd,d.L=L∧e=.returned (.tuple #[.pointer (some ⟨d.B,0,none⟩),.int .i64 0])∧m'=CdM d) w:=by
 subst hn
 exact zoH L A c w hb (zgU hc).1 (zgU hc).2
theorem zkW:fixL.length=288:=by simp [fixL]
theorem zkX:fixD.length=32:=by simp [fixD]
theorem zqj (s:Stm) (at_:Nat) (A:Option Addr) (c:Nat) (o:List Int) (w:World) (hs:s.Ok at_ o) (hm:MemOk w (Foot (StM s at_ A c o)) (StM s at_ A c o) w) :
  Ctr Tryz.prog 169 [.pointer (some ⟨s.B,0,none⟩)] (StM s at_ A c o) (StR s at_ (zoQ s.q.bs s.most at_ o)) w:=by
 refine enter (cx:=CXS 20 [] w (Foot (StM s at_ A c o))) [(0,.pointer (some ⟨s.B,0,none⟩))] zaa Tryz.func169 rfl rfl rfl rfl hm ?_
 generalize hR:zoQ s.q.bs s.most at_ o=R
 unfold zoQ at hR
 have hfl:=zkW
 have hdl:=zkX
 have hfn:=zu3
 have hdn:=zu4
 refine gGw ?_
 refine⟨zk5,zac (m1:=[]) .nil (fun w' hm'=>zqk w') ?_⟩
 rintro e m' ⟨rfl,rfl⟩
 generalize fixL=L at hR hfl hfn ⊢
 generalize fixD=D at hR hdl hdn ⊢
 refine gGw ?_;(repeat ((first|refine .mk fun Ap capp=>?_|intro _);(conv=>whnf);refine gG0 ?_))
 rename_i bL bD
 refine zaO (b:=bL) (off:=0) (cs':=L.map (Value.int .i64)) zaa rfl (by repeat constructor) (by rw [zat,List.length_map];exact hfl) (by rw [zat];exact zbn _ _) (Nat.ble_eq_true_of_le (by rw [zat,List.length_map,hfl];decide)) (by rw [zat];exact zb1 _ _ (by rw [List.length_map,hfl];rfl)) ?_
 conv=>whnf
 refine zaO (b:=bD) (off:=0) (cs':=D.map (Value.int .i64)) zaa rfl (by repeat constructor) (by rw [zat,List.length_map];exact hdl) (by rw [zat];exact zbn _ _) (Nat.ble_eq_true_of_le (by rw [zat,List.length_map,hdl];decide)) (by rw [zat];exact zb1 _ _ (by rw [List.length_map,hdl];rfl)) ?_
 conv=>whnf
 refine za5 (γ:=Nat × List Int × Option Addr × Nat) (Tr.hs [0,1,6] (.sq [2] (.hs [3,4] (.sq [5,7] (.hs [8,9] (.sq [10,11] .done)))))) [] zaa mixed (by kernel_rfl) rfl
  (fun g=>R=.ok (g.1,g.2.1)∧at_≤g.1∧g.1≤8*s.q.bs.length∧(g.2.1.length:Int)≤s.most) (fun _=>[]) (fun g=>StM s g.1 g.2.2.1 g.2.2.2 g.2.1) (SubM.sel .nil) ?_ ?_
 ·refine gGw ?_
  refine And.intro ⟨by omega,by omega,by omega,Pl.mk _ _⟩ ?_
  refine gGw ?_
  refine And.intro ⟨by omega,by omega,by omega,Pl.mk _ _⟩ ?_
  refine gGw ?_
  refine⟨zel,zcj (SubM.torow (b:=bL) (n:=288) (by repeat constructor) (by rw [List.length_map];exact hfl) rfl) (zac (m1:=[]) .nil (fun w' hm'=>zvJ hfl (some ⟨bL,0,none⟩) 288 w' (rowI (hm'.ok _ (List.mem_cons_self ..))) hfn) ?_)⟩
  rintro e m' ⟨k,hk,rfl,rfl⟩
  refine gGt ?_
  refine⟨zdz,zac (m1:=[]) .nil (fun w' hm'=>zgl _ 0 w') ?_⟩
  rintro e m' ⟨rfl,rfl⟩
  rw [if_pos rfl]
  refine gGt ?_
  refine⟨zel,zcj (SubM.torow (b:=bD) (n:=32) (by repeat constructor) (by rw [List.length_map];exact hdl) rfl) (zac (m1:=[]) .nil (fun w' hm'=>zvJ hdl (some ⟨bD,0,none⟩) 32 w' (rowI (hm'.ok _ (List.mem_cons_self ..))) hdn) ?_)⟩
  rintro e m' ⟨d,hd,rfl,rfl⟩
  refine gGt ?_
  refine⟨zdz,zac (m1:=[]) .nil (fun w' hm'=>zgl _ 0 w') ?_⟩
  rintro e m' ⟨rfl,rfl⟩
  rw [if_pos rfl]
  refine gGt ?_
  refine⟨zfE,zac (m1:=CdM k++CdM d++StM s at_ A c o) (by repeat constructor) (fun w' hm'=>ziQ s k d at_ A c o w' hs (by rw [hk];exact hfn) (by rw [hd];exact hdn) hm'.part) ?_⟩
  rw [hk,hd,hR]
  rintro e m' (⟨n,he,hn,rfl,rfl⟩|⟨a,o2,gA,gc,he,h2,h3,h4,rfl,rfl⟩)
  ·conv=>whnf
   exact zap (fun w' hm=>⟨_,.inl ⟨n,he,hn,rfl,rfl⟩,hm.sublist (List.nil_sublist _)⟩)
  ·refine gGt ?_
   exact⟨(a,o2,gA,gc),⟨he,h2,h3,h4⟩,trivial,SubM.sl⟩
 ·rintro ⟨a,o2,gA,gc⟩ ⟨h1,h2,h3,h4⟩
  refine gGw ?_
  exact fin0 rfl (fun w' hm=>⟨_,.inr ⟨a,o2,gA,gc,h1,h2,h3,h4,rfl,rfl⟩,hm⟩) (.inr rfl)
end
section
theorem ziT {L:List Int} {b:Bool} (h:zet L b=0):newE L=0:=by
 unfold zet at h
 split at h
 ·cases h
 ·exact h
theorem znA {L:List Int} {n:Nat} (hn:L.length=n) (none_:Bool) (A:Option Addr) (c:Nat) (w:World) (hb:IntsIn .i64 w A L) (hl:n≤100000) :
  Ctr Tryz.prog 203 [.slice A n c,.bool none_] [] (fun e m'=>(zet L none_=0∧∃ d:Cd,d.L=L∧e=.returned (.pointer (some ⟨d.B,0,none⟩))∧m'=CdM d)∨(zet L none_≠0∧e=.panicked (upP (zet L none_))∧m'=[])) w:=by
 subst hn
 exact zsF L none_ A c w hb hl
theorem zvH:∀ i,i<19→0≤ordL.getD i 0∧ordL.getD i 0<19:=by decide
theorem zrH (i:Nat) (h:i<19):nth (ordL.map (Value.int .i64)) (0+i)=some (.int .i64 (ordL.getD i 0)):=by
 rw [Nat.zero_add,zco]
 exact zbg (by rw [show ordL.length=19 from rfl];exact h)
attribute [local irreducible] Br Rn RnU Cl RdG CpG Ld Rd Lp Dr Oth Cut fin Fits Eng.Enters Md NA
theorem znz:Eng.Enters Tryz.prog 170:=zab fun _ _=>by kernel_rfl
set_option maxHeartbeats 1000000 in
theorem zve (s:Stm) (at_:Nat) (A:Option Addr) (c:Nat) (o:List Int) (w:World) (hs:s.Ok at_ o) (hm:MemOk w (Foot (StM s at_ A c o)) (StM s at_ A c o) w) :
  Ctr Tryz.prog 170 [.pointer (some ⟨s.B,0,none⟩)] (StM s at_ A c o) (StR s at_ (zhK s.q.bs s.most at_ o)) w:=by
 obtain ⟨hl,ha,hmo,ho⟩:=hs
 refine enter (cx:=CXS 91 [] w (Foot (StM s at_ A c o))) [(0,.pointer (some ⟨s.B,0,none⟩))] zaa Tryz.func170 rfl rfl rfl rfl hm ?_
 generalize hR:zhK s.q.bs s.most at_ o=R
 unfold zhK at hR
 have hp1:=zej s.q.bs at_ (n:=5) (k:=5) (by omega)
 have hp2:=zej s.q.bs (at_+5) (n:=5) (k:=5) (by omega)
 have hp3:=zej s.q.bs (at_+5+5) (n:=4) (k:=4) (by omega)
 refine gGw ?_
 refine⟨zaX,zac (m1:=RM s.q (at_)) (by repeat constructor) (fun w' hm'=>zbN s.q (at_) (5) w' hl (by omega) (by omega) hm'.part) ?_⟩
 rintro e m' ⟨rfl,rfl⟩
 by_cases h1:at_+5≤8*s.q.bs.length
 rotate_left
 ·rw [zbQ h1] at hR
  simp only at hR
  rw [(zas h1).1,(zas h1).2.1,(zas h1).2.2]
  refine gGw ?_
  refine⟨zaq,zac (m1:=[]) .nil (fun w' hm'=>zaD _ 120 w') ?_⟩
  rintro e m' ⟨rfl,rfl⟩
  rw [if_neg (by decide)]
  conv=>whnf
  exact zap (fun w' hm=>⟨_,.inl ⟨120,hR.symm,by decide,rfl,rfl⟩,hm.sublist (List.nil_sublist _)⟩)
 rw [zbq h1] at hR
 simp only at hR
 rw [(zar h1).1,(zar h1).2.1,(zar h1).2.2]
 refine gGw ?_
 refine⟨zaq,zac (m1:=[]) .nil (fun w' hm'=>zaD _ 0 w') ?_⟩
 rintro e m' ⟨rfl,rfl⟩
 rw [if_pos rfl]
 refine gGw ?_
 refine⟨zaX,zac (m1:=RM s.q (at_+5)) (by repeat constructor) (fun w' hm'=>zbN s.q (at_+5) (5) w' hl (by omega) (by omega) hm'.part) ?_⟩
 rintro e m' ⟨rfl,rfl⟩
 by_cases h2:at_+5+5≤8*s.q.bs.length
 rotate_left
 ·rw [zbQ h2] at hR
  simp only at hR
  rw [(zas h2).1,(zas h2).2.1,(zas h2).2.2]
  refine gGw ?_
  refine⟨zaq,zac (m1:=[]) .nil (fun w' hm'=>zaD _ 120 w') ?_⟩
  rintro e m' ⟨rfl,rfl⟩
  rw [if_neg (by decide)]
  conv=>whnf
  exact zap (fun w' hm=>⟨_,.inl ⟨120,hR.symm,by decide,rfl,rfl⟩,hm.sublist (List.nil_sublist _)⟩)
 rw [zbq h2] at hR
 simp only at hR
 rw [(zar h2).1,(zar h2).2.1,(zar h2).2.2]
 refine gGw ?_
 refine⟨zaq,zac (m1:=[]) .nil (fun w' hm'=>zaD _ 0 w') ?_⟩
 rintro e m' ⟨rfl,rfl⟩
 rw [if_pos rfl]
 refine gGw ?_
 refine⟨zaX,zac (m1:=RM s.q (at_+5+5)) (by repeat constructor) (fun w' hm'=>zbN s.q (at_+5+5) (4) w' hl (by omega) (by omega) hm'.part) ?_⟩
 rintro e m' ⟨rfl,rfl⟩
 by_cases h3:at_+5+5+4≤8*s.q.bs.length
 rotate_left
 ·rw [zbQ h3] at hR
  simp only at hR
  rw [(zas h3).1,(zas h3).2.1,(zas h3).2.2]
  refine gGw ?_
  refine⟨zaq,zac (m1:=[]) .nil (fun w' hm'=>zaD _ 120 w') ?_⟩
  rintro e m' ⟨rfl,rfl⟩
  rw [if_neg (by decide)]
  conv=>whnf
  exact zap (fun w' hm=>⟨_,.inl ⟨120,hR.symm,by decide,rfl,rfl⟩,hm.sublist (List.nil_sublist _)⟩)
 rw [zbq h3] at hR
 simp only at hR
 rw [(zar h3).1,(zar h3).2.1,(zar h3).2.2]
 refine gGw ?_
 refine⟨zaq,zac (m1:=[]) .nil (fun w' hm'=>zaD _ 0 w') ?_⟩
 rintro e m' ⟨rfl,rfl⟩
 rw [if_pos rfl]
 refine gGw ?_
 generalize zbS s.q.bs at_ 5=a at hR hp1 ⊢
 generalize zbS s.q.bs (at_+5) 5=b at hR hp2 ⊢
 generalize zbS s.q.bs (at_+5+5) 4=cn at hR hp3 ⊢
 by_cases hbig:286<a+257∨30<b+1
 ·have hor:(decide ((286:Int)<(a:Int)+257)||decide ((30:Int)<(b:Int)+1))=true:=by
   rcases hbig with h|h
   ·rw [decide_eq_true (show (286:Int)<(a:Int)+257 by omega)];rfl
   ·rw [decide_eq_true (show (30:Int)<(b:Int)+1 by omega),Bool.or_true]
  rw [if_pos hbig] at hR
  refine br_t hor ?_
  refine gGw ?_
  exact zap (fun w' hm=>⟨_,.inl ⟨151,hR.symm,by decide,rfl,rfl⟩,hm.sublist (List.nil_sublist _)⟩)
 rw [if_neg hbig] at hR
 refine br_f (by rw [decide_eq_false (by omega),decide_eq_false (by omega)];rfl) ?_
 refine gGw ?_;(repeat ((first|refine .mk fun Ap capp=>?_|intro _);(conv=>whnf);refine gG0 ?_))
 refine⟨zl4,zac (m1:=[]) .nil (fun w' hm'=>zrG w') ?_⟩
 rintro e m' ⟨rfl,rfl⟩
 refine gGw ?_;(repeat ((first|refine .mk fun Ap capp=>?_|intro _);(conv=>whnf);refine gG0 ?_))
 rename_i b5 b6
 have e4:(cn:Int)+4=((cn+4:Nat):Int):=by omega
 rw [e4]
 refine And.intro ⟨by omega,by omega,by omega,Pl.mk _ _⟩ ?_
 refine gGw ?_
 refine lp zaa (γ:=Nat × Nat × List Int) (fun g=>g.1≤cn+4∧at_+14≤g.2.1∧g.2.1≤8*s.q.bs.length∧g.2.2.length=19∧dynK s.q.bs s.most (a+257) (b+1) o (zrX s.q.bs (cn+4-g.1) g.1 g.2.1 g.2.2)=R)
  (fun g=>[(52,.int .i64 (g.1:Int)),(51,.int .i64 ((cn+4:Nat):Int)),(50,.slice (some ⟨b6,0,none⟩) (cn+4) 19),(0,.pointer (some ⟨s.B,0,none⟩)),(2,.int .i64 ((a:Int)+257)),(3,.int .i64 ((b:Int)+1)),(5,.pointer (some ⟨b5,0,none⟩))])
  (fun g=>.blk b5 (.cells (g.2.2.map (Value.int .i64)).toArray 302)::.blk b6 (.cells (ordL.map (Value.int .i64)).toArray 302)::StM s g.2.1 A c o) (fun g=>cn+4-g.1) (0,at_+5+5+4,List.replicate 19 0) ⟨by simp only;omega,by simp only;omega,h3,rfl,hR⟩ ⟨rfl,rfl,rfl,rfl,rfl,rfl,rfl,trivial⟩ SubM.sl ?_
 clear hR
 rintro ⟨i,a0,l⟩ ⟨hi,hat,ha0,hll,hR⟩
 simp only at hi hat ha0 hll hR
 dsimp only
 conv=>whnf
 refine br_d (fun hlt=>?_) (fun hge=>?_)
 ·have hob:=zvH i (by omega)
  have hon:=zrH i (by omega)
  rw [show cn+4-i=(cn+4-(i+1))+1 by omega,zrX] at hR
  have hp:=zej s.q.bs a0 (n:=3) (k:=3) (by omega)
  refine gGw ?_
  refine And.intro ⟨by omega,by omega,Pl.mk _ _⟩ ?_
  conv=>whnf
  refine zai (ld1 (off:=0+i) zaa (by repeat constructor) rfl rfl hon) ?_
  refine gGw ?_
  generalize ordL.getD i 0=oi at hob hR ⊢
  refine⟨zaX,zac (m1:=RM s.q (a0)) (by repeat constructor) (fun w' hm'=>zbN s.q (a0) (3) w' hl (by omega) (by omega) hm'.part) ?_⟩
  rintro e m' ⟨rfl,rfl⟩
  by_cases h4:a0+3≤8*s.q.bs.length
  rotate_left
  ·rw [zbQ h4] at hR
   simp only at hR
   rw [(zas h4).1,(zas h4).2.1,(zas h4).2.2]
   refine gGw ?_
   refine⟨zaq,zac (m1:=[]) .nil (fun w' hm'=>zaD _ 120 w') ?_⟩
   rintro e m' ⟨rfl,rfl⟩
   rw [if_neg (by decide)]
   conv=>whnf
   exact zap (fun w' hm=>⟨_,.inl ⟨120,hR.symm,by decide,rfl,rfl⟩,hm.sublist (List.nil_sublist _)⟩)
  rw [zbq h4] at hR
  simp only at hR
  rw [(zar h4).1,(zar h4).2.1,(zar h4).2.2]
  refine gGw ?_
  refine⟨zaq,zac (m1:=[]) .nil (fun w' hm'=>zaD _ 0 w') ?_⟩
  rintro e m' ⟨rfl,rfl⟩
  rw [if_pos rfl]
  refine gGw ?_
  generalize zbS s.q.bs a0 3=m at hR hp ⊢
  refine And.intro ⟨by omega,by omega,Pl.mk _ _⟩ ?_
  conv=>whnf
  refine zaO (b:=b5) (off:=0+oi.toNat) (cs':=(l.set oi.toNat (m:Int)).map (Value.int .i64)) zaa rfl (by repeat constructor) rfl rfl (Nat.ble_eq_true_of_le (show 0+oi.toNat+1≤_ by rw [List.length_map,hll];omega)) (by rw [Nat.zero_add,List.map_set];rfl) ?_
  refine gGw ?_
  exact⟨(i+1,a0+3,l.set oi.toNat (m:Int)),⟨by simp only;omega,by simp only;omega,h4,by simp only [List.length_set];exact hll,hR⟩,by simp only;omega,⟨rfl,rfl,rfl,rfl,rfl,rfl,rfl,trivial⟩,SubM.sl⟩
 ·obtain rfl:i=cn+4:=by omega
  rw [Nat.sub_self,zrX,dynK] at hR
  refine gGw ?_
  refine And.intro ⟨by omega,by omega,by omega,Pl.mk _ _⟩ ?_
  refine gGw ?_
  refine⟨ze0,zcj (SubM.torow (b:=b5) (n:=19) (by repeat constructor) (by rw [List.length_map];exact hll) rfl) (zac (m1:=[]) .nil (fun w' hm'=>znA hll false (some ⟨b5,0,none⟩) 19 w' (rowI (hm'.ok _ (List.mem_cons_self ..))) (by omega)) ?_)⟩
  rintro e m' (⟨hc,q,hq,rfl,rfl⟩|⟨hc,rfl,rfl⟩)
  rotate_left
  ·rw [if_neg hc] at hR
   conv=>whnf
   exact zap (fun w' hm=>⟨_,.inl ⟨_,hR.symm,hc,rfl,rfl⟩,hm.sublist (List.nil_sublist _)⟩)
  rw [if_pos hc] at hR
  have hqn:newE q.L=0:=by rw [hq];exact ziT hc
  subst hq
  have e5:((a:Int)+257)+((b:Int)+1)=((a+257+(b+1):Nat):Int):=by omega
  have e6:(a:Int)+257=((a+257:Nat):Int):=by omega
  refine gGw ?_
  rw [e5]
  refine⟨znx,zac (m1:=CdM q++StM s a0 A c o) (by repeat constructor) (fun w' hm'=>(zvc s q (a+257+(b+1)) a0 A c o w' ⟨hl,ha0,hmo,ho⟩ hqn (by omega) hm'.part).ex) ?_⟩
  rintro e m' ⟨(⟨n,he,hn,rfl,rfl⟩|⟨a5,r,rA,rc,he,h5,h6,hrl,rfl,rfl⟩),w9,hok⟩
  ·rw [he] at hR
   simp only at hR
   conv=>whnf
   exact zap (fun w' hm=>⟨_,.inl ⟨n,hR.symm,hn,rfl,rfl⟩,hm.sublist (List.nil_sublist _)⟩)
  rw [he] at hR
  simp only at hR
  have hr9:=hok _ (List.mem_cons_self ..)
  have hpl:Pl rA:=zft hr9 (by rw [List.length_map];omega)
  have hcap:r.length≤rc:=zeJ hr9
  refine gGw ?_
  refine And.intro ⟨by omega,by omega,hpl⟩ ?_
  conv=>whnf
  refine zai (ldR zaa (by repeat constructor) rfl rfl (zbg (xs:=r) (j:=256) (by omega))) ?_
  refine gGw ?_
  by_cases h0:r.getD 256 0=0
  ·rw [if_pos h0] at hR
   refine br_t (decide_eq_true h0) ?_
   refine gGw ?_
   exact zap (fun w' hm=>⟨_,.inl ⟨151,hR.symm,by decide,rfl,rfl⟩,hm.sublist (List.nil_sublist _)⟩)
  rw [if_neg h0] at hR
  refine br_f (decide_eq_false h0) ?_
  refine gGw ?_
  rw [e6]
  generalize a+257=ka at hR hrl e6 ⊢
  have hk1:(r.take ka).length=ka:=by rw [List.length_take];omega
  have hk2:(r.drop ka).length=r.length-ka:=List.length_drop
  refine And.intro ⟨by omega,by omega,by omega,.inr hpl⟩ ?_
  refine gGw ?_
  refine⟨ze0,zac (m1:=[]) .nil (fun w' hm'=>znA hk1 false (cutA rA rc 0 1) rc w' (IntsIn.sub (rowI (hm'.ok (IR rA rc r.length r) (by simp))) rc 0 ka (by omega) hcap) (by omega)) ?_⟩
  rintro e m' (⟨hc1,k,hk,rfl,rfl⟩|⟨hc1,rfl,rfl⟩)
  rotate_left
  ·rw [if_neg hc1] at hR
   conv=>whnf
   exact zap (fun w' hm=>⟨_,.inl ⟨_,hR.symm,hc1,rfl,rfl⟩,hm.sublist (List.nil_sublist _)⟩)
  rw [if_pos hc1] at hR
  refine gGw ?_
  refine And.intro ⟨by omega,by omega,by omega,.inr hpl⟩ ?_
  refine gGw ?_
  refine⟨ze0,zac (m1:=[]) .nil (fun w' hm'=>znA hk2 true (cutA rA rc ka 1) (rc-ka) w' (by
   have h:=IntsIn.sub (k:=.i64) (rowI (hm'.ok (IR rA rc r.length r) (by simp))) rc ka (r.length-ka) (by omega) hcap
   rwa [List.take_of_length_le (by rw [hk2];exact Nat.le_refl _)] at h) (by omega)) ?_⟩
  rintro e m' (⟨hc2,d,hd,rfl,rfl⟩|⟨hc2,rfl,rfl⟩)
  rotate_left
  ·rw [if_neg hc2] at hR
   conv=>whnf
   exact zap (fun w' hm=>⟨_,.inl ⟨_,hR.symm,hc2,rfl,rfl⟩,hm.sublist (List.nil_sublist _)⟩)
  rw [if_pos hc2] at hR
  refine gGw ?_
  refine⟨zfE,zac (m1:=CdM k++CdM d++StM s a5 A c o) (by repeat constructor) (fun w' hm'=>ziQ s k d a5 A c o w' ⟨hl,h6,hmo,ho⟩ (by rw [hk];exact ziT hc1) (by rw [hd];exact ziT hc2) hm'.part) ?_⟩
  rw [hk,hd,hR]
  rintro e m' (⟨n,he2,hn,rfl,rfl⟩|⟨a6,o2,gA,gc,he2,h7,h8,h9,rfl,rfl⟩)
  ·conv=>whnf
   exact zap (fun w' hm=>⟨_,.inl ⟨n,he2,hn,rfl,rfl⟩,hm.sublist (List.nil_sublist _)⟩)
  ·refine gGw ?_
   exact fin0 rfl (fun w' hm=>⟨_,.inr ⟨a6,o2,gA,gc,he2,by omega,h8,h9,rfl,rfl⟩,hm.sl⟩) (.inr rfl)
end
end Go.Proofs.YtlmgelmloddfgaaGreat
namespace Go.Proofs.YtlmgelmloddfgaaGreat.Eng
open Go Go.RowKit
theorem zjP {cx:Cx} (e0:Env) (ht:TabOk cx.P cx.tab) {f:FuncId} {fn:Func} {c:Code} (hf:cx.P.funcs[f]?=some fn) {id d d2:Nat} {ty ty2:Nat} {pos pos2:String} {after2:Array Edge} {tys:Array TypeId} (hb:fn.body=some (.seq (.region id #[⟨some d,.call ⟨.builtin .recover,#[],tys⟩,ty,pos,#[],none⟩,⟨some d2,.assign (.tmp d),ty2,pos2,after2,none⟩] false) c)) (hn:fn.ntmps=cx.n) (he0:zfN 0 e0=true) (hl:Nat.ble e0.length cx.n=true) (hd:Nat.blt d cx.n=true) (hd2:Nat.blt d2 cx.n=true) {m:Mem} {w:World} (hm:MemOk cx.w0 cx.S m w)
  {R:Ending→World→Prop} {u:FrameMode} (h:XC cx c (fin cx fn R) ((d2,(recV u).1)::(d,(recV u).1)::e0) m) (hD:cx.df=[]:=by rfl):CallsD cx.P f (e0.map (·.2)).toArray u w fun e u' w'=>u'=(recV u).2∧R e w':=by
 have he0':=zdT he0
 generalize hargs:e0.map (·.2)=args at he0'
 subst he0'
 refine callsD_of_wpS hf hb fun c₀ cs hu=>?_
 have he:EnvOk cx.n cx.df (zhm 0 args) { tmps:=args.toArray++Array.replicate (fn.ntmps-args.toArray.size) undef,defers:=[] }:=by
  refine⟨hD.symm,?_,?_⟩
  ·have hle:=Nat.le_of_ble_eq_true hl
   have hlen:args.length≤cx.n:=by rw [← hargs];simpa using hle
   simp;omega
  ·intro t v hv
   obtain ⟨_,h2⟩:=zd6 _ _ _ _ hv
   simp at h2
   have h3:(args.toArray++Array.replicate (fn.ntmps-args.toArray.size) undef)[t]?=some v:=by
    rw [Array.getElem?_append_left (by simpa using (List.getElem?_eq_some_iff.1 h2).1)]
    simpa using h2
   rw [Array.getD_eq_getD_getElem?,h3]
   rfl
 have hd':(some d).all (fun i=>decide (i<cx.n))=true:=by
  have:d<cx.n:=Nat.le_of_ble_eq_true hd
  simp [this]
 have hd2':(some d2).all (fun i=>decide (i<cx.n))=true:=by
  have:d2<cx.n:=Nat.le_of_ble_eq_true hd2
  simp [this]
 have rest:∀ a,EnvOk cx.n cx.df ((d2,(recV u).1)::(d,(recV u).1)::zhm 0 args) a→c.wpS cx.P (bodyPostS cx.P fn c₀ cs fun e u' w'=>u'=(recV u).2∧R e w') a ({ c₀ with mode:=(recV u).2 }::cs) w:=by
  intro a ha
  refine wpS_of_wp (wp_mono (zg5 ht c _ _ m _ w ha hm h) ?_)
  rintro ex a' w' ⟨e',m',he',hm',hk⟩
  cases ex with
  | normal=>obtain ⟨vs,h1,h2⟩:=hk;exact⟨he'.1.trans hD,_,rfl,_,zcx he' hm' h1,rfl,h2 w' hm'⟩
  | ret=>obtain ⟨vs,h1,h2⟩:=hk;exact⟨he'.1.trans hD,_,rfl,_,zcx he' hm' h1,rfl,h2 w' hm'⟩
  | panic ch=>exact⟨he'.1.trans hD,_,rfl,rfl,hk w' hm'⟩
  | exit id=>exact hk.elim
  | goto l=>exact hk.elim
  | outgrown=>exact hk.elim
 have last:∀ a,EnvOk cx.n cx.df ((d,(recV u).1)::zhm 0 args) a→wpOpsS cx.P #[⟨some d,.call ⟨.builtin .recover,#[],tys⟩,ty,pos,#[],none⟩,⟨some d2,.assign (.tmp d),ty2,pos2,after2,none⟩] (Exit.thenS (c.wpS cx.P (bodyPostS cx.P fn c₀ cs fun e u' w'=>u'=(recV u).2∧R e w')) (bodyPostS cx.P fn c₀ cs fun e u' w'=>u'=(recV u).2∧R e w')) [1] a ({ c₀ with mode:=(recV u).2 }::cs) w:=by
  intro a ha
  have hev:a.eval (.tmp d)=(recV u).1:=ha.ev (x:=.tmp d) (by simp [Env.ev,Env.get])
  have hrun2:(execOp a.eval ⟨some d2,.assign (.tmp d),ty2,pos2,after2,none⟩).run cx.P w=.ok (.value (a.eval (.tmp d))) w:=rfl
  simp only [wpOpsS,List.getElem?_toArray,List.getElem?_cons_succ,List.getElem?_cons_zero,Region.wanted,if_true,hrun2,Oper.upon]
  rw [hev]
  exact rest _ (ha.put hd2' _)
 refine wpS_seq (wpS_region ?_)
 have hr:=zm6 c₀ cs
 rw [hu] at hr
 generalize ha:({ tmps:=args.toArray++Array.replicate (fn.ntmps-args.toArray.size) undef,defers:=[] }:Act)=a at he
 show wpOpsS _ _ _ [0,1] _ _ _
 have hrun:(execOp a.eval ⟨some d,.call ⟨.builtin .recover,#[],tys⟩,ty,pos,#[],none⟩).run cx.P w=.ok .recover w:=rfl
 simp only [wpOpsS,List.getElem?_toArray,List.getElem?_cons_zero,Region.wanted,if_true,hrun]
 cases hrec:recoverD (c₀::cs) with
 | none =>
  rw [hrec] at hr
  simp only [Prod.mk.injEq] at hr
  simp only [Exit.thenS]
  rw [hr.2,hr.1]
  exact last _ (he.put hd' _)
 | some p =>
  obtain ⟨v,cs'⟩:=p
  rw [hrec] at hr
  simp only [Prod.mk.injEq] at hr
  simp only [Exit.thenS]
  rw [hr.2,hr.1]
  exact last _ (he.put hd' _)
end Go.Proofs.YtlmgelmloddfgaaGreat.Eng
namespace Go.Proofs.YtlmgelmloddfgaaGreat
open Go Go.RowKit Eng
section
theorem zxb (ox:Nat) (w:World):(zdK .neq 20 (.tmp ox) (.const .nilIface) .nilIface .nilIface).run Tryz.prog w=.ok (.bool false) w:=by kernel_rfl
theorem zxc (ox:Operand) (n:Int) (w:World):(zdK .neq 20 ox (.const .nilIface) (.iface 28 (.int .i64 n)) .nilIface).run Tryz.prog w=.ok (.bool true) w:=by kernel_rfl
theorem zxo (n:Int) (w:World):(Instr.typeAssert (.iface 28 (.int .i64 n)) 20 28 false).run Tryz.prog w=.ok (.int .i64 n) w:=by kernel_rfl
theorem zk4 {cx:Cx} {fn:Func} {R:Ending→World→Prop} {e:Env} {m:Mem} {t s:Tmp} {ty ty2:TypeId} (hr:fn.results=#[.cell t ty,.cell s ty2]) {u u' v v':Value} (hu:e.get t=some u) (hv:Ld cx m ty u v) (hu':e.get s=some u') (hv':Ld cx m ty2 u' v') (h:∀ w,MemOk cx.w0 cx.S m w→R (.returned (.tuple #[v,v'])) w):DEnd cx fn R e m .returning :=
 ⟨[v,v'],by rw [hr];exact⟨u,v,[v'],hu,hv,rfl,u',v',[],hu',hv',rfl,rfl⟩,h⟩
theorem zxJ (b k:Nat):pl (some ⟨b,0,none⟩) (mulC (Int.toNat (k:Int)) ty262.cells)=some ⟨b,0+k,none⟩:=by
 rw [zcp,Int.toNat_natCast,show ty262.cells=1 from rfl,Nat.mul_one];rfl
theorem ld_fn {cx:Cx} (ht:TabOk cx.P cx.tab) (hi:cx.tab.get 262=some ty262) {m:Mem} {b k t':Nat} {cs:List Value} {v:Value} (hh:Has m (.blk b (.cells cs.toArray t'))) (hv:nth cs k=some v):Ld cx m 262 (.pointer (pl (some ⟨b,0,none⟩) (mulC (Int.toNat (k:Int)) ty262.cells))) v:=by
 rw [zxJ]
 exact ld1 ht hh hi rfl (by rw [Nat.zero_add];exact hv)
attribute [local irreducible] Br Rn RnU Cl RdG CpG Ld Rd Lp Dr Oth Cut fin Fits Eng.Enters Md NA
attribute [local irreducible] finD WD
abbrev ErM (E:Nat) (n:Int):Mem:=[.blk E (.cells #[.int .i64 n] 28)]
theorem zdC:Eng.Enters Tryz.prog 167:=zab fun _ _=>by kernel_rfl
theorem znB:Eng.Enters Tryz.prog 135:=zab fun _ _=>by kernel_rfl
theorem zsG (E:Nat) (n:Int) (w:World) (hm:MemOk w (Foot (ErM E n)) (ErM E n) w):CtrD Tryz.prog 167 [.pointer (some ⟨E,0,none⟩)] .returning (ErM E n) (fun e u' m'=>e=.returned (.tuple #[])∧u'=.returning∧m'=ErM E n) w:=by
 refine (zjP (cx:=CXS 7 [] w (Foot (ErM E n))) (R:=fun e w'=>∃ m',(e=.returned (.tuple #[])∧m'=ErM E n)∧MemOk w (Foot (ErM E n)) m' w') [(0,.pointer (some ⟨E,0,none⟩))] zaa Tryz.func167 rfl rfl rfl rfl rfl rfl hm ?_).mono (fun e u' w' hh=>?_)
 ·refine gGw ?_
  refine Rd.n (zcl fun w=>zxb _ w) ?_
  refine gGw ?_
  refine br_f rfl ?_
  refine gGw ?_
  refine fin0 rfl (fun w' hm=>?_) (.inr rfl)
  exact⟨_,⟨rfl,rfl⟩,hm.sl⟩
 ·obtain ⟨h1,m',⟨h2,h3⟩,h4⟩:=hh
  exact⟨m',⟨h2,h1,h3⟩,h4⟩
theorem ziR (E:Nat) (n0 n:Int) (w:World) (hm:MemOk w (Foot (ErM E n0)) (ErM E n0) w):CtrD Tryz.prog 167 [.pointer (some ⟨E,0,none⟩)] (.panicking (upP n)) (ErM E n0) (fun e u' m'=>e=.returned (.tuple #[])∧settle u'=.returning∧m'=ErM E n) w:=by
 refine (zjP (cx:=CXS 7 [] w (Foot (ErM E n0))) (R:=fun e w'=>∃ m',(e=.returned (.tuple #[])∧m'=ErM E n)∧MemOk w (Foot (ErM E n0)) m' w') [(0,.pointer (some ⟨E,0,none⟩))] zaa Tryz.func167 rfl rfl rfl rfl rfl rfl hm ?_).mono (fun e u' w' hh=>?_)
 ·refine gGw ?_
  refine Rd.n (zcl fun w=>zxc _ n w) ?_
  refine gGw ?_
  refine br_t rfl ?_
  refine gGw ?_
  refine Rd.n (zcl fun w=>zxo n w) ?_
  refine gGw ?_
  refine fin0 rfl (fun w' hm=>?_) (.inr rfl)
  exact⟨_,⟨rfl,rfl⟩,hm.sl⟩
 ·obtain ⟨h1,m',⟨h2,h3⟩,h4⟩:=hh
  exact⟨m',⟨h2,by rw [h1];rfl,h3⟩,h4⟩
theorem zxg (s:Stm) (at_:Nat) (A:Option Addr) (c:Nat) (o:List Int) (w:World) (hm:MemOk w (Foot (StM s at_ A c o)) (StM s at_ A c o) w):Ctr Tryz.prog 171 [.pointer (some ⟨s.B,0,none⟩)] (StM s at_ A c o) (StR s at_ (.error 150)) w:=by
 refine enter (cx:=CXS 3 [] w (Foot (StM s at_ A c o))) [(0,.pointer (some ⟨s.B,0,none⟩))] zaa Tryz.func171 rfl rfl rfl rfl hm ?_
 refine gGw ?_
 exact zap (fun w' hm=>⟨_,.inl ⟨150,rfl,by decide,rfl,rfl⟩,hm.sublist (List.nil_sublist _)⟩)
theorem zmt (k:Nat) (h:k<4):Eng.Enters Tryz.prog (168+k):=by
 rcases show k=0∨k=1∨k=2∨k=3 by omega with rfl|rfl|rfl|rfl
 ·exact zjf
 ·exact zk3
 ·exact znz
 ·exact zk0
theorem zsC (s:Stm) (k at_:Nat) (A:Option Addr) (c:Nat) (o:List Int) (w:World) (h:k<4) (hs:s.Ok at_ o) (hm:MemOk w (Foot (StM s at_ A c o)) (StM s at_ A c o) w):Ctr Tryz.prog (168+k) [.pointer (some ⟨s.B,0,none⟩)] (StM s at_ A c o) (StR s at_ (zuV s.q.bs s.most k at_ o)) w:=by
 rcases show k=0∨k=1∨k=2∨k=3 by omega with rfl|rfl|rfl|rfl
 ·exact znw s at_ A c o w hs hm
 ·exact zqj s at_ A c o w hs hm
 ·exact zve s at_ A c o w hs hm
 ·exact zxg s at_ A c o w hm
def fnC:List Value:=[.func (.func 168) #[] #[],.func (.func 169) #[] #[],.func (.func 170) #[] #[],.func (.func 171) #[] #[]]
theorem zx3 (k:Nat) (h:k<4):nth fnC k=some (.func (.func (168+k)) #[] #[]):=by
 rcases show k=0∨k=1∨k=2∨k=3 by omega with rfl|rfl|rfl|rfl<;>rfl
def BlkR (s:Stm) (at_:Nat) (R:Except Int (Bool × Nat × List Int)) (e:Ending) (m':Mem):Prop :=
 (∃ n,R=.error n∧n≠0∧∃ (a b c d:Int) (l:Bool),e=.returned (.tuple #[.agg #[.int .i64 a,.bool l,.int .i64 b,.int .i64 c,.int .i64 d],.int .i64 n])∧m'=[]) ∨
 ∃ l a o A c,R=.ok (l,a,o)∧at_<a∧a≤8*s.q.bs.length∧(o.length:Int)≤s.most∧(∃ (a b c d:Int),e=.returned (.tuple #[.agg #[.int .i64 a,.bool l,.int .i64 b,.int .i64 c,.int .i64 d],.int .i64 0]))∧m'=StM s a A c o
set_option maxHeartbeats 1000000 in
theorem zvf (s:Stm) (at_:Nat) (A:Option Addr) (c:Nat) (o:List Int) (w:World) (hs:s.Ok at_ o) (hm:MemOk w (Foot (StM s at_ A c o)) (StM s at_ A c o) w) :
  Ctr Tryz.prog 135 [.pointer (some ⟨s.B,0,none⟩)] (StM s at_ A c o) (BlkR s at_ (zo0 s.q.bs s.most at_ o)) w:=by
 have hs0:=hs
 obtain ⟨hl,ha,hmo,ho⟩:=hs
 generalize hR:zo0 s.q.bs s.most at_ o=R
 have hR1:¬ at_+1≤8*s.q.bs.length→R=.error 120:=fun h=>hR.symm.trans (zqu h)
 have hR2:at_+1≤8*s.q.bs.length→¬ at_+1+2≤8*s.q.bs.length→R=.error 120:=fun h h2=>hR.symm.trans (zqt h h2)
 have hR3:∀ n,at_+1≤8*s.q.bs.length→at_+1+2≤8*s.q.bs.length→zuV s.q.bs s.most (zbS s.q.bs (at_+1) 2) (at_+1+2) o=.error n→R=.error n:=fun n h h2 h3=>hR.symm.trans (zsN h h2 h3)
 have hR4:∀ a3 o2,at_+1≤8*s.q.bs.length→at_+1+2≤8*s.q.bs.length→zuV s.q.bs s.most (zbS s.q.bs (at_+1) 2) (at_+1+2) o=.ok (a3,o2)→R=.ok (decide (zbS s.q.bs at_ 1=1),a3,o2):=fun a3 o2 h h2 h3=>hR.symm.trans (zsM h h2 h3)
 clear hR
 refine zxe (cx:=CXS 61 [] w (Foot (StM s at_ A c o))) [(0,.pointer (some ⟨s.B,0,none⟩))] zaa Tryz.func135 rfl rfl rfl rfl hm ?_
 refine zxw (cx:=CXS 61 [] w (Foot (StM s at_ A c o))) zaa ?_
 conv=>whnf
 intro bB
 conv=>whnf
 intro eB
 conv=>whnf
 refine zs5 (cx:=CXS 61 [] w (Foot (StM s at_ A c o))) zaa 1 rfl rfl ?_
 refine gGw ?_
 refine⟨_,_,_,_,rfl,rfl,?_⟩
 refine wd_of (cx:=⟨Tryz.prog,61,w,Foot (StM s at_ A c o),tab,[],[],[],[{ target:=.fn (.func 167) #[.pointer (some ⟨eB,0,none⟩)],args:=#[] }]⟩) zaa ?_
 refine gGw ?_;(repeat ((first|refine .mk fun Ap capp=>?_|intro _);(conv=>whnf);refine gG0 ?_))
 rename_i tB
 refine⟨ziZ,zcj (m1:=.blk tB (.cells fnC.toArray 263)::.blk eB (.cells [.int .i64 0].toArray 28)::.blk bB (.cells [.int .i64 0,.bool false,.int .i64 0,.int .i64 0,.int .i64 0].toArray 226)::StM s at_ A c o) (SubM.refl _ _) (zac (m1:=RM s.q at_) (by repeat constructor) (fun w' hm'=>zsT s.q at_ w' hm'.part) ?_)⟩
 rintro e m' ⟨rfl,rfl⟩
 refine gGw ?_
 refine⟨zaX,zac (m1:=RM s.q (at_)) (by repeat constructor) (fun w' hm'=>zbN s.q (at_) (1) w' hl (by omega) (by omega) hm'.part) ?_⟩
 rintro e m' ⟨rfl,rfl⟩
 by_cases h1:at_+1≤8*s.q.bs.length
 rotate_left
 ·rw [(zas h1).1,(zas h1).2.1,(zas h1).2.2]
  refine gGw ?_
  refine⟨zaq,zac (m1:=[]) .nil (fun w' hm'=>zaD _ 120 w') ?_⟩
  rintro e m' ⟨rfl,rfl⟩
  rw [if_neg (by decide)]
  conv=>whnf
  refine zss (zfh (m1:=ErM eB 0) rfl (by simp) zdC rfl (by repeat constructor) (fun w' hm'=>ziR eB 0 (120) w' hm'.part) ?_)
  rintro en u' m1 ⟨rfl,hu,rfl⟩
  show DEnd _ _ _ _ _ (settle u')
  rw [hu]
  exact zk4 rfl rfl (ldN zaa (by repeat constructor) rfl rfl rfl rfl) rfl (ld1 zaa (by repeat constructor) rfl rfl rfl) (fun w' hm'=>⟨[],.inl ⟨120,(hR1 h1),by decide,_,_,_,_,_,rfl,rfl⟩,hm'.sublist (List.nil_sublist _)⟩)
 rw [(zar h1).1,(zar h1).2.1,(zar h1).2.2]
 refine gGw ?_
 refine⟨zaq,zac (m1:=[]) .nil (fun w' hm'=>zaD _ 0 w') ?_⟩
 rintro e m' ⟨rfl,rfl⟩
 rw [if_pos rfl]
 refine gGw ?_
 refine⟨zaX,zac (m1:=RM s.q (at_+1)) (by repeat constructor) (fun w' hm'=>zbN s.q (at_+1) (2) w' hl (by omega) (by omega) hm'.part) ?_⟩
 rintro e m' ⟨rfl,rfl⟩
 by_cases h2:at_+1+2≤8*s.q.bs.length
 rotate_left
 ·rw [(zas h2).1,(zas h2).2.1,(zas h2).2.2]
  refine gGw ?_
  refine⟨zaq,zac (m1:=[]) .nil (fun w' hm'=>zaD _ 120 w') ?_⟩
  rintro e m' ⟨rfl,rfl⟩
  rw [if_neg (by decide)]
  conv=>whnf
  refine zss (zfh (m1:=ErM eB 0) rfl (by simp) zdC rfl (by repeat constructor) (fun w' hm'=>ziR eB 0 (120) w' hm'.part) ?_)
  rintro en u' m1 ⟨rfl,hu,rfl⟩
  show DEnd _ _ _ _ _ (settle u')
  rw [hu]
  exact zk4 rfl rfl (ldN zaa (by repeat constructor) rfl rfl rfl rfl) rfl (ld1 zaa (by repeat constructor) rfl rfl rfl) (fun w' hm'=>⟨[],.inl ⟨120,(hR2 h1 h2),by decide,_,_,_,_,_,rfl,rfl⟩,hm'.sublist (List.nil_sublist _)⟩)
 rw [(zar h2).1,(zar h2).2.1,(zar h2).2.2]
 refine gGw ?_
 refine⟨zaq,zac (m1:=[]) .nil (fun w' hm'=>zaD _ 0 w') ?_⟩
 rintro e m' ⟨rfl,rfl⟩
 rw [if_pos rfl]
 refine gGw ?_
 have hk4:zbS s.q.bs (at_+1) 2<4:=zhC s.q.bs (at_+1) 2
 generalize zbS s.q.bs (at_+1) 2=kd at hR3 hR4 hk4 ⊢
 generalize zbS s.q.bs at_ 1=la at hR4 ⊢
 refine And.intro ⟨by omega,by omega,Pl.mk _ _⟩ ?_
 conv=>whnf
 refine zai (ld_fn (cs:=fnC) (v:=.func (.func (168+kd)) #[] #[]) zaa rfl (by repeat constructor) (zx3 kd hk4)) ?_
 refine gGw ?_
 refine⟨zmt kd hk4,zac (m1:=StM s (at_+1+2) A c o) (by repeat constructor) (fun w' hm'=>zsC s kd (at_+1+2) A c o w' hk4 ⟨hl,h2,hmo,ho⟩ hm'.part) ?_⟩
 rintro e m' (⟨n,he,hn,rfl,rfl⟩|⟨a3,o2,gA,gc,he,h5,h6,h7,rfl,rfl⟩)
 ·have hRe:=hR3 n h1 h2 he
  conv=>whnf
  refine zss (zfh (m1:=ErM eB 0) rfl (by simp) zdC rfl (by repeat constructor) (fun w' hm'=>ziR eB 0 (n) w' hm'.part) ?_)
  rintro en u' m1 ⟨rfl,hu,rfl⟩
  show DEnd _ _ _ _ _ (settle u')
  rw [hu]
  exact zk4 rfl rfl (ldN zaa (by repeat constructor) rfl rfl rfl rfl) rfl (ld1 zaa (by repeat constructor) rfl rfl rfl) (fun w' hm'=>⟨[],.inl ⟨n,hRe,hn,_,_,_,_,_,rfl,rfl⟩,hm'.sublist (List.nil_sublist _)⟩)
 have hRe:=hR4 a3 o2 h1 h2 he
 clear hR1 hR2 hR3 hR4
 rw [show decide (la=1)=decide ((la:Int)=1) from decide_eq_decide.2 (by omega)] at hRe
 refine gGw ?_
 refine ziP (γ:=Int) 19 (Tr.hs [0,1,2,3,4,5,7,8,9,10,11,12,13,14] (.sq [6,15,16,17,18,19] .done)) [.blk s.B (.cells (stC s gA gc o2).toArray 231)] zaa mixed (by kernel_rfl) rfl
  (fun _=>True) (fun _=>[(2,.pointer (some ⟨bB,0,none⟩)),(3,.pointer (some ⟨eB,0,none⟩))])
  (fun k=>.blk bB (.cells [.int .i64 k,.bool (decide ((la:Int)=1)),.int .i64 (at_:Int),.int .i64 (a3:Int),.int .i64 ((o2.length:Int)-o.length)].toArray 226)::.blk eB (.cells [.int .i64 0].toArray 28)::StM s a3 gA gc o2) SubM.sl ?_ ?_
 ·refine gGw ?_
  refine⟨ziZ,zac (m1:=RM s.q a3) (by repeat constructor) (fun w' hm'=>zsT s.q a3 w' hm'.part) ?_⟩
  rintro e m' ⟨rfl,rfl⟩
  refine gGt ?_
  exact⟨(kd:Int),trivial,⟨rfl,rfl,trivial⟩,SubM.sl⟩
 ·rintro k -
  refine gGw ?_
  refine zx4 (.inl rfl) (zfh (m1:=ErM eB 0) rfl (by simp) zdC rfl (by repeat constructor) (fun w' hm'=>zsG eB 0 w' hm'.part) ?_)
  rintro en u' m1 ⟨rfl,rfl,rfl⟩
  exact zk4 rfl rfl (ldN zaa (by repeat constructor) rfl rfl rfl rfl) rfl (ld1 zaa (by repeat constructor) rfl rfl rfl) (fun w' hm'=>⟨StM s a3 gA gc o2,.inr ⟨_,a3,o2,gA,gc,hRe,by omega,h6,h7,⟨k,at_,a3,(o2.length:Int)-o.length,rfl⟩,rfl⟩,hm'.sel (by repeat constructor)⟩)
end
section
attribute [local irreducible] Br Rn RnU Cl RdG CpG Ld Rd Lp Dr Oth Cut fin Fits Eng.Enters Md NA
theorem zms:Eng.Enters Tryz.prog 134:=zab fun _ _=>by kernel_rfl
theorem zsA (A:Option Addr) (c:Nat) (bs:List UInt8) (most:Int) (w:World) (hb:BytsIn w A bs) (hn:bs.length≤20000000) (hmo:0≤most∧most≤1048576) :
  Ctr Tryz.prog 134 [.slice A bs.length c,.int .i64 most] [] (fun e m'=>∃ s:Stm,s.q.bs=bs∧s.most=most∧e=.returned (.tuple #[.pointer (some ⟨s.B,0,none⟩),.int .i64 0])∧m'=StM s 0 none 0 []) w:=by
 have hF:∀ w',Fr (Foot []) w w'→BytsIn w' A bs:=fun w' hf=>Byts.in_ (BytsIn.byts (cx:=CX 0 [] w) (m:=[]) hb (fun _ h=>h)) ((MemOk.nil w _).same (hf.mono (fun k _ ⟨r,hr,_⟩=>by cases hr)))
 refine enter (cx:=CXS 17 [] w (Foot [])) [(0,.slice A bs.length c),(1,.int .i64 most)] zaa Tryz.func134 rfl rfl rfl rfl (MemOk.nil w _) ?_
 refine gGw ?_
 refine br_f (by rw [decide_eq_false (by omega),decide_eq_false (by omega)];rfl) ?_
 refine gGw ?_
 refine⟨zhr,zac (m1:=[]) .nil (fun w' hm'=>zkG A c bs w' (hF w' hm'.fr) hn) ?_⟩
 rintro e m' ⟨q,hq,rfl,rfl⟩
 refine gGw ?_;(repeat ((first|refine .mk fun Ap capp=>?_|intro _);(conv=>whnf);refine gG0 ?_))
 rename_i sB
 exact fin2 rfl rfl rfl (fun w' hm=>⟨_,⟨⟨sB,q,most⟩,hq,rfl,rfl,rfl⟩,(SubM.row0 (cx:=CXS 17 [] w (Foot [])) (SubM.refl _ _) 5 1 w' hm).sel (by repeat constructor)⟩)
set_option maxHeartbeats 1000000 in
theorem zjl:zlf zda:=by
 intro A c bs most w hb hn hmo
 have hF:∀ w',Fr (Foot []) w w'→BytsIn w' A bs:=fun w' hf=>Byts.in_ (BytsIn.byts (cx:=CX 0 [] w) (m:=[]) hb (fun _ h=>h)) ((MemOk.nil w _).same (hf.mono (fun k _ ⟨r,hr,_⟩=>by cases hr)))
 refine enter (cx:=CXS 43 [] w (Foot [])) [(0,.slice A bs.length c),(1,.int .i64 most)] zaa Tryz.func95 rfl rfl rfl rfl (MemOk.nil w _) ?_
 have hU:∀ R,zgD bs most (zfp bs) 0 []=R→zda bs most=match R with
  | .error _=>true
  | .ok (_,o)=>!decide ((o.length:Int)=most):=fun R h=>by rw [← h];rfl
 generalize hR:zgD bs most (zfp bs) 0 []=R at hU
 replace hU:=hU R rfl
 refine gGw ?_
 refine⟨zms,zac (m1:=[]) .nil (fun w' hm'=>zsA A c bs most w' (hF w' hm'.fr) hn hmo) ?_⟩
 rintro e m' ⟨s,hsb,hsm,rfl,rfl⟩
 subst hsb hsm
 refine gGw ?_
 refine br_n (br_t rfl ?_)
 refine gGw ?_
 refine lp zaa (γ:=Nat × Nat × Option Addr × Nat × List Int) (fun g=>8*s.q.bs.length<g.1+g.2.1∧s.Ok g.2.1 g.2.2.2.2∧zgD s.q.bs s.most g.1 g.2.1 g.2.2.2.2=R)
  (fun g=>[(7,.pointer (some ⟨s.B,0,none⟩))]) (fun g=>StM s g.2.1 g.2.2.1 g.2.2.2.1 g.2.2.2.2) (fun g=>g.1) (zfp s.q.bs,0,none,0,[]) ⟨by simp only [zfp];omega,⟨hn,Nat.zero_le _,hmo,hmo.1⟩,hR⟩ ⟨rfl,trivial⟩ SubM.sl ?_
 clear hR
 rintro ⟨f,a0,gA,gc,o⟩ ⟨hf,hok,hR⟩
 simp only at hf hok hR
 have ha0:=hok.at_
 obtain ⟨f,rfl⟩:∃ f',f=f'+1:=⟨f-1,by omega⟩
 rw [zgD] at hR
 dsimp only
 refine gGw ?_
 refine⟨znB,zac (m1:=StM s a0 gA gc o) (by repeat constructor) (fun w' hm'=>zvf s a0 gA gc o w' hok hm'.part) ?_⟩
 generalize zo0 s.q.bs s.most a0 o=B at hR
 rintro e m' (⟨n,he,hne,b1,b2,b3,b4,bl,rfl,rfl⟩|⟨l,a1,o1,hA,hc,he,h1,h2,h3,⟨b1,b2,b3,b4,rfl⟩,rfl⟩)
 ·subst he
  simp only at hR
  refine gGw ?_;(repeat ((first|refine .mk fun Ap capp=>?_|intro _);(conv=>whnf);refine gG0 ?_))
  refine br_n (br_f (decide_eq_false hne) ?_)
  refine gGw ?_
  exact fin3 rfl rfl rfl rfl (fun w' hm=>⟨_,⟨⟨_,_,_,_,_,rfl,by rw [hU,← hR,decide_eq_false hne];rfl⟩,rfl⟩,hm.sublist (List.nil_sublist _)⟩)
 ·subst he
  simp only at hR
  refine gGw ?_;(repeat ((first|refine .mk fun Ap capp=>?_|intro _);(conv=>whnf);refine gG0 ?_))
  refine br_n (br_t rfl ?_)
  refine gGw ?_
  cases l with
  | true =>
   rw [if_pos rfl] at hR
   refine br_t rfl ?_
   conv=>whnf
   refine za5 (γ:=Int) (Tr.hs [0,1,2,3,4,5,6,7] (.sq [8] (.hs [9,10,11,12,13] .done))) [.blk s.B (.cells (stC s hA hc o1).toArray 231)] zaa mixed (by kernel_rfl) rfl (fun _=>True)
    (fun k=>[(4,.slice hA o1.length hc),(5,.int .i64 k),(6,.int .i64 0)]) (fun _=>[]) SubM.sl ?_ ?_
   ·refine gGw ?_
    refine⟨ziZ,zac (m1:=RM s.q a1) (by repeat constructor) (fun w' hm'=>zsT s.q a1 w' hm'.part) ?_⟩
    rintro e m' ⟨rfl,rfl⟩
    refine gGt ?_
    exact⟨_,trivial,⟨rfl,rfl,rfl,trivial⟩,SubM.sel .nil⟩
   ·rintro k -
    refine gGw ?_
    exact fin3 rfl rfl rfl rfl (fun w' hm=>⟨_,⟨⟨_,_,_,_,_,rfl,by rw [hU,← hR];rfl⟩,rfl⟩,hm⟩)
  | false =>
   rw [if_neg (by decide)] at hR
   refine br_f rfl ?_
   refine gGw ?_
   exact⟨(f,a1,hA,hc,o1),⟨by simp only;omega,⟨hn,h2,hmo,h3⟩,hR⟩,by simp only;omega,⟨rfl,trivial⟩,SubM.sl⟩
end
section
abbrev evW (p:WP):List Ev:=zfn zda zaU za6 p
def zxv (bs:List UInt8) (A:Option Addr) (cap:Nat) (e:Ending) (m':Mem):Prop :=
 (zbz bs=none∧e=.returned (.tuple #[.pointer none,.int .i64 180])∧m'=[]) ∨
 ∃ p s' g,zbz bs=some p.h∧p.A=A∧p.cap=cap∧p.bs=bs∧p.c=clus p.h.bits∧p.Ok∧HOk p.h∧CmpR p (appL s0W (evW p)) s'∧WOk s' g∧e=.returned (.tuple #[.pointer (some ⟨p.wB,0,none⟩),.int .i64 0])∧m'=WM p s' g
theorem zhG {bs:List UInt8} {h:Hd} (hh:zbz bs=some h):HOk h:=by
 unfold zbz at hh
 split at hh
 ·cases hh
 ·split at hh
  ·rename_i h3
   injection hh with hh
   subst hh
   refine zgV ?_ h3.2.1
   show 0≤IntKind.u64.wrap _
   rw [IntKind.wrap_u64];omega
  ·cases hh
theorem zmm {bs:List UInt8} {h:Hd} (hh:zbz bs=some h):mayH h=true:=by
 unfold zbz at hh
 split at hh
 ·cases hh
 ·split at hh
  ·rename_i h3
   injection hh with hh
   subst hh
   exact h3.2.1
  ·cases hh
theorem zey {cx:Cx} {m m1 m2:Mem} (h:m=m1) (hs:SubM cx m1 m2):SubM cx m m2:=h ▸ hs
theorem zya {cx:Cx} {id:Nat} {ops:Array Oper} {k:Exit→Env→Mem→Prop} {e:Env} {m m':Mem} (hs:SubM cx m m') (h:Dr cx id ops k e m'):Dr cx id ops k e m:=fun a w he hm=>h a w he (hs w hm)
abbrev wHD (dB:Nat) (h:Hd):Res:=.blk dB (.cells h.cells.toArray 34)
abbrev wEnd (A:Option Addr) (c:Nat) (bs:List UInt8) (dB wB:Nat):Env:=[(6,.pointer (some ⟨wB,0,none⟩)),(4,.pointer (some ⟨dB,0,none⟩)),(0,.slice A bs.length c)]
abbrev wNew (A:Option Addr) (c:Nat) (bs:List UInt8) (h:Hd) (wB hB fB:Nat):Res:=.blk wB (.cells (za4 ⟨A,c,bs,h,clus h.bits,0,wB,hB,fB⟩ s0W).toArray 68)
theorem zdO {cx:Cx} (A:Option Addr) (c:Nat) (bs:List UInt8) (h:Hd) (dB hB fB wB:Nat) (e:Env) (m:Mem) (he:Env.sub (wEnd A c bs dB wB) e) (hs:SubM cx m [wNew A c bs h wB hB fB,.blk hB (.map #[] 0),.blk fB (.map #[] 0),wHD dB h]) :
  ∃ g:Nat × Nat × Nat,True∧Env.sub (wEnd A c bs dB g.1) e∧SubM cx m [wNew A c bs h g.1 g.2.1 g.2.2,.blk g.2.1 (.map #[] 0),.blk g.2.2 (.map #[] 0),wHD dB h] :=
 ⟨(wB,hB,fB),trivial,he,hs⟩
attribute [local irreducible] Br Rn RnU Cl RdG CpG Ld Rd Lp Dr Oth Cut fin Fits Eng.Enters Md NA
theorem zf1:Eng.Enters Tryz.prog 25:=zab fun _ _=>by kernel_rfl
set_option maxHeartbeats 4000000 in
theorem zjk (bs:List UInt8) (A:Option Addr) (c:Nat) (w:World) (hb:BytsIn w A bs) (hl:bs.length≤20000000) (hc:bs.length≤c) :
  Ctr Tryz.prog 25 [.slice A bs.length c] [] (zxv bs A c) w:=by
 refine enter (cx:=CXS 60 [] w (Foot [])) [(0,.slice A bs.length c)] zaa Tryz.func25 rfl rfl rfl rfl (MemOk.nil w _) ?_
 refine gGw ?_
 refine⟨zmg,zae _ (fun w' hm'=>zr5 bs A c w' ((BytsIn.byts (cx:=CXS 60 [] w (Foot [])) hb zam).in_ hm') hc hl) ?_⟩
 cases hh:zbz bs with
 | none =>
  refine gGw ?_;(repeat ((first|refine .mk fun Ap capp=>?_|intro _);(conv=>whnf);refine gG0 ?_))
  refine br_n (br_f rfl ?_)
  refine gGw ?_
  exact fin2 rfl rfl rfl (fun w' hm=>⟨_,.inl ⟨hh,rfl,rfl⟩,hm.sublist (List.nil_sublist _)⟩)
 | some h =>
  have hk:=zhG hh
  have hmay:=zmm hh
  refine gGw ?_;(repeat ((first|refine .mk fun Ap capp=>?_|intro _);(conv=>whnf);refine gG0 ?_))
  refine br_n (br_t rfl ?_)
  refine gGw ?_
  rename_i dB
  refine zya (m':=[.blk dB (.cells h.cells.toArray 34)]) SubM.sl ?_
  refine za5 (γ:=Nat × Nat × Nat) (Tr.hs [0,1,2] (.alts 3 (.alts 4 (.sq [5] (.hs [6] (.sq [7,8] .done))) (.alts 5 (.sq [4] (.hs [6] (.sq [7,8] .done))) .stop)) (.alts 4 (.alts 3 (.sq [5] (.hs [6] (.sq [7,8] .done))) (.alts 5 (.sq [3] (.hs [6] (.sq [7,8] .done))) .stop)) (.alts 5 (.alts 3 (.sq [4] (.hs [6] (.sq [7,8] .done))) (.alts 4 (.sq [3] (.hs [6] (.sq [7,8] .done))) .stop)) .stop))))
   [.blk dB (.cells h.cells.toArray 34)] zaa mixed (by kernel_rfl) rfl (fun _=>True)
   (fun g=>[(6,.pointer (some ⟨g.1,0,none⟩)),(4,.pointer (some ⟨dB,0,none⟩)),(0,.slice A bs.length c)])
   (fun g=>[.blk g.1 (.cells (za4 ⟨A,c,bs,h,clus h.bits,0,g.1,g.2.1,g.2.2⟩ s0W).toArray 68),.blk g.2.1 (.map #[] 0),.blk g.2.2 (.map #[] 0),.blk dB (.cells h.cells.toArray 34)]) SubM.sl ?_ ?_
  ·refine gGw ?_
   refine⟨?_,?_⟩
   ·skip
    refine⟨zcS,zae _ (fun w' _=>zeV h w' hk.flags.1 hmay) ?_⟩
    refine gGs ?_
    conv=>whnf
    refine⟨?_,?_⟩
    ·skip
     intro hB
     refine gGs ?_
     conv=>whnf
     refine⟨?_,trivial⟩
     intro fB
     refine gGs ?_
     refine gGt ?_;(repeat ((first|refine .mk fun Ap capp=>?_|intro _);(conv=>whnf);refine gGS ?_))
     rename_i wB
     exact zdO A c bs h dB hB fB wB _ _ ⟨rfl,rfl,rfl,trivial⟩ (zey (m1:=wNew A c bs h wB hB fB::.blk fB (.map #[] 0)::.blk hB (.map #[] 0)::[wHD dB h]) (by kernel_rfl) SubM.sl)
    conv=>whnf
    refine⟨?_,trivial⟩
    intro fB
    refine gGs ?_
    conv=>whnf
    refine⟨?_,trivial⟩
    intro hB
    refine gGs ?_
    refine gGt ?_;(repeat ((first|refine .mk fun Ap capp=>?_|intro _);(conv=>whnf);refine gGS ?_))
    rename_i wB
    exact zdO A c bs h dB hB fB wB _ _ ⟨rfl,rfl,rfl,trivial⟩ (zey (m1:=wNew A c bs h wB hB fB::.blk hB (.map #[] 0)::.blk fB (.map #[] 0)::[wHD dB h]) (by kernel_rfl) SubM.sl)
   conv=>whnf
   refine⟨?_,?_⟩
   ·skip
    intro hB
    refine gGs ?_
    conv=>whnf
    refine⟨?_,?_⟩
    ·skip
     refine⟨zcS,zae _ (fun w' _=>zeV h w' hk.flags.1 hmay) ?_⟩
     refine gGs ?_
     conv=>whnf
     refine⟨?_,trivial⟩
     intro fB
     refine gGs ?_
     refine gGt ?_;(repeat ((first|refine .mk fun Ap capp=>?_|intro _);(conv=>whnf);refine gGS ?_))
     rename_i wB
     exact zdO A c bs h dB hB fB wB _ _ ⟨rfl,rfl,rfl,trivial⟩ (zey (m1:=wNew A c bs h wB hB fB::.blk fB (.map #[] 0)::.blk hB (.map #[] 0)::[wHD dB h]) (by kernel_rfl) SubM.sl)
    conv=>whnf
    refine⟨?_,trivial⟩
    intro fB
    refine gGs ?_
    conv=>whnf
    refine⟨?_,trivial⟩
    refine⟨zcS,zae _ (fun w' _=>zeV h w' hk.flags.1 hmay) ?_⟩
    refine gGs ?_
    refine gGt ?_;(repeat ((first|refine .mk fun Ap capp=>?_|intro _);(conv=>whnf);refine gGS ?_))
    rename_i wB
    exact zdO A c bs h dB hB fB wB _ _ ⟨rfl,rfl,rfl,trivial⟩ (zey (m1:=wNew A c bs h wB hB fB::.blk fB (.map #[] 0)::.blk hB (.map #[] 0)::[wHD dB h]) (by kernel_rfl) SubM.sl)
   conv=>whnf
   refine⟨?_,trivial⟩
   intro fB
   refine gGs ?_
   conv=>whnf
   refine⟨?_,?_⟩
   ·skip
    refine⟨zcS,zae _ (fun w' _=>zeV h w' hk.flags.1 hmay) ?_⟩
    refine gGs ?_
    conv=>whnf
    refine⟨?_,trivial⟩
    intro hB
    refine gGs ?_
    refine gGt ?_;(repeat ((first|refine .mk fun Ap capp=>?_|intro _);(conv=>whnf);refine gGS ?_))
    rename_i wB
    exact zdO A c bs h dB hB fB wB _ _ ⟨rfl,rfl,rfl,trivial⟩ (zey (m1:=wNew A c bs h wB hB fB::.blk hB (.map #[] 0)::.blk fB (.map #[] 0)::[wHD dB h]) (by kernel_rfl) SubM.sl)
   conv=>whnf
   refine⟨?_,trivial⟩
   intro hB
   refine gGs ?_
   conv=>whnf
   refine⟨?_,trivial⟩
   refine⟨zcS,zae _ (fun w' _=>zeV h w' hk.flags.1 hmay) ?_⟩
   refine gGs ?_
   refine gGt ?_;(repeat ((first|refine .mk fun Ap capp=>?_|intro _);(conv=>whnf);refine gGS ?_))
   rename_i wB
   exact zdO A c bs h dB hB fB wB _ _ ⟨rfl,rfl,rfl,trivial⟩ (zey (m1:=wNew A c bs h wB hB fB::.blk hB (.map #[] 0)::.blk fB (.map #[] 0)::[wHD dB h]) (by kernel_rfl) SubM.sl)
  ·rintro ⟨wB,hB,fB⟩ -
   have hcb:=zc0 hk.bits
   have hq0:0≤(bs.length:Int)/clus h.bits:=Int.ediv_nonneg (by omega) (by omega)
   have hq1:(bs.length:Int)/clus h.bits≤bs.length:=Int.ediv_le_self _ (by omega)
   have hq:IntKind.i64.wrap ((bs.length:Int).tdiv (clus h.bits))=(bs.length:Int)/clus h.bits:=by
    rw [Int.tdiv_eq_ediv_of_nonneg (by omega)];exact IntWalk.i64_in _ (by omega)
   obtain ⟨p,hpe⟩:∃ p:WP,p=⟨A,c,bs,h,clus h.bits,(bs.length:Int)/clus h.bits,wB,hB,fB⟩:=⟨_,rfl⟩
   have hp:p.Ok:=by subst hpe;exact⟨hl,hcb.1,hcb.2.1,hcb.2.2,⟨by have:=hk.counts;show 0≤h.counts;omega,hk.counts.2⟩,hk.countsLen,rfl⟩
   have hph:p.h=h:=by subst hpe;rfl
   have hpc:p.c=clus p.h.bits:=by subst hpe;rfl
   have hHL:HL p.h:=by rw [hph];exact⟨hk.snaps,hk.snapsAt,hk.snapsLen,hk.bitmaps,hk.bitmapsAt,hk.bitmapsLen⟩
   have hcap:p.bs.length≤p.cap:=by subst hpe;exact hc
   have hbits:9≤p.h.bits∧p.h.bits≤16:=by rw [hph];exact hk.bits
   have hBI:∀ (s:WS) (g:MG) (w':World),MemOk w (Foot []) (WM p s g++[wHD dB h]) w'→BIn p w':=by
    subst hpe
    intro s g w' hm' w2 hf
    refine (BytsIn.byts (cx:=CXS 60 [] w (Foot [])) (m:=[]) hb zam).in_ ((hm'.sublist (List.nil_sublist _)).step hf (fun b hb9 hT=>?_) (fun r hr=>by cases hr))
    exfalso
    have hown:∀ r∈WM ⟨A,c,bs,h,clus h.bits,(bs.length:Int)/clus h.bits,wB,hB,fB⟩ s g,∀ b,r.foot=some b→w.heap.size≤b:=fun r hr b hrb=>(hm'.own r (List.mem_append_left _ hr) b hrb).elim id (fun h=>absurd h (zam _))
    rcases hT with rfl|rfl|rfl
    ·exact absurd hb9 (Nat.not_lt.2 (hown _ (List.mem_cons_self ..) _ rfl))
    ·exact absurd hb9 (Nat.not_lt.2 (hown _ (List.mem_cons_of_mem _ (List.mem_cons_self ..)) _ rfl))
    ·exact absurd hb9 (Nat.not_lt.2 (hown _ (List.mem_cons_of_mem _ (List.mem_cons_of_mem _ (List.mem_cons_self ..))) _ rfl))
   have hg0:WOk s0W ⟨#[],0,#[],0⟩:=⟨MapIs.nil _ _,MapIs.nil _ _⟩
   refine gGw ?_
   rw [hq]
   refine gGw ?_
   refine⟨ziE,zcj (m1:=WM ⟨A,c,bs,h,clus h.bits,(bs.length:Int)/clus h.bits,wB,hB,fB⟩ s0W ⟨#[],0,#[],0⟩++[wHD dB h]) (zey (by kernel_rfl) (SubM.refl _ _)) ?_⟩
   rw [← hpe]
   dsimp only
   obtain ⟨rfl,rfl,rfl⟩:p.wB=wB∧p.hB=hB∧p.fB=fB:=by subst hpe;exact⟨rfl,rfl,rfl⟩
   refine zac (m1:=WM p s0W ⟨#[],0,#[],0⟩) (by repeat constructor) (fun w' hm'=>zoG p s0W ⟨#[],0,#[],0⟩ 0 0 w' hg0 hm'.part) ?_
   rintro e m' ⟨rfl,g1,hg1,rfl⟩
   refine gGw ?_
   refine⟨zk7,zac (m1:=WM p (zkP s0W 0 0) g1) (by repeat constructor) (fun w' hm'=>zqn p _ g1 w' hp hg1 (hBI _ _ w' hm') hm'.part) ?_⟩
   rintro e m' ⟨rfl,g2,hg2,rfl⟩
   refine gGw ?_
   refine⟨zhW,zac (m1:=WM p (zgY p (zkP s0W 0 0)) g2) (by repeat constructor) (fun w' hm'=>zn0 zda zjl p _ g2 h.l1 h.l1len 24 w' hp hbits hpc hcap hg2 (hBI _ _ w' hm') (by have:=hk.l1;omega) (by have:=hk.l1len;omega) hm'.part) ?_⟩
   rintro e m' ⟨rfl,g3,hg3,rfl⟩
   refine gGw ?_
   refine⟨zly,zac (m1:=WM p _ g3) (by repeat constructor) (fun w' hm'=>zrd zda zjl zaU zrc p _ g3 w' hp hHL hbits hpc hcap hg3 (hBI _ _ w' hm') hm'.part) ?_⟩
   rintro e m' ⟨rfl,g4,hg4,rfl⟩
   refine gGw ?_
   refine⟨zm1,zac (m1:=WM p _ g4) (by repeat constructor) (fun w' hm'=>zup za6 zvC p _ g4 w' hp hHL hbits hcap hg4 (hBI _ _ w' hm') hm'.part) ?_⟩
   rintro e m' ⟨rfl,g5,hg5,rfl⟩
   refine gGw ?_
   refine⟨zjh,zac (m1:=WM p _ g5) (by repeat constructor) (fun w' hm'=>znE p _ g5 w' hp (by rw [hph];exact hk.order) hcap hg5 (hBI _ _ w' hm') hm'.part) ?_⟩
   rintro e m' ⟨rfl,s6,g6,hc6,hg6,rfl⟩
   refine gGw ?_
   refine fin2 rfl rfl rfl (fun w' hm=>⟨_,.inr ⟨p,s6,g6,?_,?_,?_,?_,hpc,hp,by rw [hph];exact hk,?_,hg6,rfl,rfl⟩,hm.sl⟩)
   ·rw [hph];exact hh
   ·rw [hpe]
   ·rw [hpe]
   ·rw [hpe]
   ·have e0:zlT za6 p (zhg zda zaU p (zi1 zda p (zgY p (zkP s0W 0 0)) p.h.l1 p.h.l1len 24))=appL s0W (evW p):=by
     rw [zrr,zpt,zlv,znD,← zbs,← zbs,← zbs]
     rfl
    rw [← e0,hph]
    exact hc6
end
section
theorem zqX {cx:Cx} {m m':Mem} {b t n s:Nat} {xs:List Value} (h:Out m (.blk b (.cells xs.toArray t)) m') (hn:xs.length=n*s) (hmax:Nat.ble n 9223372036854775807=true) (hs:0<s):SubM cx m (.row (some ⟨b,0,none⟩) n n t s xs::m'):=by
 intro w hm
 have hm1:=hm.perm h.perm
 have hb:w.heap[b]?=some (.cells xs.toArray t):=hm1.ok _ (List.mem_cons_self ..)
 have hown:=hm1.own _ (List.mem_cons_self ..) b rfl
 refine hm1.tail.cons ⟨hn,.inr ⟨b,n,xs.toArray,rfl,Nat.zero_le _,hb,Nat.le_refl _,by simp only [maxLen];exact Nat.le_of_ble_eq_true hmax,by simp [hn],by simp [← hn]⟩⟩ (fun b' hb'=>?_) (fun b' hb' s hs=>?_)
 ·cases hb';exact hown
 ·cases hb'
  exact (List.pairwise_cons.1 hm1.apart).1 s hs b rfl
theorem zxi {cx:Cx} {x y:Code} {k:KK} {e:Env} {m m1:Mem} (hs:SubM cx m m1) (h:Cut cx x y k e m1):Cut cx x y k e m:=fun a w he hm=>h a w he (hs w hm)
theorem zeq:∀ (l:List Ev) (s:RS),(zav s l).holds=s.holds++zbv l
 | [],s=>by simp [zav,zbv]
 | e::l,s=>by
  have ih:=zeq l (appR s e)
  show (zav (appR s e) l).holds=_
  rw [ih]
  cases e<;>simp only [appR,zbv,List.filterMap_cons,Ev.held]
  ·simp
  all_goals (split<;>rfl)
theorem zrF {A:Option Addr} {c:Nat} {bs:List UInt8} {h:Hd} (wB hB fB:Nat) (hl:bs.length≤20000000) (hk:HOk h):WP.Ok ⟨A,c,bs,h,clus h.bits,(bs.length:Int)/clus h.bits,wB,hB,fB⟩:=by
 have hcb:=zc0 hk.bits
 exact⟨hl,hcb.1,hcb.2.1,hcb.2.2,⟨by have:=hk.counts;show 0≤h.counts;omega,hk.counts.2⟩,hk.countsLen,rfl⟩
theorem zoD {n a l c:Int} (h:liOk n a l c=true) (hn:0<n):1≤l:=by
 unfold liOk at h
 rw [if_neg (by omega)] at h
 simp only [Bool.and_eq_true,decide_eq_true_eq,plB_iff] at h
 omega
theorem zrU {h:Hd} (hm:mayH h=true):(0<h.snaps→1≤h.snapsLen)∧(0<h.bitmaps→1≤h.bitmapsLen):=by
 rw [ziw] at hm
 simp only [Bool.and_eq_true] at hm
 obtain ⟨⟨⟨⟨⟨⟨⟨hA,h0⟩,h1⟩,h2⟩,h3⟩,h4⟩,h5⟩,h6⟩:=hm
 exact⟨zoD h4,zoD h5⟩
theorem zhY {p:WP} (hp:p.Ok) (hlb:p.bs.length≤20000):(zbk p).length≤30000000:=by
 have hnb:=n_bd hp
 have h1:=zb6 hp p.h.counts (p.h.countsLen*p.c) 40 0
 unfold zbk
 rw [List.length_append]
 split
 ·rename_i hw
  have hle:=zaF hp hw
  have h2:=zig (f:=fun i=>zbo p (p.h.counts+8*(i:Nat))) (M:=1) (p.h.countsLen*p.c/8).toNat (fun k=>by
   unfold zbo
   split
   ·simp
   ·exact zf6 hp _ _ _)
  omega
 ·simp;omega
def sW0:RS:=⟨[(0,1)],[],[],0,0,0,false⟩
def actR (s:RS) (b:Bool):RS:={ s with active:=b }
def zlC (U:List UInt8→Int→Bool) (p:WP):RS :=
 zav (actR (zav (actR (zcc p sW0) true) (zby U p p.h.l1 p.h.l1len 24)) false) (zbA U zaU p++zdQ za6 p)
theorem zh5 (U:List UInt8→Int→Bool) (p:WP):(zlC U p).holds=zbv (zfn U zaU za6 p):=by
 unfold zlC
 rw [zeq]
 show (zav _ _).holds++_=_
 rw [zeq]
 show ((zcc p sW0).holds++_)++_=_
 unfold zcc
 show ((zav sW0 (zbk p)).holds++_)++_=_
 rw [zeq]
 show (([((0:Int),(1:Int))]++zbv (zbk p))++zbv _)++zbv _=_
 unfold zfn zbv
 rw [List.filterMap_cons]
 simp only [Ev.held,List.filterMap_append,List.append_assoc,List.singleton_append]
 rfl
def zyt (U:List UInt8→Int→Bool) (bs:List UInt8) (A:Option Addr) (cap:Nat) (e:Ending) (m':Mem):Prop :=
 (zbz bs=none∧e=.returned (.tuple #[.pointer none,.int .i64 180])∧m'=[]) ∨
 ∃ h wB g,zbz bs=some h∧e=.returned (.tuple #[.pointer (some ⟨wB,0,none⟩),.int .i64 0])∧m'=rM ⟨A,cap,bs,h,clus h.bits,(bs.length:Int)/clus h.bits,wB,0,0⟩ (zlC U ⟨A,cap,bs,h,clus h.bits,(bs.length:Int)/clus h.bits,wB,0,0⟩) g
attribute [local irreducible] Br Rn RnU Cl RdG CpG Ld Rd Lp Dr Oth Cut fin Fits Eng.Enters Md NA
theorem zlW:Eng.Enters Tryz.prog 31:=zab fun _ _=>by kernel_rfl
theorem zfv:Eng.Enters Tryz.prog 9:=zab fun _ _=>by kernel_rfl
set_option maxHeartbeats 2000000 in
theorem zry (U:List UInt8→Int→Bool) (hU:zc5 U) (bs:List UInt8) (A:Option Addr) (c:Nat) (w:World) (hb:BytsIn w A bs) (hl:bs.length≤20000) (hc:bs.length≤c) :
  Ctr Tryz.prog 31 [.slice A bs.length c] [] (zyt U bs A c) w:=by
 refine enter (cx:=⟨Tryz.prog,37,w,Foot [],tab,[],[],[4],[]⟩) [(0,.slice A bs.length c)] zaa Tryz.func31 rfl rfl rfl rfl (MemOk.nil w _) ?_
 refine gGw ?_
 refine⟨zfv,zae _ (fun w' hm'=>zlS bs A c w' ((BytsIn.byts (cx:=CXS 37 [] w (Foot [])) hb zam).in_ hm') hc (by omega)) ?_⟩
 rw [zoI]
 cases hh:zbz bs with
 | none =>
  refine gGw ?_;(repeat ((first|refine .mk fun Ap capp=>?_|intro _);(conv=>whnf);refine gG0 ?_))
  refine br_n (br_f rfl ?_)
  refine gGw ?_
  exact fin2 rfl rfl rfl (fun w' hm=>⟨_,.inl ⟨hh,rfl,rfl⟩,hm.sublist (List.nil_sublist _)⟩)
 | some h =>
  have hk:=zhG hh
  have hmay:=zmm hh
  have hml:=zrU hmay
  have hcb:=zc0 hk.bits
  refine gGw ?_;(repeat ((first|refine .mk fun Ap capp=>?_|intro _);(conv=>whnf);refine gG0 ?_))
  refine br_n (br_t rfl ?_)
  refine gGw ?_
  rename_i hB
  refine zxi (m1:=[.blk hB (.cells h.cells.toArray 34)]) (zey (by kernel_rfl) (SubM.refl _ _)) ?_
  refine cut (γ:=Nat × Nat) [] [] zaa (fun _=>True) (fun q=>[(6,.pointer (some ⟨q.1,0,none⟩)),(4,.pointer (some ⟨hB,0,none⟩)),(0,.slice A bs.length c)])
   (fun q=>.blk hB (.cells h.cells.toArray 34)::rM ⟨A,c,bs,h,clus h.bits,(bs.length:Int)/clus h.bits,q.1,0,0⟩ sW0 ⟨some ⟨q.2,0,none⟩,1,none,0,none,0⟩) ?_ ?_
  ·conv=>whnf
   (iterate 3 ((first|refine stp (by (repeat constructor);first|done|fail) ?_|refine stn (by (repeat constructor);first|done|fail) ?_|refine sto (by (repeat constructor);first|done|fail) (by first|omega|(simp only;omega)|decide) ?_|(refine ziJ (And.intro (fun hg=>?_) ?_);focus (simp only [Bool.and_eq_true,Bool.or_eq_true,Bool.not_eq_true',decide_eq_true_eq,decide_eq_false_iff_not] at hg;first|omega|exact zaB (by omega)|exact zbr (by omega)|assumption))|refine .mk fun Ap capp=>?_|refine⟨?_,trivial⟩|intro _);conv=>whnf))
   rename_i sB wB
   refine⟨(wB,sB),trivial,⟨rfl,rfl,rfl,trivial⟩,?_⟩
   refine zka (SubM.row0 (SubM.row0 (zka (zey (m1:=[.blk wB (.cells (zil ⟨A,c,bs,h,clus h.bits,(bs.length:Int)/clus h.bits,wB,0,0⟩ sW0 ⟨some ⟨sB,0,none⟩,1,none,0,none,0⟩).toArray 81),.blk sB (.cells [Value.int .i64 0,Value.int .i64 1].toArray 83),.blk hB (.cells h.cells.toArray 34)]) (by kernel_rfl) (SubM.refl _ _)) (zqX (n:=1) (s:=2) (.there .here) rfl rfl (by decide))) 2 1) 61 4) ?_
   exact SubM.sl
  ·rintro ⟨wB,sB⟩ _
   obtain ⟨p,hpe⟩:∃ p:WP,p=⟨A,c,bs,h,clus h.bits,(bs.length:Int)/clus h.bits,wB,0,0⟩:=⟨_,rfl⟩
   have hp:p.Ok:=by subst hpe;exact zrF wB 0 0 (by omega) hk
   have hph:p.h=h:=by subst hpe;rfl
   have hpc:p.c=clus p.h.bits:=by subst hpe;rfl
   have hpb:p.bs=bs:=by subst hpe;rfl
   have hpA:p.A=A:=by subst hpe;rfl
   have hpw:p.wB=wB:=by subst hpe;rfl
   have hpn:p.cap=c:=by subst hpe;rfl
   have hHL:HL p.h:=by rw [hph];exact⟨hk.snaps,hk.snapsAt,hk.snapsLen,hk.bitmaps,hk.bitmapsAt,hk.bitmapsLen⟩
   have hbits:9≤p.h.bits∧p.h.bits≤16:=by rw [hph];exact hk.bits
   have hBI:∀ (s:RS) (g:RG) (r:Mem) (w':World),MemOk w (Foot []) (rM p s g++r) w'→BInR p s g w':=fun s g r w' hm' =>
    stb hm' (cx:=CXS 37 [] w (Foot [])) (fun w3 h3=>by rw [hpA,hpb];exact (BytsIn.byts (cx:=CXS 37 [] w (Foot [])) hb zam).in_ h3)
   dsimp only
   rw [← hpe,← hpw]
   have hend:∀ (g:RG),zyt U bs A c (.returned (.tuple #[.pointer (some ⟨p.wB,0,none⟩),.int .i64 0])) (rM p (zlC U p) g):=fun g=>.inr ⟨h,wB,g,hh,by rw [hpw],by rw [hpe]⟩
   rw [← hpb] at hl hc
   rw [← hpn] at hc
   refine gGw ?_
   refine⟨zlD,zac (m1:=rM p sW0 ⟨some ⟨sB,0,none⟩,1,none,0,none,0⟩) (by repeat constructor) (fun w' hm'=>zrj p sW0 _ w' hp hl (by omega) hpc (by decide) rfl (hBI _ _ _ w' hm') hm'.part) ?_⟩
   rintro e' m' ⟨rfl,g1,rfl⟩
   have hn1:=zaW (zbk p) sW0
   have hc1:=zhY hp hl
   have h01:sW0.len=1:=rfl
   have hN1:(actR (zcc p sW0) true).len=(zav sW0 (zbk p)).len:=rfl
   unfold zlC at hend
   refine gGw ?_
   refine⟨zh6,zcj (m1:=rM p (actR (zcc p sW0) true) g1) SubM.sl (zac (m1:=rM p (actR (zcc p sW0) true) g1) (by repeat constructor) (fun w' hm'=>zoa U hU p _ g1 h.l1 h.l1len 24 w' hp hl hc hbits hpc (by omega) (by have:=hk.l1;omega) (by have:=hk.l1len;omega) (hBI _ _ _ w' hm') hm'.part) ?_)⟩
   rintro e' m' ⟨rfl,g2,rfl⟩
   have hn2:=zaW (zby U p h.l1 h.l1len 24) (actR (zcc p sW0) true)
   have ht2:=zf5 (U:=U) hp hl h.l1 h.l1len 24
   rw [show p.h.l1=h.l1 by rw [hph],show p.h.l1len=h.l1len by rw [hph]] at hend
   generalize zav (actR (zcc p sW0) true) (zby U p h.l1 h.l1len 24)=s2 at hend hn2 ⊢
   have hN2:(actR s2 false).len=s2.len:=rfl
   refine gGw ?_
   refine⟨zmX,zcj (m1:=rM p (actR s2 false) g2) SubM.sl (zac (m1:=rM p (actR s2 false) g2) (by repeat constructor) (fun w' hm'=>zul U hU p _ g2 w' hp hHL (by rw [hph];exact hml.1) (by rw [hph];exact hml.2) hl hc hbits hpc (by omega) rfl (hBI _ _ _ w' hm') hm'.part) ?_)⟩
   rintro e' m' ⟨rfl,g3,rfl⟩
   refine gGw ?_
   exact fin2 rfl rfl rfl (fun w' hm=>⟨_,hend g3,hm⟩)
end
section
abbrev pOf (A:Option Addr) (cap:Nat) (bs:List UInt8) (h:Hd) (wB hB fB:Nat):WP:=⟨A,cap,bs,h,clus h.bits,(bs.length:Int)/clus h.bits,wB,hB,fB⟩
def howL (U:List UInt8→Int→Bool) (p:WP):List Int:=(List.range p.n.toNat).map fun k=>howF (zbv (zfn U zaU za6 p)) (k:Nat)
def HowR (U:List UInt8→Int→Bool) (bs:List UInt8) (A:Option Addr) (cap:Nat) (e:Ending) (m':Mem):Prop :=
 (zbz bs=none∧e=.returned (.slice none 0 0)∧m'=[]) ∨
 ∃ h lA lc,zbz bs=some h∧e=.returned (.slice lA (howL U (pOf A cap bs h 0 0 0)).length lc)∧m'=[IR lA lc (howL U (pOf A cap bs h 0 0 0)).length (howL U (pOf A cap bs h 0 0 0))]
theorem zmj {H:List (Int × Int)} {k:Int} {j:Nat} {q:Int × Int} (h:H[j]?=some q):(H.take (j+1)).foldl (zbe k) (0,0)=zbe k ((H.take j).foldl (zbe k) (0,0)) q:=by
 rw [List.take_add_one,h,List.foldl_append];rfl
theorem zmi (k:Int):∀ (H:List (Int × Int)) (st:Nat × Int),(st.1=0→st.2=0)→(H.foldl (zbe k) st).1=0→(H.foldl (zbe k) st).2=0
 | [],_,h=>h
 | q::H,st,h=>by
  refine zmi k H (zbe k st q) ?_
  unfold zbe
  split
  ·intro h0;simp at h0
  ·exact h
theorem zuY (k:Int) (H:List (Int × Int)):(H.foldl (zbe k) (0,0)).1=0→(H.foldl (zbe k) (0,0)).2=0:=zmi k H _ fun _=>rfl
theorem zoF (k:Int):∀ (H:List (Int × Int)) (st:Nat × Int),(H.foldl (zbe k) st).1≤st.1+H.length
 | [],_=>Nat.le_refl _
 | q::H,st=>by
  have h1:=zoF k H (zbe k st q)
  have h2:(zbe k st q).1≤st.1+1:=by
   unfold zbe
   split
   ·exact Nat.le_refl _
   ·omega
  show (H.foldl (zbe k) (zbe k st q)).1≤_
  rw [List.length_cons]
  omega
theorem zwY (k:Int) (H:List (Int × Int)):(H.foldl (zbe k) (0,0)).1≤H.length:=by
 have:=zoF k H (0,0)
 omega
theorem zta (f:Nat→Int) (n i:Nat):(upL f n i).set i 0=upL f n i:=by
 apply List.ext_getElem
 ·rw [List.length_set]
 ·intro j h1 h2
  rw [List.getElem_set]
  split
  ·rename_i h
   subst h
   simp [upL]
  ·rfl
theorem setI {l:List Int} {i:Nat} {a b:Int}:zbp i (zaS (.int .i64 b)) ((l.set i a).map (.int .i64))=(l.set i b).map (Value.int .i64):=by
 show ((l.set i a).map (Value.int .i64)).set i (.int .i64 b)=_
 rw [List.map_set,List.map_set,List.set_set]
theorem znf (l:List Ev):(zek l).length≤l.length:=List.length_filter_le _ _
theorem zpg {U:List UInt8→Int→Bool} {p:WP} (hp:p.Ok) (hlb:p.bs.length≤20000):(zbA U zaU p++zdQ za6 p).length≤8000000000:=by
 have hnb:=n_bd hp
 rw [List.length_append]
 have h1:(zbA U zaU p).length≤20000001+64*90000000:=by
  unfold zbA
  split
  ·simp
  ·rw [List.length_append]
   have h:=zb6 hp p.h.snapsAt p.h.snapsLen 56 0
   split
   ·split
    ·simp;omega
    ·rename_i l hl
     have h64:=(zjz hl).2.1
     have h2:=znf (l.flatMap fun x=>zby U p x.l1 x.l1len p.h.snapsAt)
     have h3:=zmo (f:=fun x:Snp=>zby U p x.l1 x.l1len p.h.snapsAt) (n:=90000000) (fun x=>zf5 hp hlb _ _ _) l
     have h4:l.length*90000000≤64*90000000:=Nat.mul_le_mul_right _ h64
     omega
   ·simp;omega
 have h2:(zdQ za6 p).length≤20000001+64*20000001:=by
  unfold zdQ
  split
  ·simp
  ·rw [List.length_append]
   have h:=zb6 hp p.h.bitmapsAt p.h.bitmapsLen 72 0
   split
   ·split
    ·simp;omega
    ·rename_i l hl
     have h64:=(zjA hl).2.1
     have h3:=zmo (f:=fun x:Rwp=>if 0<x.len then tRun p x.at_ x.len p.h.bitmapsAt 0 else []) (n:=20000001) (fun x=>by split;exact (by have:=zb6 hp x.at_ x.len p.h.bitmapsAt 0;omega);simp) l
     have h4:l.length*20000001≤64*20000001:=Nat.mul_le_mul_right _ h64
     omega
   ·simp;omega
 omega
theorem zlB (U:List UInt8→Int→Bool) {p:WP} (hp:p.Ok) (hlb:p.bs.length≤20000):(zlC U p).len≤10000000000:=by
 have h1:=zaW (zbk p) sW0
 have h2:=zhY hp hlb
 have h3:=zaW (zby U p p.h.l1 p.h.l1len 24) (actR (zcc p sW0) true)
 have h4:=zf5 (U:=U) hp hlb p.h.l1 p.h.l1len 24
 have h5:=zaW (zbA U zaU p++zdQ za6 p) (actR (zav (actR (zcc p sW0) true) (zby U p p.h.l1 p.h.l1len 24)) false)
 have h6:(actR (zcc p sW0) true).len=(zav sW0 (zbk p)).len:=rfl
 have h7:(actR (zav (actR (zcc p sW0) true) (zby U p p.h.l1 p.h.l1len 24)) false).len=(zav (actR (zcc p sW0) true) (zby U p p.h.l1 p.h.l1len 24)).len:=rfl
 have h8:sW0.len=1:=rfl
 have h9:=zpg (U:=U) hp hlb
 show (zav _ _).len≤_
 omega
attribute [local irreducible] Br Rn RnU Cl RdG CpG Ld Rd Lp Dr Oth Cut fin Fits Eng.Enters Md NA
theorem zm5:Eng.Enters Tryz.prog 8:=zab fun _ _=>by kernel_rfl
set_option maxHeartbeats 2000000 in
theorem zuu (U:List UInt8→Int→Bool) (hU:zc5 U) (bs:List UInt8) (A:Option Addr) (c:Nat) (w:World) (hb:BytsIn w A bs) (hl:bs.length≤20000) (hc:bs.length≤c) :
  Ctr Tryz.prog 8 [.slice A bs.length c] [] (HowR U bs A c) w:=by
 refine enter (cx:=CXS 76 [] w (Foot [])) [(0,.slice A bs.length c)] zaa Tryz.func8 rfl rfl rfl rfl (MemOk.nil w _) ?_
 refine gGw ?_
 refine⟨zlW,zac (m1:=[]) .nil (fun w' hm'=>zry U hU bs A c w' ((BytsIn.byts (cx:=CXS 76 [] w (Foot [])) hb zam).in_ hm') hl hc) ?_⟩
 rintro e m' (⟨hh,rfl,rfl⟩|⟨h,wB,⟨hA,hc2,fA,fc,bA,bc⟩,hh,rfl,rfl⟩)
 ·refine gGw ?_
  refine br_t rfl ?_
  refine gGw ?_
  exact fin1 rfl rfl (fun w' hm=>⟨_,.inl ⟨hh,rfl,rfl⟩,hm.sublist (List.nil_sublist _)⟩)
 have hk:=zhG hh
 obtain ⟨p,hpe⟩:∃ p:WP,p=⟨A,c,bs,h,clus h.bits,(bs.length:Int)/clus h.bits,wB,0,0⟩:=⟨_,rfl⟩
 have hp:p.Ok:=by subst hpe;exact zrF wB 0 0 (by omega) hk
 have hph:p.h=h:=by subst hpe;rfl
 have hpc:p.c=clus p.h.bits:=by subst hpe;rfl
 have hpb:p.bs=bs:=by subst hpe;rfl
 have hpw:p.wB=wB:=by subst hpe;rfl
 have hbits:9≤p.h.bits∧p.h.bits≤16:=by rw [hph];exact hk.bits
 have hnb:=n_bd hp
 have hH:=zh5 U p
 have hS:=zlB U hp (by rw [hpb];exact hl)
 obtain ⟨L,hL⟩:∃ L,L=(fun k:Nat=>howF (zbv (zfn U zaU za6 p)) (k:Nat)):=⟨_,rfl⟩
 have hLe:howL U (pOf A c bs h 0 0 0)=(List.range p.n.toNat).map L:=by rw [hL,hpe];rfl
 rw [← hH] at hL
 rw [← hpe,← hpw]
 generalize zlC U p=S at hH hS hL ⊢
 have hHl:S.holds.length≤10000000000:=by unfold RS.len at hS;omega
 refine gGw ?_
 refine br_f rfl ?_
 refine gGw ?_
 refine⟨zeE,zae _ (fun w' hm'=>zh7 p S _ w' hp (by omega) hpc (zdw (r:=[]) hm')) ?_⟩
 refine gGw ?_
 refine rn_w (fun ⟨w9,hw9⟩=>?_)
 refine zc2 zaa rfl rfl rfl rfl rfl (by omega) (by show 8*_≤_;omega) (by omega) (fun lB=>?_)
 refine gGw ?_
 have hex:∀ (j:Nat) (q:Int × Int),S.holds[j]?=some q→∃ b,hA=some ⟨b,0,none⟩:=fun j q hq=>by
  obtain ⟨b,e,_⟩:=zaQ (hw9.ok (.row hA hc2 S.holds.length 83 2 (S.holds.flatMap hdC)) (by simp)) (zem (f:=hdC) (n:=2) (fun _=>rfl) hq (j:=0) rfl)
  exact⟨b,e⟩
 clear hw9
 obtain ⟨n,hn⟩:∃ n,n=p.n.toNat:=⟨_,rfl⟩
 rw [← hn] at hLe ⊢
 refine lp zaa (γ:=Nat) (fun i=>i≤n) (fun i=>[(6,.int .i64 (i:Int)),(5,.slice (some ⟨lB,0,none⟩) n n),(3,.pointer (some ⟨p.wB,0,none⟩))])
  (fun i=>IR (some ⟨lB,0,none⟩) n n (upL L n i)::rM p S ⟨hA,hc2,fA,fc,bA,bc⟩) (fun i=>n-i) 0 (Nat.zero_le _) ⟨rfl,rfl,rfl,trivial⟩ ?_ ?_
 ·show SubM _ _ (.row (some ⟨lB,0,none⟩) n n 3 1 ((upL L n 0).map (.int .i64))::rM p S ⟨hA,hc2,fA,fc,bA,bc⟩)
  rw [zs9,List.map_replicate]
  exact SubM.sl
 rintro i hi
 dsimp only
 refine gGw ?_
 refine br_d (fun hlt=>?_) (fun hge=>?_)
 ·have hLi:L i=((S.holds.take S.holds.length).foldl (zbe i) (0,0)).2:=by rw [List.take_length,hL];rfl
  refine gGw ?_
  refine lp zaa (γ:=Nat) (fun j=>j≤S.holds.length) (fun j=>[(8,.int .i64 (j:Int)),(7,.int .i64 ((((S.holds.take j).foldl (zbe i) (0,0)).1:Nat):Int)),(6,.int .i64 (i:Int)),(5,.slice (some ⟨lB,0,none⟩) n n),(3,.pointer (some ⟨p.wB,0,none⟩))])
   (fun j=>IR (some ⟨lB,0,none⟩) n n ((upL L n i).set i ((S.holds.take j).foldl (zbe i) (0,0)).2)::rM p S ⟨hA,hc2,fA,fc,bA,bc⟩) (fun j=>S.holds.length-j) 0 (Nat.zero_le _) ⟨rfl,rfl,rfl,rfl,rfl,trivial⟩ ?_ ?_
  ·show SubM _ _ (IR (some ⟨lB,0,none⟩) n n ((upL L n i).set i 0)::rM p S ⟨hA,hc2,fA,fc,bA,bc⟩)
   rw [zta]
   exact SubM.sl
  rintro j hj
  dsimp only
  refine gGw ?_
  refine br_d (fun hlj=>?_) (fun hgj=>?_)
  ·have hj':j<S.holds.length:=by omega
   have hq:=List.getElem?_eq_getElem hj'
   have hst:=zmj (k:=i) hq
   have hz:=zuY i (S.holds.take j)
   have hcn:=zwY i (S.holds.take j)
   rw [List.length_take] at hcn
   obtain ⟨b9,rfl⟩:=hex _ _ hq
   have hlen:=zfJ L n i
   generalize S.holds[j]=q at hq hst
   generalize (S.holds.take j).foldl (zbe i) (0,0)=st at hst hz hcn ⊢
   obtain ⟨st1,st2⟩:=st
   simp only at hz hcn ⊢
   refine gGw ?_
   refine And.intro ⟨by omega,by omega,Pl.mk _ _⟩ ?_
   refine gGw ?_
   refine zai (zeR (f:=hdC) (k:=2) zaa (by repeat constructor) (fun _=>rfl) rfl rfl hq (j:=0) rfl) ?_
   refine gGw ?_
   refine br_n (br_d (fun hc0=>?_) (fun hc0=>?_))
   ·rw [show zbe i (st1,st2) q=(st1+1,if st1=0 then q.2 else if st2=q.2 then st2 else 0) from if_pos hc0] at hst
    refine gGw ?_
    refine br_d (fun h0=>?_) (fun h0=>?_)
    ·skip
     rw [if_pos (by omega)] at hst
     refine gGw ?_
     refine And.intro ⟨by omega,by omega,Pl.mk _ _⟩ ?_
     refine gGw ?_
     refine zai (zeR (f:=hdC) (k:=2) zaa (by repeat constructor) (fun _=>rfl) rfl rfl hq (j:=1) rfl) ?_
     refine gGw ?_
     refine And.intro ⟨by omega,by omega,Pl.mk _ _⟩ ?_
     refine gGw ?_
     refine zaw (off:=i) (xs':=((upL L n i).set i (q.2)).map (.int .i64)) zaa rfl (by repeat constructor) rfl rfl (by show i+1≤n*1;omega) Nat.one_pos setI ?_
     refine gGw ?_
     refine⟨j+1,by omega,by omega,⟨congrArg (fun x=>some (Value.int .i64 x)) (by push_cast;rfl),?_,rfl,rfl,rfl,trivial⟩,?_⟩
     ·rw [hst]
      exact congrArg (fun x=>some (Value.int .i64 x)) (by push_cast;rfl)
     ·rw [hst]
      exact SubM.sl
    ·skip
     rw [if_neg (by omega)] at hst
     have hget:((upL L n i).set i st2).getD i 0=st2:=by rw [List.getD_eq_getElem?_getD,List.getElem?_set_self (by omega)];rfl
     conv=>whnf
     refine zao zaa mixed (by kernel_rfl) rfl ?_;conv=>whnf
     refine gG0 ?_
     refine And.intro ⟨by omega,by omega,Pl.mk _ _⟩ ?_
     refine gGw ?_
     refine⟨.int .i64 st2,Ld.g (ldR (j:=i) zaa (by repeat constructor) rfl rfl (by rw [zbg (by rw [List.length_set];omega),hget])),?_⟩
     refine gGw ?_
     refine And.intro ⟨by omega,by omega,Pl.mk _ _⟩ ?_
     refine gGw ?_
     refine⟨.int .i64 q.2,Ld.g (zeR (f:=hdC) (k:=2) zaa (by repeat constructor) (fun _=>rfl) rfl rfl hq (j:=1) rfl),?_⟩
     refine gGw ?_
     refine br_n (br_d (fun heq=>?_) (fun heq=>?_))
     ·rw [if_pos heq] at hst
      refine gGw ?_
      refine⟨j+1,by omega,by omega,⟨congrArg (fun x=>some (Value.int .i64 x)) (by push_cast;rfl),?_,rfl,rfl,rfl,trivial⟩,?_⟩
      ·rw [hst]
       exact congrArg (fun x=>some (Value.int .i64 x)) (by push_cast;rfl)
      ·rw [hst]
       exact SubM.sl
     ·rw [if_neg heq] at hst
      refine gGw ?_
      refine And.intro ⟨by omega,by omega,Pl.mk _ _⟩ ?_
      refine gGw ?_
      refine zaw (off:=i) (xs':=((upL L n i).set i (0)).map (.int .i64)) zaa rfl (by repeat constructor) rfl rfl (by show i+1≤n*1;omega) Nat.one_pos setI ?_
      refine gGw ?_
      refine⟨j+1,by omega,by omega,⟨congrArg (fun x=>some (Value.int .i64 x)) (by push_cast;rfl),?_,rfl,rfl,rfl,trivial⟩,?_⟩
      ·rw [hst]
       exact congrArg (fun x=>some (Value.int .i64 x)) (by push_cast;rfl)
      ·rw [hst]
       exact SubM.sl
   ·skip
    rw [show zbe i (st1,st2) q=(st1,st2) from if_neg hc0] at hst
    refine gGw ?_
    refine⟨j+1,by omega,by omega,⟨congrArg (fun x=>some (Value.int .i64 x)) (by push_cast;rfl),?_,rfl,rfl,rfl,trivial⟩,?_⟩
    ·rw [hst];rfl
    ·rw [hst];exact SubM.sl
  ·have ej:j=S.holds.length:=by omega
   refine gGw ?_
   refine⟨i+1,by omega,by omega,⟨congrArg (fun x=>some (Value.int .i64 x)) (by push_cast;rfl),rfl,rfl,trivial⟩,?_⟩
   rw [ej,← hLi,zhQ]
   exact SubM.sl
 ·have ei:i=n:=by omega
  subst ei
  refine gGw ?_
  refine fin1 rfl rfl (fun w' hm=>⟨_,.inr ⟨h,some ⟨lB,0,none⟩,i,hh,?_,rfl⟩,?_⟩)
  ·rw [hLe,List.length_map,List.length_range]
  ·rw [hLe,List.length_map,List.length_range,← zqO L i]
   exact hm.sl
end
def zsB (n:Nat):ByteArray:=⟨(List.replicate n (0:UInt8)).toArray⟩
theorem zd7 (n:Nat):(zsB n).size=n:=by unfold zsB;show (List.replicate n (0:UInt8)).toArray.size=n;simp
theorem zvt:Tryz.prog.underlying 3=some (.int .i64):=by kernel_rfl
theorem znR (n:Nat):(((zsB n).extract 0 n).data.map fun b=>Value.int .u8 (b.toNat:Int))=Builtin.zeroCells (Value.int .u8 0).cells n:=by
 apply Array.ext'
 have h1:(zsB n).extract 0 n=zsB n:=by
  have:=ByteArray.extract_zero_size (b:=zsB n)
  rwa [zd7] at this
 rw [h1]
 have hz:(Value.int IntKind.u8 0).cells=#[Value.int IntKind.u8 0]:=rfl
 rw [hz]
 unfold Builtin.zeroCells zsB
 simp only [Array.toList_map,List.map_replicate]
 apply List.ext_getElem
 ·simp
 ·intro i h3 h4
  simp [Nat.mod_one]
theorem zli (n:Nat):((zsB n).data.map fun b=>Value.int .u8 (b.toNat:Int)).extract 0 n=Builtin.zeroCells (Value.int .u8 0).cells n:=by
 rw [← znR]
 have h1:(zsB n).extract 0 n=zsB n:=by
  have:=ByteArray.extract_zero_size (b:=zsB n)
  rwa [zd7] at this
 rw [h1]
 apply Array.ext'
 have hl:(zsB n).data.size=n:=zd7 n
 simp only [Array.toList_extract,Array.toList_map]
 rw [List.extract_eq_take_drop]
 simp [hl]
 exact List.take_of_length_le (by rw [List.length_map,Array.length_toList,hl];exact Nat.le_refl _)
theorem zqD (n:Nat):List.take n (List.map (fun b=>Value.int .u8 (b.toNat:Int)) (zsB n).data.toList)=(Builtin.zeroCells (Value.int .u8 0).cells n).toList:=by
 rw [← zli]
 simp [List.extract_eq_take_drop]
theorem zqE {w:World} {ty n cap m:Nat} {A:Option Addr} (h0:0<m) (hb:n+m≤140737488355328) :
  (Builtin.append_ #[22,3] ty #[.slice A n cap,.int .i64 (m:Int)]).run Tryz.prog w=(Builtin.append_ #[22,9] ty #[.slice A n cap,.string (zsB m)]).run Tryz.prog w:=by
 obtain ⟨i0,hi,hz0,hz1,hz2⟩:=info_parts zuX
 have hw:IntKind.i64.wrap (m:Int)=m:=IntWalk.i64_in _ (by omega)
 have hne:¬ ((m:Int)<0):=by omega
 have hm0:m≠0:=by omega
 have h48:¬ (281474976710656<(m:Int)):=by omega
 have hcells:=znR m
 have hc2:=zli m
 have hc3:=zqD m
 by_cases hr:n+m≤cap
 ·rcases A with _|a<;>simp [Builtin.append_,run_underlying zdq,run_underlying zjm,run_underlying zvt,sizeOf,typeInfo,zeroValue,hi,hz0,hz1,hz2,asInt,asIntOf,hw,hne,hm0,h48,Builtin.lenOf,zd7,hr,Builtin.firstCells,hcells,hc2,hc3]
 ·have h63:¬ (9223372036854775807<((n:Int)+(m:Int))):=by omega
  have hfit:¬ (281474976710656<Builtin.nextslicecap (n+m) cap):=by
   have:=growslice_fits (need:=n+m) (old:=cap) (bytes:=1) (by omega) (by omega)
   omega
  rcases A with _|a<;>simp [Builtin.append_,run_underlying zdq,run_underlying zjm,run_underlying zvt,sizeOf,typeInfo,zeroValue,hi,hz0,hz1,hz2,asInt,asIntOf,hw,hne,hm0,h48,Builtin.lenOf,zd7,hr,Builtin.firstCells,hcells,h63,hfit,hc2,hc3]
theorem zwF {cx:Cx} (hP:cx.P=Tryz.prog) {m m':Mem} {ty n cap k:Nat} {A:Option Addr} {xs:List Value} {K:Value→Mem→Prop} (hu:Out m (.row A cap n 5 1 xs) m') (h0:0<k) (hb:n+k≤140737488355328)
  (hK:∀ A' cap',K (.slice A' (n+k) cap') (.row A' cap' (n+k) 5 1 (xs++(zag (List.replicate k (0:UInt8))).map (Value.int .u8))::m')):Rn cx m (Builtin.append_ #[22,3] ty #[.slice A n cap,.int .i64 (k:Int)]) K:=by
 have h:=zii (s:=zsB k) (K:=K) (ty:=ty) hP hu (by rw [zd7];exact hb) (by
  rw [zd7]
  intro A' cap'
  have:=hK A' cap'
  rw [zee]
  exact this)
 intro w hm
 obtain ⟨v,w',m2,hr,h2⟩:=h w hm
 exact⟨v,w',m2,by rw [hP] at hr ⊢;rw [zqE h0 hb];exact hr,h2⟩
end Go.Proofs.YtlmgelmloddfgaaGreat

