/- Part of a proof: contracts of the functions that the law reaches. No statement of the seat is proved here. -/
import Derived.Test.YtlmgelmloddfgaaGreatCcM12
import Derived.Shelf.SlSortCmp.NoneTotal
import Derived.Handy
import Derived.LoopTactic
import Derived.StillTailTactics
set_option linter.unusedVariables false
set_option linter.unusedSimpArgs false
set_option linter.unusedSectionVars false
set_option maxRecDepth 100000
namespace Go.Proofs.YtlmgelmloddfgaaGreat
open Go Go.RowKit Eng
def orI (a b:Int):Int:=if a=0 then b else a
def znG (x y:Fi):Int:=orI (Lib.compareInt x.at_ y.at_) (Lib.compareInt x.kind y.kind)
instance:Inhabited Fi:=⟨⟨0,0,0,0⟩⟩
abbrev Fi.cells (x:Fi):List Value:=[.int .i64 x.kind,.int .i64 x.at_,.int .u64 x.want,.int .u64 x.have_]
set_option maxHeartbeats 1000000 in
theorem zuK (a b:Int) (B:Nat) (W:World) (h0:W.cell? ⟨B,0,none⟩=some (.int .i64 a)) (h1:W.cell? ⟨B,1,none⟩=some (.int .i64 b)) :
  Calls Tryz.prog 28 #[.slice (some ⟨B,0,none⟩) 2 2] W fun e w'=>e=.returned (.int .i64 (orI a b))∧w'=W:=by
 go_enter Tryz.func28,Tryz.ntmps28
 go_wp2
 go_rounds 3
 ·have ha:(a != 0)=true:=by assumption
  have ha:a≠0:=by simpa using ha
  go_ret
  refine⟨?_,rfl⟩
  show Ending.returned (.int .i64 a)=_
  rw [orI,if_neg ha]
 ·have ha:(a != 0)=false:=by assumption
  have ha:a=0:=by simpa using ha
  go_ret
  refine⟨?_,rfl⟩
  show Ending.returned (.int .i64 b)=_
  rw [orI,if_pos ha]
 ·have ha:(a != 0)=false:=by assumption
  have ha:a=0:=by simpa using ha
  have hb:(b != 0)=false:=by assumption
  have hb:b=0:=by simpa using hb
  go_ret
  refine⟨?_,rfl⟩
  show Ending.returned (.int .i64 0)=_
  rw [orI,if_pos ha,hb]
set_option maxHeartbeats 1000000 in
theorem znF (x y:Fi) (W:World):Calls Tryz.prog 27 #[.agg x.cells.toArray,.agg y.cells.toArray] W fun e w'=>e=.returned (.int .i64 (znG x y))∧∃ q os',w'=Sort.grow (W.drewN q) os':=by
 have h1:=fun W'=>AnyG.cmp_Compare_int Tryz.cmpI64 x.at_ y.at_ W'
 change ∀ W',Calls Tryz.prog 29 _ _ _ at h1
 have h2:=fun W'=>AnyG.cmp_Compare_int Tryz.cmpKind x.kind y.kind W'
 change ∀ W',Calls Tryz.prog 30 _ _ _ at h2
 unfold znG
 generalize Lib.compareInt x.at_ y.at_=r1 at h1 ⊢
 generalize Lib.compareInt x.kind y.kind=r2 at h2 ⊢
 go_enter Tryz.func27,Tryz.ntmps27
 go_wp2
 refine wp_region_still_tail 10 mixed (by kernel_rfl) ?_
 obtain ⟨w1,hw1⟩:∃ w1,w1=W.alloc (.cells x.cells.toArray 61):=⟨_,rfl⟩
 obtain ⟨w3,hw3⟩:∃ w3,w3=(w1.alloc (.cells y.cells.toArray 61)).drew:=⟨_,rfl⟩
 have hz:w1.heap.size=W.heap.size+1:=by rw [hw1];simp
 have hx:w3.heap[W.heap.size]?=some (.cells x.cells.toArray 61):=by
  rw [hw3]
  show (w1.alloc _).heap[W.heap.size]?=_
  rw [Below.heap_alloc w1 _ _ (by omega),hw1]
  exact heap_alloc_new W _
 have hy:w3.heap[W.heap.size+1]?=some (.cells y.cells.toArray 61):=by
  rw [hw3,← hz]
  exact heap_alloc_new w1 _
 have c0:w3.cell? ⟨W.heap.size,0,none⟩=some (.int .i64 x.kind):=zaJ hx 0
 have c1:w3.cell? ⟨W.heap.size,1,none⟩=some (.int .i64 x.at_):=zaJ hx 1
 have d0:w3.cell? ⟨W.heap.size+1,0,none⟩=some (.int .i64 y.kind):=zaJ hy 0
 have d1:w3.cell? ⟨W.heap.size+1,1,none⟩=some (.int .i64 y.at_):=zaJ hy 1
 have hend:∀ o,∃ q os',w3.alloc o=Sort.grow (W.drewN q) os':=fun o=>⟨1,#[.cells x.cells.toArray 61,.cells y.cells.toArray 61,o],by
  subst hw3 hw1
  show ({ W with heap:=((W.heap.push _).push _).push o,drawn:=W.drawn+1 }:World)={ W with heap:=W.heap++#[_,_,o],drawn:=W.drawn+1 }
  congr 1⟩
 change wpStill _ _ ((W.alloc (.cells x.cells.toArray 61)).alloc (.cells y.cells.toArray 61)).drew (fun a'=>wpList _ _ _ _ a' ((W.alloc (.cells x.cells.toArray 61)).alloc (.cells y.cells.toArray 61)).drew) _ _
 rw [← hw1,← hw3]
 clear hw3 hx hy
 simp only [List.take_succ_cons,List.take_zero,List.drop_succ_cons,List.drop_zero]
 repeat still_step
 still_call (h1 _)
 repeat still_step
 still_call (h2 _)
 refine wpStill_nil ?_
 go_wp2_with (go_at_call 28;refine (zuK r1 r2 _ _ ?_ ?_).mono ?_)
 ·exact zaJ (heap_alloc_new w3 _) 0
 ·exact zaJ (heap_alloc_new w3 _) 1
 ·rintro e w' ⟨rfl,rfl⟩
  go_wp2
  go_ret
  exact⟨rfl,hend _⟩
/-! ## The row -/
theorem zoP {α:Type} {f:α→List Value} {k:Nat} (hk:∀ x,(f x).length=k) (h0:0<k):∀ (L:List α) (t:Nat),(L.flatMap f)[t]?=(L[t/k]?).bind fun x=>(f x)[t%k]?
 | [],t=>by simp
 | y::L,t=>by
  rw [List.flatMap_cons]
  by_cases h:t<k
  ·rw [List.getElem?_append_left (by rw [hk];exact h),Nat.div_eq_of_lt h,Nat.mod_eq_of_lt h];rfl
  ·rw [List.getElem?_append_right (by rw [hk];omega),hk,zoP hk h0 L (t-k)]
   have e1:t/k=(t-k)/k+1:=by rw [Nat.div_eq_sub_div h0 (by omega)]
   have e2:(t-k)%k=t%k:=(Nat.mod_eq_sub_mod (by omega)).symm
   rw [e1,e2];rfl
theorem zjN (d:Array Fi):(Go.Sort.flatK Fi.cells 4 d).toList=d.toList.flatMap Fi.cells:=by
 have hs:(Go.Sort.flatK Fi.cells 4 d).toList.length=d.size*4:=by simp
 apply List.ext_getElem?
 intro t
 rw [zoP (k:=4) (fun _=>rfl) (by decide)]
 by_cases h:t<d.size*4
 ·have h4:t/4<d.size:=by omega
  have e:=Go.Sort.get_flatK Fi.cells 4 d t h
  rw [Array.getElem?_toList,Array.getElem?_eq_getElem (by simpa using h)]
  rw [getElem!_pos (Go.Sort.flatK Fi.cells 4 d) t (by simpa using h)] at e
  rw [e,Array.getElem?_toList,Array.getElem?_eq_getElem h4,getElem!_pos d (t/4) h4]
  simp only [Option.bind_some]
  have h5:t%4<(Fi.cells d[t/4]).length:=by show t%4<4;omega
  rw [List.getElem?_eq_getElem h5,getElem!_pos (Fi.cells d[t/4]) (t%4) h5]
 ·rw [List.getElem?_eq_none (by omega),List.getElem?_eq_none (by rw [Array.length_toList];omega)];rfl
theorem znJ {w:World} {b:Nat} {cur:Array Value} {t:Nat} {fr:Nat × Nat} (h:w.heap[b]?=some (.cells cur t fr)) (off:Nat):w.cell? ⟨b,off,none⟩=cur[off]?:=by
 simp [World.cell?,h]
theorem zr6 {w:World} {b t cap:Nat} {cur:Array Value} {L:List Fi} (h:w.heap[b]?=some (.cells cur t (0,0))) (hc:cur.size=cap*4) (hL:L.length≤cap) (ht:cur.toList.take (L.length*4)=L.flatMap Fi.cells):Go.Sort.HoldsK Fi.cells 4 w b 0 L.toArray:=by
 intro j hj
 have hj':j<L.length*4:=by simpa using hj
 refine⟨?_,by simp [World.frozen?,h]⟩
 rw [znJ h,Nat.zero_add]
 have e1:(Go.Sort.flatK Fi.cells 4 L.toArray).toList[j]?=cur.toList[j]?:=by
  rw [zjN,← ht,List.getElem?_take,if_pos hj']
 rw [Array.getElem?_toList,Array.getElem?_toList] at e1
 rw [← e1,Array.getElem?_eq_getElem hj]
 show _=some ((Go.Sort.flatK Fi.cells 4 L.toArray)[j]!)
 rw [getElem!_pos (Go.Sort.flatK Fi.cells 4 L.toArray) j hj]
theorem zp2 {w:World} {b t m cap:Nat} {cur:Array Value} {d:Array Fi} {os:Array Obj} (h:w.heap[b]?=some (.cells cur t (0,0))) (hc:cur.size=cap*4) (hd:d.size≤cap) :
  ∃ cur',(Go.Proofs.sortWorldK Fi.cells 4 w b 0 m d os).heap[b]?=some (.cells cur' t (0,0))∧cur'.size=cap*4∧cur'.toList.take (d.size*4)=d.toList.flatMap Fi.cells:=by
 have hb:b<w.heap.size:=(Array.getElem?_eq_some_iff.1 h).1
 refine⟨Go.Sort.putCells id 0 (Go.Sort.flatK Fi.cells 4 d) cur,?_,?_,?_⟩
 ·show (w.heap.modify b (Go.Sort.onCells _)++os)[b]?=_
  rw [Array.getElem?_append_left (by simpa using hb),Array.getElem?_modify,if_pos rfl,h]
  rfl
 ·simp [Go.Sort.putCells,hc]
 ·rw [← zjN]
  apply List.ext_getElem?
  intro j
  rw [List.getElem?_take]
  by_cases hj:j<d.size*4
  ·have hjc:j<cur.size:=by omega
   have hjf:j<(Go.Sort.flatK Fi.cells 4 d).size:=by simpa using hj
   rw [if_pos hj,Array.getElem?_toList,Array.getElem?_toList]
   unfold Go.Sort.putCells
   rw [Array.getElem?_mapIdx,Array.getElem?_eq_getElem hjc,Option.map_some,if_pos ⟨Nat.zero_le _,by omega⟩,Nat.sub_zero,Array.getElem?_eq_getElem hjf,getElem!_pos (Go.Sort.flatK Fi.cells 4 d) j hjf]
   rfl
  ·rw [if_neg hj,List.getElem?_eq_none (by simpa using hj)]
theorem fr_sortw {w:World} {b m:Nat} {d:Array Fi} {os:Array Obj}:Fr (fun k=>k=b) w (Go.Proofs.sortWorldK Fi.cells 4 w b 0 m d os):=by
 refine⟨rfl,rfl,rfl,?_,fun k hk hs=>?_⟩
 ·show w.heap.size≤(w.heap.modify b _++os).size
  simp
 ·show (w.heap.modify b (Go.Sort.onCells _)++os)[k]?=_
  rw [Array.getElem?_append_left (by simpa using hk),Array.getElem?_modify,if_neg (fun e=>hs e.symm)]
/-! ## The order -/
theorem zoA (x y:Fi):Go.Proofs.ltOf znG x y=true↔ltFi x y:=by
 unfold Go.Proofs.ltOf znG orI Lib.compareInt ltFi
 rw [decide_eq_true_eq]
 by_cases h1:x.at_<y.at_
 ·simp [h1]
 ·by_cases h2:y.at_<x.at_
  ·have:x.at_≠y.at_:=by omega
   simp [h1,h2,this]
  ·have h3:x.at_=y.at_:=by omega
   by_cases h4:x.kind<y.kind
   ·simp [h1,h2,h3,h4]
   ·by_cases h5:y.kind<x.kind<;>simp [h1,h2,h3,h4,h5]
theorem ltFi_no {x y:Fi}:Go.Proofs.ltOf znG x y=false↔¬ ltFi x y:=by
 rw [← zoA];simp
theorem swoFi:Go.Sort.SWO (Go.Proofs.ltOf znG) where
 irrefl x:=ltFi_no.2 (ltFi.irr x)
 trans x y z h1 h2:=by rw [zoA] at *;unfold ltFi at *;omega
 ntrans x y z h1 h2:=by rw [ltFi_no] at *;unfold ltFi at *;omega
abbrev FR (A:Option Addr) (cap:Nat) (L:List Fi):Res:=.row A cap L.length 61 4 (L.flatMap Fi.cells)
theorem zkg:Eng.Enters Tryz.prog 26:=zab fun _ _=>by kernel_rfl
theorem zpq (L:List Fi) (A:Option Addr) (cap:Nat) (w:World) (hl:L.length<4611686018427387904) (hm:MemOk w (Foot [FR A cap L]) [FR A cap L] w) :
  Ctr Tryz.prog 26 [.slice A L.length cap,.func (.func 27) #[] #[]] [FR A cap L]
   (fun e m'=>e=.returned (.tuple #[])∧∃ L':List Fi,L'.Perm L∧L'.Pairwise (fun x y=>¬ ltFi y x)∧m'=[FR A cap L']) w:=by
 have hok:w.ownsRow 0 61 4 (.slice A L.length cap) L.length (L.flatMap Fi.cells):=hm.ok _ (List.mem_singleton.2 rfl)
 rcases hok.2 with ⟨hv,hn⟩|⟨b,cap',cur,hv,_,hb,hle,hmax,hsz,htk⟩
 ·injection hv with h1 _ h3
  subst h1 h3
  obtain rfl:L=[]:=List.eq_nil_of_length_eq_zero hn
  have h:=AnyF.slices_SortFunc_none Tryz.sortFind none 0 (.func (.func 27) #[] #[]) w
  refine Calls.mono (h:Calls Tryz.prog 26 _ w _) ?_
  rintro e w' ⟨rfl,rfl⟩
  exact⟨_,⟨rfl,[],List.Perm.refl _,List.Pairwise.nil,rfl⟩,hm⟩
 ·injection hv with h1 _ h3
  subst h1 h3
  have hbs:b<w.heap.size:=(Array.getElem?_eq_some_iff.1 hb).1
  have h:=AnyQ.slices_SortFunc Tryz.sortFind 4 (fun w=>by kernel_rfl) (fun w=>by kernel_rfl) Fi.cells (fun _=>rfl) (fun x v hv=>by simp only [Fi.cells,List.mem_cons,List.not_mem_nil,or_false] at hv;rcases hv with rfl|rfl|rfl|rfl<;>rfl) znG swoFi
   27 #[] b 0 cap L.toArray w (fun args w=>by kernel_rfl) (fun _ _ _ _ x y=>znF x y _) (zr6 hb hsz hle htk) hbs hl
  refine Calls.mono (h:Calls Tryz.prog 26 _ w _) ?_
  rintro e w' ⟨rfl,d',n,os,hp,hs,rfl⟩
  have hds:d'.size=L.length:=hp.1
  have hperm:d'.toList.Perm L:=by
   have h3:=hp.2.2
   have e1:d'.extract 0 L.toArray.size=d':=by rw [show L.toArray.size=d'.size from hds.symm];simp
   have e2:L.toArray.extract 0 L.toArray.size=L.toArray:=by simp
   rw [e1,e2] at h3
   exact h3
  obtain ⟨cur',q1,q2,q3⟩:=zp2 (m:=n) (d:=d') (os:=os) hb hsz (by omega)
  refine⟨[FR (some ⟨b,0,none⟩) cap d'.toList],⟨rfl,d'.toList,hperm,?_,rfl⟩,?_,?_,?_,?_⟩
  ·rw [List.pairwise_iff_getElem]
   intro i j hi hj hij
   have hi':i<d'.size:=by simpa using hi
   have hj':j<d'.size:=by simpa using hj
   have:=hs i j (Nat.zero_le _) hij (by show j<L.length;omega)
   rw [getElem!_pos d' i hi',getElem!_pos d' j hj',ltFi_no] at this
   exact this
  ·exact fr_sortw.mono (fun k _ hk=>⟨_,List.mem_singleton.2 rfl,by rw [hk];rfl⟩)
  ·intro r hr
   rw [List.mem_singleton] at hr
   subst hr
   have hle':d'.toList.length≤cap:=by rw [Array.length_toList];omega
   refine⟨by rw [zhI (f:=Fi.cells) (n:=4) (fun _=>rfl)],.inr ⟨b,cap,cur',rfl,Nat.zero_le _,q1,hle',hmax,q2,?_⟩⟩
   rw [Array.length_toList];exact q3
  ·intro r hr k hk
   rw [List.mem_singleton] at hr
   subst hr
   exact .inr ⟨_,List.mem_singleton.2 rfl,hk⟩
  ·exact List.pairwise_singleton _ _
section
section
variable {cx:Cx} {m:Mem} {es:Array MapEntry} {clock b t kt et ty:Nat}
theorem zrv (ht:cx.P.underlying t=some (.map kt et)) (hh:Has m (.blk b (.map es clock))) {KK:Value→Mem→Prop} (hk:KK (.int .i64 (es.size:Int)) m):Rn cx m (Builtin.len_ #[t] ty #[.map (some b)]) KK:=by
 intro w hm
 have hb:=hm.ok _ hh.mem
 refine⟨_,_,_,?_,hm,hk⟩
 simp [Builtin.len_,run_underlying ht,MapKept.run_getObj_map hb,goInt]
end
abbrev zfa (A:Option Addr) (cap:Nat) (r:Rep):List Value:=[.slice A r.finds.length cap,.bool r.broken,.int .i64 r.clusters,.int .i64 r.held,.int .i64 r.data,.int .i64 r.packed,.int .i64 r.zero]
def repZ:Rep:=⟨false,0,0,0,0,0,[]⟩
def anyB (l:List Fi):Bool:=l.any fun x=>!decide (x.kind=7)
def ChkR (bs:List UInt8) (e:Ending) (m':Mem):Prop :=
 (zbz bs=none∧e=.returned (.tuple #[.agg (zfa none 0 repZ).toArray,.int .i64 180])∧m'=[]) ∨
 ∃ p r A cap,zbz bs=some p.h∧p.bs=bs∧p.c=clus p.h.bits∧p.Ok∧HOk p.h∧zhn (evW p) p r∧e=.returned (.tuple #[.agg (zfa A cap r).toArray,.int .i64 0])∧m'=[FR A cap r.finds]
theorem HOk.hl {h:Hd} (hk:HOk h):HL h:=⟨hk.snaps,hk.snapsAt,hk.snapsLen,hk.bitmaps,hk.bitmapsAt,hk.bitmapsLen⟩
theorem zjH {K V:Type} {x:K} {v:V}:∀ {l:List (K × V)} {j:Nat},l[j]?=some (x,v)→([x]++keys (l.eraseIdx j)).Perm (keys l)
 | [],j,h=>by simp at h
 | y::l,0,h=>by
  simp only [List.getElem?_cons_zero,Option.some.injEq] at h
  subst h
  exact List.Perm.refl _
 | y::l,j+1,h=>by
  have ih:=zjH (l:=l) (j:=j) (by simpa using h)
  show ([x]++(y.1::keys (l.eraseIdx j))).Perm (y.1::keys l)
  exact (List.Perm.swap y.1 x _).trans (ih.cons _)
theorem zvn (l:List Fi) (x:Fi):anyB (l++[x])=(anyB l||!decide (x.kind=7)):=by unfold anyB;simp
attribute [local irreducible] Br Rn RnU Cl RdG CpG Ld Rd Lp Dr Oth Cut fin Fits Eng.Enters Md NA
theorem zc4:Eng.Enters Tryz.prog 7:=zab fun _ _=>by kernel_rfl
set_option maxHeartbeats 2000000 in
theorem zjS (bs:List UInt8) (A:Option Addr) (c:Nat) (w:World) (hb:BytsIn w A bs) (hl:bs.length≤100000) (hc:bs.length≤c) :
  Ctr Tryz.prog 7 [.slice A bs.length c] [] (ChkR bs) w:=by
 refine enter (cx:=CXS 54 [] w (Foot [])) [(0,.slice A bs.length c)] zaa Tryz.func7 rfl rfl rfl rfl (MemOk.nil w _) ?_
 refine gGw ?_;(repeat ((first|refine .mk fun Ap capp=>?_|intro _);(conv=>whnf);refine gG0 ?_))
 rename_i oB
 refine⟨zf1,zac (m1:=[]) .nil (fun w' hm'=>zjk bs A c w' ((BytsIn.byts (cx:=CXS 54 [] w (Foot [])) hb zam).in_ hm') (by omega) hc) ?_⟩
 rintro e m' (⟨hh,rfl,rfl⟩|⟨p,s',g,hh,hA,hcap,hbs,hpc,hp,hk,hcmp,hg,rfl,rfl⟩)
 ·refine gGw ?_
  refine br_n (br_f rfl ?_)
  refine gGw ?_
  exact zbV rfl rfl (ldN (vs:=zfa none 0 repZ) zaa (by repeat constructor) rfl rfl rfl rfl) rfl (fun w' hm=>⟨_,.inl ⟨hh,rfl,rfl⟩,hm.sublist (List.nil_sublist _)⟩)
 ·have hev:=zn1 (U:=zda) (S:=zaU) (R:=za6) hp
  have hsok:SOk (appL s0W (evW p)):=SOk.zero.apps hev
  have hlen:s'.finds.length≤16000000000:=zxl hp (by rw [hbs];exact hl) hsok (zxn (s:=s0W) (fun x hx=>by cases hx) (zt3 hp hk.hl)) hcmp hg.f.keys
  have hsc:=hcmp.1
  refine gGw ?_
  refine br_n (br_t rfl ?_)
  refine gGw ?_;(repeat ((first|refine .mk fun Ap capp=>?_|intro _);(conv=>whnf);refine gG0 ?_))
  rename_i rpB
  refine zhz za9 (by repeat constructor) (fun rB=>?_)
  conv=>whnf
  refine lp zaa (γ:=List Fi × Array Nat × List (Fi × Int) × Option Addr × Nat) (fun q=>ItIs Fi.enc (Value.int .i64) g.fs q.2.1 q.2.2.1∧(q.1++keys q.2.2.1).Perm (keys s'.finds))
   (fun _=>[(25,.pointer (some ⟨rB,0,none⟩)),(6,.pointer (some ⟨rpB,0,none⟩)),(4,.pointer (some ⟨p.wB,0,none⟩)),(2,.pointer (some ⟨oB,0,none⟩))])
   (fun q=>FR q.2.2.2.1 q.2.2.2.2 q.1::.blk rB (.mapIter (some p.fB) g.fk q.2.1 g.fk)::.blk rpB (.cells (zfa q.2.2.2.1 q.2.2.2.2 ⟨anyB q.1,p.n,0,s'.data,s'.packed,s'.zero,q.1⟩).toArray 27)::(WM p s' g++[.blk oB (.cells (zfa none 0 repZ).toArray 27)]))
   (fun q=>q.2.2.1.length) ([],#[],s'.finds,none,0) ⟨ItIs.start hg.f,List.Perm.refl _⟩ ⟨rfl,rfl,rfl,rfl,trivial⟩ (SubM.row0 SubM.sl _ _) ?_
  rintro ⟨l,seen,rem,fA,fc⟩ ⟨hit,hperm⟩
  simp only at hit hperm
  have hlb:l.length+rem.length≤16000000000:=by
   have h1:=hperm.length_eq
   rw [List.length_append,List.length_map,List.length_map] at h1
   omega
  dsimp only
  conv=>whnf
  refine zkr _ (b:=p.fB) (es:=g.fs) (rem:=rem) (by repeat constructor) (by repeat constructor) hg.f hit (fun h0=>?_) (fun j q seen' hj hit' hlast=>⟨_,(by repeat constructor),?_⟩)
  ·subst h0
   have hperm:l.Perm (keys s'.finds):=by simpa using hperm
   refine gGw ?_
   refine br_f rfl ?_
   refine gGw ?_
   refine⟨zkg,zac (m1:=[FR fA fc l]) (by repeat constructor) (fun w' hm'=>zpq l fA fc w' (by omega) hm'.part) ?_⟩
   rintro e m' ⟨rfl,L',hL,hsrt,rfl⟩
   refine gGw ?_
   refine zrv zhc (by repeat constructor) ?_
   refine gGw ?_
   refine zbV rfl rfl (ldN (vs:=[.slice fA l.length fc,.bool (anyB l),.int .i64 p.n,.int .i64 (g.es.size:Int),.int .i64 s'.data,.int .i64 s'.packed,.int .i64 s'.zero]) zaa (by repeat constructor) rfl rfl rfl rfl) rfl
    (fun w' hm=>⟨_,.inr ⟨p,⟨anyB l,p.n,(g.es.size:Int),s'.data,s'.packed,s'.zero,L'⟩,fA,fc,hh,hbs,hpc,hp,hk,⟨s',hcmp,hg.f.keys,hL.trans hperm,hsrt,?_,rfl,?_,?_,?_,?_⟩,?_,rfl⟩,hm.sl⟩)
   ·exact (hL.any_eq).symm
   ·show (g.es.size:Int)=_
    rw [hg.h.len,hsc.1]
   ·exact hsc.2.1
   ·exact hsc.2.2.1
   ·exact hsc.2.2.2
   ·rw [← hL.length_eq]
  ·obtain ⟨x,v⟩:=q
   have hlt:(rem.eraseIdx j).length<rem.length:=by
    have:=(List.getElem?_eq_some_iff.1 hj).1
    rw [List.length_eraseIdx_of_lt this];omega
   have hpm:((l++[x])++keys (rem.eraseIdx j)).Perm (keys s'.finds):=by
    refine List.Perm.trans ?_ hperm
    rw [List.append_assoc]
    refine List.Perm.append_left _ ?_
    exact zjH hj
   have el:(l++[x]).flatMap Fi.cells=l.flatMap Fi.cells++x.cells:=by rw [List.flatMap_append];simp
   have ll:(l++[x]).length=l.length+1:=by simp
   refine gGw ?_
   refine br_t rfl ?_
   refine gGw ?_
   refine zhA (b:=p.fB) (r:=rB) (by repeat constructor) (by repeat constructor) hg.f.nodup hlast ?_
   refine gGw ?_;(repeat ((first|refine .mk fun Ap capp=>?_|intro _);(conv=>whnf);refine gG0 ?_))
   refine⟨(l++[x],seen',rem.eraseIdx j,Ap,capp),⟨hit',hpm⟩,hlt,⟨rfl,rfl,rfl,rfl,trivial⟩,?_⟩
   show SubM _ _ (.row Ap capp (l++[x]).length 61 4 ((l++[x]).flatMap Fi.cells)::.blk rB (.mapIter (some p.fB) g.fk seen' g.fk)::.blk rpB (.cells [.slice Ap (l++[x]).length capp,.bool (anyB (l++[x])),.int .i64 p.n,.int .i64 0,.int .i64 s'.data,.int .i64 s'.packed,.int .i64 s'.zero].toArray 27)::(WM p s' g++[.blk oB (.cells (zfa none 0 repZ).toArray 27)]))
   rw [el,ll,zvn]
   exact SubM.sl
end
section
def hdPl:Hd:=⟨9,0,0,0,0,3,512,1,0,0,0,0,0,0,⟨#[]⟩⟩
theorem zw0:HOk hdPl:=by
 refine⟨?_,?_,?_,?_,?_,?_,?_,?_,?_,?_,?_,?_,?_,?_,?_⟩<;>decide
def putL (bs:List UInt8) (at_ x:Nat):Nat→List UInt8
 | 0=>bs
 | n+1=>putL (bs.set at_ (UInt8.ofNat (x%256))) (at_+1) (x/256) n
theorem zok:∀ (n:Nat) (bs:List UInt8) (a x:Nat),(putL bs a x n).length=bs.length
 | 0,_,_,_=>rfl
 | n+1,bs,a,x=>by rw [putL,zok n,List.length_set]
def plF (B:List UInt8):List UInt8:=(((putL (B++List.replicate 1024 0) 512 1024 8).set 1024 1).set 1025 1).set 1026 1
def plB1:List UInt8:=plF (za7 hdPl)
theorem set8 {l:List UInt8} {i:Nat} {v:UInt8} {x:Int} (hx:x=(v.toNat:Int)):zbp i (zaS (.int .u8 x)) ((zag l).map (.int .u8))=(zag (l.set i v)).map (Value.int .u8):=by
 subst hx
 show ((zag l).map (Value.int .u8)).set i (.int .u8 (v.toNat:Int))=_
 unfold zag
 rw [List.map_set,List.map_set]
attribute [local irreducible] Br Rn RnU Cl RdG CpG Ld Rd Lp Dr Oth Cut fin Fits Eng.Enters Md NA
theorem zcB:Eng.Enters Tryz.prog 10:=zab fun _ _=>by kernel_rfl
theorem znj:Eng.Enters Tryz.prog 54:=zab fun _ _=>by kernel_rfl
theorem zkI:Eng.Enters Tryz.prog 24:=zab fun _ _=>by kernel_rfl
theorem zfg (e:Int) (w:World):Calls Tryz.prog 10 #[.int .i64 e] w fun r w'=>r=.returned (.int .i64 e)∧Fr (fun _=>False) w w':=by
 refine enter (cx:=CX 4 [] w) [(0,.int .i64 e)] zaa Tryz.func10 rfl rfl rfl rfl (MemOk.nil w _) ?_
 refine gGw ?_
 exact fin1 rfl rfl (fun w' hm=>⟨rfl,hm.fr⟩)
theorem zuR (A:Option Addr) (c:Nat) (bs:List UInt8) (a x n:Nat) (w:World) (hl:bs.length≤1000000) (ha:a+n≤bs.length) (hn:n≤8) (hx:x<18446744073709551616) (hm:MemOk w (Foot [BR8 A c bs.length bs]) [BR8 A c bs.length bs] w) :
  Ctr Tryz.prog 54 [.slice A bs.length c,.int .i64 (a:Int),.int .u64 (x:Int),.int .i64 (n:Int)] [BR8 A c bs.length bs] (fun e m'=>e=.returned (.tuple #[])∧m'=[BR8 A c bs.length (putL bs a x n)]) w:=by
 refine enter (cx:=CXS 23 [19] w (Foot [BR8 A c bs.length bs])) [(0,.slice A bs.length c),(1,.int .i64 (a:Int)),(2,.int .u64 (x:Int)),(3,.int .i64 (n:Int))] zaa Tryz.func54 rfl rfl rfl rfl hm ?_
 generalize hR:putL bs a x n=R
 refine gGw ?_
 refine lp_w zaa (γ:=Nat × List UInt8 × Nat) (fun q=>q.1≤n∧q.2.1.length=bs.length∧q.2.2<18446744073709551616∧putL q.2.1 (a+q.1) q.2.2 (n-q.1)=R)
  (fun q=>[(8,.int .i64 (q.1:Int)),(0,.slice A bs.length c),(1,.int .i64 (a:Int)),(2,.int .u64 (q.2.2:Int)),(3,.int .i64 (n:Int))]) (fun q=>[BR8 A c bs.length q.2.1]) (fun q=>n-q.1) (0,bs,x) ⟨Nat.zero_le _,rfl,hx,hR⟩ ⟨rfl,rfl,rfl,rfl,rfl,trivial⟩ SubM.sl ?_
 clear hR hx
 rintro ⟨i,bs2,x2⟩ ⟨hi,hb2,hx2,hR⟩ ⟨w9,hw9⟩
 simp only at hi hb2 hx2 hR hw9
 dsimp only
 refine gGw ?_
 refine br_d (fun hlt=>?_) (fun hge=>?_)
 ·obtain ⟨f,hf⟩:∃ f,n-i=f+1:=⟨n-i-1,by omega⟩
  rw [hf,putL] at hR
  obtain ⟨b9,rfl,_⟩:=zaQ (hw9.ok (BR8 A c bs.length bs2) (List.mem_cons_self ..)) (zd3 bs2 0 (by omega))
  refine gGw ?_
  refine And.intro ⟨by omega,by omega,Pl.mk _ _⟩ ?_
  refine gGw ?_
  refine zaw (off:=a+i) (xs':=(zag (bs2.set (a+i) (UInt8.ofNat (x2%256)))).map (.int .u8)) zaa rfl (by repeat constructor) rfl rfl (by show a+i+1≤bs.length*1;omega) Nat.one_pos (set8 (by rw [IntKind.wrap_u8,UInt8.toNat_ofNat'];omega)) ?_
  refine gGw ?_
  refine⟨(i+1,bs2.set (a+i) (UInt8.ofNat (x2%256)),x2/256),⟨by show i+1≤n;omega,by show (bs2.set _ _).length=bs.length;rw [List.length_set];exact hb2,by show x2/256<18446744073709551616;omega,?_⟩,by show n-(i+1)<n-i;omega,⟨congrArg (fun x=>some (Value.int .i64 x)) (by push_cast;rfl),rfl,rfl,?_,rfl,trivial⟩,SubM.sl⟩
  ·show putL (bs2.set (a+i) (UInt8.ofNat (x2%256))) (a+(i+1)) (x2/256) (n-(i+1))=R
   rw [show n-(i+1)=f by omega]
   exact hR
  ·refine congrArg (fun x=>some (Value.int .u64 x)) ?_
   show _=((x2/256:Nat):Int)
   push_cast
   omega
 ·have ei:i=n:=by omega
  subst ei
  rw [Nat.sub_self,putL] at hR
  subst hR
  refine gGw ?_
  exact fin0 rfl (fun w' hm=>⟨_,⟨rfl,rfl⟩,hm⟩) (by first|exact .inl rfl|exact .inr rfl)
theorem zxS (A:Option Addr) (c m:Nat) (bs:List UInt8) (a x n:Nat) (w:World) (hb:bs.length=m) (hl:m≤1000000) (ha:a+n≤m) (hn:n≤8) (hx:x<18446744073709551616) (hm:MemOk w (Foot [BR8 A c m bs]) [BR8 A c m bs] w) :
  Ctr Tryz.prog 54 [.slice A m c,.int .i64 (a:Int),.int .u64 (x:Int),.int .i64 (n:Int)] [BR8 A c m bs] (fun e m'=>e=.returned (.tuple #[])∧m'=[BR8 A c m (putL bs a x n)]) w:=by
 subst hb
 exact zuR A c bs a x n w hl ha hn hx hm
theorem zpU (w:World):Ctr Tryz.prog 24 [] [] (fun e m'=>∃ A c,e=.returned (.slice A 1536 c)∧m'=[BR8 A c 1536 plB1]) w:=by
 refine enter (cx:=CXS 17 [] w (Foot [])) [] zaa Tryz.func24 rfl rfl rfl rfl (MemOk.nil w _) ?_
 have h5:(za7 hdPl).length=512:=by decide
 have hby:=fun w'=>zij hdPl w' zw0
 obtain ⟨L0,hL0⟩:∃ L0,L0=hdPl.cells:=⟨_,rfl⟩
 unfold plB1
 generalize za7 hdPl=B at h5 hby ⊢
 conv=>whnf
 refine⟨zfw,zac (m1:=[]) .nil (fun w' hm'=>hby w') ?_⟩
 rintro e m' ⟨gA,gc,rfl,rfl⟩
 conv=>whnf
 (iterate 1 ((first|refine stp (by (repeat constructor);first|done|fail) ?_|refine stn (by (repeat constructor);first|done|fail) ?_|refine sto (by (repeat constructor);first|done|fail) (by first|omega|(simp only;omega)|decide) ?_|(refine ziJ (And.intro (fun hg=>?_) ?_);focus (simp only [Bool.and_eq_true,Bool.or_eq_true,Bool.not_eq_true',decide_eq_true_eq,decide_eq_false_iff_not] at hg;first|omega|exact zaB (by omega)|exact zbr (by omega)|assumption))|refine .mk fun Ap capp=>?_|refine⟨?_,trivial⟩|intro _);conv=>whnf))
 rename_i eB
 refine zfQ (m1:=[BR8 (some ⟨eB,0,none⟩) 0 0 [],BR8 gA gc 512 B]) (zka (zey (m1:=[.blk eB (.cells ([]:List Value).toArray 5),BR8 gA gc 512 B]) (by kernel_rfl) (SubM.refl _ _)) (zqX (n:=0) (s:=1) (by repeat constructor) rfl rfl (by decide))) ?_
 refine zba (acc:=[]) (ys:=B) zaa rfl (by repeat constructor) (by repeat constructor) h5 (by omega) (fun A1 c1=>?_)
 rw [List.nil_append]
 conv=>whnf
 refine zwF (k:=1024) rfl (by repeat constructor) (by decide) (by decide) (fun A2 c2=>?_)
 rw [← zde]
 conv=>whnf
 have hl6:(B++List.replicate 1024 (0:UInt8)).length=0+512+1024:=by rw [List.length_append,h5,List.length_replicate]
 refine⟨znj,zac (m1:=[BR8 A2 c2 (0+512+1024) (B++List.replicate 1024 0)]) (by repeat constructor) (fun w' hm'=>(zxS A2 c2 (0+512+1024) (B++List.replicate 1024 0) 512 1024 8 w' hl6 (by decide) (by decide) (by decide) (by decide) hm'.part).ex) ?_⟩
 rintro e m' ⟨⟨rfl,rfl⟩,w9,hw9⟩
 unfold plF
 have hl7:=zok 8 (B++List.replicate 1024 0) 512 1024
 rw [hl6] at hl7
 generalize putL (B++List.replicate 1024 0) 512 1024 8=D at hl7 hw9 ⊢
 obtain ⟨b9,rfl,_⟩:=zaQ (hw9 (BR8 A2 c2 (0+512+1024) D) (List.mem_cons_self ..)) (zd3 D 0 (by omega))
 conv=>whnf
 refine And.intro ⟨by decide,by decide,Pl.mk _ _⟩ ?_
 refine gGw ?_
 refine zaw (off:=1024) (xs':=(zag (D.set 1024 1)).map (.int .u8)) zaa rfl (by repeat constructor) rfl rfl (by decide) Nat.one_pos (set8 (v:=1) rfl) ?_
 refine gGw ?_
 refine And.intro ⟨by decide,by decide,Pl.mk _ _⟩ ?_
 refine gGw ?_
 refine zaw (off:=1025) (xs':=(zag ((D.set 1024 1).set 1025 1)).map (.int .u8)) zaa rfl (by repeat constructor) rfl rfl (by decide) Nat.one_pos (set8 (v:=1) rfl) ?_
 refine gGw ?_
 refine And.intro ⟨by decide,by decide,Pl.mk _ _⟩ ?_
 refine gGw ?_
 refine zaw (off:=1026) (xs':=(zag (((D.set 1024 1).set 1025 1).set 1026 1)).map (.int .u8)) zaa rfl (by repeat constructor) rfl rfl (by decide) Nat.one_pos (set8 (v:=1) rfl) ?_
 refine gGw ?_
 exact fin1 rfl rfl (fun w' hm=>⟨_,⟨_,c2,rfl,rfl⟩,hm.sl⟩)
end
def plB2:List UInt8:=plB1.set 1030 2
theorem zl2:zbz plB1=some hdPl:=by kernel_rfl
theorem zl1:zbz plB2=some hdPl:=by kernel_rfl
theorem plW1 (A:Option Addr) (cap wB hB fB:Nat):appL s0W (evW ⟨A,cap,plB1,hdPl,512,3,wB,hB,fB⟩)=⟨[(0,⟨1,0,false⟩),(1,⟨1,0,false⟩),(2,⟨1,0,false⟩)],[],0,0,0⟩:=by kernel_rfl
theorem plH1 (A:Option Addr) (cap wB hB fB:Nat):zbh ⟨A,cap,plB1,hdPl,512,3,wB,hB,fB⟩=[(0,1),(1,1),(2,1)]:=by kernel_rfl
theorem plH2 (A:Option Addr) (cap wB hB fB:Nat):zbh ⟨A,cap,plB2,hdPl,512,3,wB,hB,fB⟩=[(0,1),(1,1),(2,1),(6,2)]:=by kernel_rfl
theorem plW2 (A:Option Addr) (cap wB hB fB:Nat):appL s0W (evW ⟨A,cap,plB2,hdPl,512,3,wB,hB,fB⟩)=⟨[(0,⟨1,0,false⟩),(1,⟨1,0,false⟩),(2,⟨1,0,false⟩)],[],0,0,0⟩:=by kernel_rfl
theorem plP {p:WP} {bs:List UInt8} (hh:zbz bs=some hdPl) (hb:bs.length=1536) (h1:zbz bs=some p.h) (h2:p.bs=bs) (h3:p.c=clus p.h.bits) (hp:p.Ok):∃ A cap wB hB fB,p=⟨A,cap,bs,hdPl,512,3,wB,hB,fB⟩:=by
 obtain ⟨A,cap,bs',h,c,n,wB,hB,fB⟩:=p
 have hn:=hp.n
 simp only at h1 h2 h3 hn
 rw [hh] at h1
 injection h1 with h1
 subst h1
 subst h2
 have hc:c=512:=by rw [h3];decide
 subst hc
 rw [hb] at hn
 have:n=3:=by rw [hn];decide
 subst this
 exact⟨A,cap,wB,hB,fB,rfl⟩
def plS:WS:=⟨[(0,⟨1,0,false⟩),(1,⟨1,0,false⟩),(2,⟨1,0,false⟩)],[],0,0,0⟩
theorem plHe {p:WP} {hv:List (Int × Int)} (h0:mget hv 0=some 1) (h1:mget hv 1=some 1) (h2:mget hv 2=some 1) (x:Fi):¬ ∃ q∈plS.holders,heX p hv q x:=by
 rintro ⟨q,hq,hx⟩
 have hq':q=(0,⟨1,0,false⟩)∨q=(1,⟨1,0,false⟩)∨q=(2,⟨1,0,false⟩):=by
  have:q∈[((0:Int),(⟨1,0,false⟩:Hl)),(1,⟨1,0,false⟩),(2,⟨1,0,false⟩)]:=hq
  simpa using this
 rcases hx with hx|hx
 ·rcases hq' with rfl|rfl|rfl<;>(obtain ⟨h,_⟩:=hx;simp at h)
 ·unfold oddX at hx
  rcases hq' with rfl|rfl|rfl<;>simp [h0,h1,h2] at hx
theorem zxL {p:WP} {r:Rep} (h1:zbz plB1=some p.h) (h2:p.bs=plB1) (h3:p.c=clus p.h.bits) (hp:p.Ok) (h:zhn (evW p) p r):r.finds=[]∧r.broken=false∧r.clusters=3∧r.held=3:=by
 obtain ⟨A,cap,wB,hB,fB,rfl⟩:=plP zl2 (by kernel_rfl) h1 h2 h3 hp
 obtain ⟨s',⟨_,hx⟩,_,hperm,_,hbr,hc,hh,_⟩:=h
 rw [plW1,plH1] at hx
 rw [plW1] at hh
 have hk:keys s'.finds=[]:=by
  rw [List.eq_nil_iff_forall_not_mem]
  intro x hm
  rw [hx] at hm
  rcases hm with (hm|hm)|⟨q,hq,hm⟩
  ·cases hm
  ·exact plHe (p:=⟨A,cap,plB1,hdPl,512,3,wB,hB,fB⟩) (by decide) (by decide) (by decide) x hm
  ·have hq':q=(0,1)∨q=(1,1)∨q=(2,1):=by simpa using hq
   obtain ⟨hs,_⟩:=hm
   rcases hq' with rfl|rfl|rfl<;>revert hs<;>decide
 rw [hk] at hperm
 have hf:r.finds=[]:=List.Perm.eq_nil hperm
 exact⟨hf,by rw [hbr,hf];rfl,hc,hh⟩
theorem zxK {p:WP} {r:Rep} (h1:zbz plB2=some p.h) (h2:p.bs=plB2) (h3:p.c=clus p.h.bits) (hp:p.Ok) (h:zhn (evW p) p r):r.finds=[⟨7,3072,0,2⟩]∧r.broken=false:=by
 obtain ⟨A,cap,wB,hB,fB,rfl⟩:=plP zl1 (by kernel_rfl) h1 h2 h3 hp
 obtain ⟨s',⟨_,hx⟩,hnd,hperm,_,hbr,hc,hh,_⟩:=h
 rw [plW2,plH2] at hx
 have hall:∀ x,x∈keys s'.finds↔x=⟨7,3072,0,2⟩:=by
  intro x
  rw [hx]
  constructor
  ·rintro ((hm|hm)|⟨q,hq,hm⟩)
   ·cases hm
   ·exact absurd hm (plHe (p:=⟨A,cap,plB2,hdPl,512,3,wB,hB,fB⟩) (by decide) (by decide) (by decide) x)
   ·have hq':q=(0,1)∨q=(1,1)∨q=(2,1)∨q=(6,2):=by simpa using hq
    obtain ⟨hs,ho⟩:=hm
    rcases hq' with rfl|rfl|rfl|rfl
    ·exact absurd hs (by decide)
    ·exact absurd hs (by decide)
    ·exact absurd hs (by decide)
    ·rcases ho with ⟨ho,_⟩|⟨_,ho⟩
     ·exact absurd ho (by decide)
     ·rw [ho];rfl
  ·rintro rfl
   exact .inr ⟨(6,2),by simp,by decide,.inr ⟨by decide,rfl⟩⟩
 have hk:keys s'.finds=[⟨7,3072,0,2⟩]:=by
  generalize keys s'.finds=l at hall hnd
  match l,hall,hnd with
  | [],hall,_=>exact absurd ((hall ⟨7,3072,0,2⟩).2 rfl) (by simp)
  | [a],hall,_=>rw [(hall a).1 (by simp)]
  | a::b::t,hall,hnd =>
   have ha:=(hall a).1 (by simp)
   have hb:=(hall b).1 (by simp)
   rw [List.nodup_cons] at hnd
   exact absurd (by rw [ha,hb];simp) hnd.1
 rw [hk] at hperm
 have hf:r.finds=[⟨7,3072,0,2⟩]:=List.perm_singleton.1 hperm
 exact⟨hf,by rw [hbr,hf];rfl⟩
theorem eqF1 (ox oy:Operand) (w:World):(zdK .eql 61 ox oy (.agg (Fi.cells ⟨7,3072,0,2⟩).toArray) (.agg (Fi.cells ⟨7,3072,0,2⟩).toArray)).run Tryz.prog w=.ok (.bool true) w:=by kernel_rfl
theorem zu6:Tryz.prog.eqGuardType Tryz.prog.depth 61=false:=by kernel_rfl
theorem zx6 (x y:Fi):(decide (x.kind=y.kind)&&(decide (x.at_=y.at_)&&(decide (x.want=y.want)&&decide (x.have_=y.have_))))=decide (x=y):=by
 rw [Bool.eq_iff_iff]
 simp only [Bool.and_eq_true,decide_eq_true_eq]
 constructor
 ·rintro ⟨h1,h2,h3,h4⟩
  cases x;cases y
  simp only at h1 h2 h3 h4
  subst h1 h2 h3 h4
  rfl
 ·rintro rfl;exact⟨rfl,rfl,rfl,rfl⟩
theorem zsu (op:BinOp) (hop:(op matches .eql|.neq)=true) (ox oy:Operand) (x y:Fi) (w:World):(eqGuard op 61 ox oy (.agg x.cells.toArray) (.agg y.cells.toArray)).run Tryz.prog w=.ok () w:=by
 unfold eqGuard
 simp [hop,zu6]
theorem zu7 (x y:Fi) (w:World):(Op.equal 61 (.agg x.cells.toArray) (.agg y.cells.toArray)).run Tryz.prog w=.ok (decide (x=y)) w:=by
 rw [← zx6]
 exact zoS (Op.maxDepth-2) x.kind x.at_ x.want x.have_ y.kind y.at_ y.want y.have_ w
theorem neFi (ox oy:Operand) (x y:Fi) (w:World):(zdK .neq 61 ox oy (.agg x.cells.toArray) (.agg y.cells.toArray)).run Tryz.prog w=.ok (.bool (!decide (x=y))) w:=by
 unfold zdK
 rw [Sem.run_bind,zsu .neq rfl ox oy x y w,Result.andThen_ok]
 show (do pure (Value.bool (!(← Op.equal 61 (.agg x.cells.toArray) (.agg y.cells.toArray)))):Sem Value).run Tryz.prog w=_
 rw [Sem.run_bind,zu7 x y w,Result.andThen_ok]
 rfl
section
attribute [local irreducible] Br Rn RnU Cl RdG CpG Ld Rd Lp Dr Oth Cut fin Fits Eng.Enters Md NA
theorem zbU:Eng.Enters Tryz.prog 6:=zab fun _ _=>by kernel_rfl
theorem zld (n:Nat) (bs:List UInt8) (A:Option Addr) (c:Nat) (w:World) (hn:bs.length=n) (hb:BytsIn w A bs) (hl:n≤100000) (hc:n≤c) :
  Ctr Tryz.prog 7 [.slice A n c] [] (ChkR bs) w:=by
 subst hn
 exact zjS bs A c w hb hl hc
set_option maxHeartbeats 1000000 in
theorem zpT (w:World):Ctr Tryz.prog 6 [] [] (fun e m'=>e=.returned (.bool true)∧m'=[]) w:=by
 refine enter (cx:=⟨Tryz.prog,67,w,Foot [],tab,[],[10],[],[]⟩) [] zaa Tryz.func6 rfl rfl rfl rfl (MemOk.nil w _) ?_
 have hlen1:plB1.length=1536:=by kernel_rfl
 have hlen2:plB2.length=1536:=by kernel_rfl
 have hset:plB2=plB1.set 1030 2:=rfl
 have hr1:=@zxL
 have hr2:=@zxK
 have hh1:=zl2
 have hh2:=zl1
 have hpl:=fun w'=>zpU w'
 generalize plB1=B1 at hlen1 hset hr1 hh1 hpl
 generalize plB2=B2 at hlen2 hset hr2 hh2
 subst hset
 refine gGw ?_
 refine⟨zkI,zac (m1:=[]) .nil (fun w' hm'=>(hpl w').ex) ?_⟩
 rintro e m' ⟨⟨bA,bc,rfl,rfl⟩,w9,hw9⟩
 obtain ⟨b9,rfl,_⟩:=zaQ (hw9 (BR8 bA bc 1536 B1) (List.mem_cons_self ..)) (zd3 B1 0 (by omega))
 have hcap:1536≤bc:=zeJ (hw9 (BR8 (some ⟨b9,0,none⟩) bc 1536 B1) (List.mem_cons_self ..))
 refine gGw ?_
 refine⟨zc4,zac (m1:=[]) .nil (fun w' hm'=>zld 1536 B1 _ bc w' hlen1 (zay (hm'.ok (BR8 (some ⟨b9,0,none⟩) bc 1536 B1) (by simp))) (by omega) hcap) ?_⟩
 rintro e m' (⟨hn,_⟩|⟨p1,r1,fA1,fc1,q1,q2,q3,q4,q5,q6,rfl,rfl⟩)
 ·rw [hh1] at hn;cases hn
 obtain ⟨z1,z2,z3,z4⟩:=hr1 q1 q2 q3 q4 q6
 refine gGw ?_;(repeat ((first|refine .mk fun Ap capp=>?_|intro _);(conv=>whnf);refine gG0 ?_))
 rename_i xB
 refine And.intro ⟨by decide,by decide,Pl.mk _ _⟩ ?_
 refine gGw ?_
 refine zaw (off:=1030) (xs':=(zag (B1.set 1030 2)).map (.int .u8)) zaa rfl (by repeat constructor) rfl rfl (by decide) Nat.one_pos (set8 (v:=2) rfl) ?_
 refine gGw ?_
 refine⟨zc4,zac (m1:=[]) .nil (fun w' hm'=>(zld 1536 (B1.set 1030 2) _ bc w' hlen2 (zay (hm'.ok (BR8 (some ⟨b9,0,none⟩) bc 1536 (B1.set 1030 2)) (by simp))) (by omega) hcap).ex) ?_⟩
 rintro e m' ⟨(⟨hn,_⟩|⟨p2,r2,fA2,fc2,q1,q2,q3,q4,q5,q6,rfl,rfl⟩),w8,hw8⟩
 ·rw [hh2] at hn;cases hn
 obtain ⟨y1,y2⟩:=hr2 q1 q2 q3 q4 q6
 have hw8':=hw8 (FR fA2 fc2 r2.finds) (List.mem_singleton.2 rfl)
 clear hw8
 rw [y1] at hw8'
 obtain ⟨b8,rfl,_⟩:=zaQ hw8' (j:=0) (v:=.int .i64 7) rfl
 obtain ⟨r2b,r2c,r2h,r2d,r2p,r2z,r2f⟩:=r2
 simp only at y1 y2
 subst y1 y2
 obtain ⟨r1b,r1c,r1h,r1d,r1p,r1z,r1f⟩:=r1
 simp only at z1 z2 z3 z4
 subst z1 z2 z3 z4
 refine gGw ?_;(repeat ((first|refine .mk fun Ap capp=>?_|intro _);(conv=>whnf);refine gG0 ?_))
 refine⟨zcB,zae _ (fun w' _=>zfg 0 w') ?_⟩
 refine gGw ?_
 refine⟨_,cpg zcB (fun _ w' _=>zfg 0 w'),?_⟩
 refine gGw ?_
 refine br_t rfl ?_
 refine gGw ?_
 refine And.intro ⟨by decide,(show (0:Int)<1 by decide),Pl.mk _ _⟩ ?_
 refine gGw ?_
 refine zai (zrY (f:=Fi.cells) (k:=4) (L:=[⟨7,3072,0,2⟩]) (i:=0) zaa (by repeat constructor) (by decide) (fun _=>rfl) rfl rfl rfl rfl) ?_
 refine gGw ?_
 refine Rd.n (zcl fun w=>eqF1 _ _ w) ?_
 refine gGw ?_
 exact fin1 rfl rfl (fun w' hm=>⟨[],⟨rfl,rfl⟩,hm.sublist (List.nil_sublist _)⟩)
theorem zvg {P:Program} {f:Nat} {args:List Value} {v:Value} {w:World} (h:Ctr P f args [] (fun e m'=>e=.returned v∧m'=[]) w):Calls P f args.toArray w fun e w'=>e=.returned v∧Fr (fun _=>False) w w':=by
 refine Calls.mono h ?_
 rintro e w' ⟨m',⟨rfl,rfl⟩,hm⟩
 refine⟨rfl,?_⟩
 have hf:=hm.fr
 exact⟨hf.os,hf.tape,hf.output,hf.size,fun k hk _=>hf.block k hk (zam k)⟩
theorem zff (w:World):Calls Tryz.prog 6 #[] w fun e w'=>e=.returned (.bool true)∧Fr (fun _=>False) w w':=zvg (zpT w)
end
section
theorem znr (l k:List Ev):zbv (l++k)=zbv l++zbv k:=List.filterMap_append ..
variable {U V:List UInt8→Int→Bool} {S:Int→List UInt8→Int→Option (List Snp)} {R:Int→List UInt8→Int→Option (List Rwp)} {p:WP}
theorem zt2 {p q:WP} (h1:p.bs=q.bs) (h2:p.h=q.h) (h3:p.c=q.c) (h4:p.n=q.n):zfn U S R p=zfn U S R q:=by
 cases p;cases q
 simp only at h1 h2 h3 h4
 subst h1 h2 h3 h4
 rfl
theorem zwy {bs ms:List UInt8} {n:Nat} (hl:ms.length=bs.length) (h:∀ j,j<n→ms.getD j 0=bs.getD j 0):ms.take n=bs.take n:=by
 apply List.ext_getElem
 ·rw [List.length_take,List.length_take,hl]
 ·intro j h1 h2
  rw [List.length_take] at h1
  rw [List.getElem_take,List.getElem_take]
  have:=h j (by omega)
  rw [List.getD_eq_getElem?_getD,List.getD_eq_getElem?_getD,List.getElem?_eq_getElem (by omega),List.getElem?_eq_getElem (by omega)] at this
  exact this
theorem zp3 {bs ms:List UInt8} (hl:ms.length=bs.length) (ht:ms.take 512=bs.take 512):zbz ms=zbz bs:=by
 unfold zbz
 rw [hl,ht]
theorem zrt {w:World} {A:Option Addr} {cap n t k:Nat} {xs:List Value} (h:Res.ok w (.row A cap n t k xs)):n≤9223372036854775807:=by
 rcases h.2 with ⟨_,h0⟩|⟨g,cap',cur,_,_,_,hn,hc,_⟩
 ·omega
 ·have:cap'≤9223372036854775807:=hc
  omega
end
section
def hnQ (q:Int × Hl):Int × Int:=(q.1,q.2.n)
def HldR (bs:List UInt8) (e:Ending) (m':Mem):Prop :=
 (zbz bs=none∧e=.returned (.tuple #[.map none,.int .i64 180])∧m'=[]) ∨
 ∃ p l es ck mB,zbz bs=some p.h∧p.bs=bs∧p.c=clus p.h.bits∧p.Ok∧HOk p.h∧MapIs (Value.int .i64) (Value.int .u64) es ck l∧l.Perm ((appL s0W (evW p)).holders.map hnQ) ∧
  e=.returned (.tuple #[.map (some mB),.int .i64 0])∧m'=[.blk mB (.map es ck)]
theorem zjD {α β:Type} (f:α→β):∀ {l:List α} {j:Nat} {x:α},l[j]?=some x→([f x]++(l.eraseIdx j).map f).Perm (l.map f)
 | [],j,_,h=>by simp at h
 | y::l,0,x,h=>by
  simp only [List.getElem?_cons_zero,Option.some.injEq] at h
  subst h
  exact List.Perm.refl _
 | y::l,j+1,x,h=>by
  have ih:=zjD f (l:=l) (j:=j) (x:=x) (by simpa using h)
  show ([f x]++(f y::(l.eraseIdx j).map f)).Perm (f y::l.map f)
  exact (List.Perm.swap (f y) (f x) _).trans (ih.cons _)
attribute [local irreducible] Br Rn RnU Cl RdG CpG Ld Rd Lp Dr Oth Cut fin Fits Eng.Enters Md NA
theorem ziU:Eng.Enters Tryz.prog 13:=zab fun _ _=>by kernel_rfl
set_option maxHeartbeats 2000000 in
theorem zmw (bs:List UInt8) (A:Option Addr) (c:Nat) (w:World) (hb:BytsIn w A bs) (hl:bs.length≤20000000) (hc:bs.length≤c) :
  Ctr Tryz.prog 13 [.slice A bs.length c] [] (HldR bs) w:=by
 refine enter (cx:=CXS 33 [] w (Foot [])) [(0,.slice A bs.length c)] zaa Tryz.func13 rfl rfl rfl rfl (MemOk.nil w _) ?_
 refine gGw ?_
 refine⟨zf1,zac (m1:=[]) .nil (fun w' hm'=>zjk bs A c w' ((BytsIn.byts (cx:=CXS 33 [] w (Foot [])) hb zam).in_ hm') (by omega) hc) ?_⟩
 rintro e m' (⟨hh,rfl,rfl⟩|⟨p,s',g,hh,hA,hcap,hbs,hpc,hp,hk,hcmp,hg,rfl,rfl⟩)
 ·refine gGw ?_
  refine br_n (br_f rfl ?_)
  refine gGw ?_
  exact fin2 rfl rfl rfl (fun w' hm=>⟨_,.inl ⟨hh,rfl,rfl⟩,hm.sublist (List.nil_sublist _)⟩)
 ·refine gGw ?_
  refine br_n (br_t rfl ?_)
  refine gGw ?_;(repeat ((first|refine .mk fun Ap capp=>?_|intro _);(conv=>whnf);refine gG0 ?_))
  rename_i mB
  refine zhz zhc (by repeat constructor) (fun rB=>?_)
  conv=>whnf
  refine lp zaa (γ:=List (Int × Int) × (Array MapEntry × Nat) × Array Nat × List (Int × Hl)) (fun q=>MapIs (Value.int .i64) (Value.int .u64) q.2.1.1 q.2.1.2 q.1∧ItIs (Value.int .i64) Hl.enc g.es q.2.2.1 q.2.2.2∧(q.1++q.2.2.2.map hnQ).Perm (s'.holders.map hnQ))
   (fun _=>[(22,.pointer (some ⟨rB,0,none⟩)),(6,.map (some mB))])
   (fun q=>.blk rB (.mapIter (some p.hB) g.ck q.2.2.1 g.ck)::.blk mB (.map q.2.1.1 q.2.1.2)::WM p s' g)
   (fun q=>q.2.2.2.length) ([],(#[],0),#[],s'.holders) ⟨MapIs.nil _ _,ItIs.start hg.h,List.Perm.refl _⟩ ⟨rfl,rfl,trivial⟩ SubM.sl ?_
  rintro ⟨l,⟨es,ck⟩,seen,rem⟩ ⟨hM,hit,hperm⟩
  simp only at hM hit hperm
  dsimp only
  conv=>whnf
  refine zkr _ (b:=p.hB) (es:=g.es) (rem:=rem) (by repeat constructor) (by repeat constructor) hg.h hit (fun h0=>?_) (fun j q seen' hj hit' hlast=>⟨_,(by repeat constructor),?_⟩)
  ·subst h0
   have hperm:l.Perm (s'.holders.map hnQ):=by simpa using hperm
   refine gGw ?_
   refine br_f rfl ?_
   refine gGw ?_
   exact fin2 rfl rfl rfl (fun w' hm=>⟨_,.inr ⟨p,l,es,ck,mB,hh,hbs,hpc,hp,hk,hM,by rw [← hcmp.1.1];exact hperm,rfl,rfl⟩,hm.sl⟩)
  ·obtain ⟨x,v⟩:=q
   have hlt:(rem.eraseIdx j).length<rem.length:=by
    have:=(List.getElem?_eq_some_iff.1 hj).1
    rw [List.length_eraseIdx_of_lt this];omega
   have hpm:((l++[(x,v.n)])++(rem.eraseIdx j).map hnQ).Perm (s'.holders.map hnQ):=by
    refine List.Perm.trans ?_ hperm
    rw [List.append_assoc]
    exact List.Perm.append_left _ (zjD hnQ hj)
   have hno:x ∉ keys l:=by
    have h1:=(hpm.map Prod.fst).nodup_iff.2 (by
     have:(s'.holders.map hnQ).map Prod.fst=keys s'.holders:=by rw [List.map_map];rfl
     rw [this];exact hg.h.keys)
    rw [List.map_append,List.map_append] at h1
    have h2:=(List.nodup_append.1 (List.nodup_append.1 h1).1).2.2
    intro hx
    exact h2 x hx x (by simp) rfl
   refine gGw ?_
   refine br_t rfl ?_
   refine gGw ?_
   refine zhA (b:=p.hB) (r:=rB) (by repeat constructor) (by repeat constructor) hg.h.nodup hlast ?_
   refine gGw ?_;(repeat ((first|refine .mk fun Ap capp=>?_|intro _);(conv=>whnf);refine gG0 ?_))
   refine zbG zcZ zhb (by repeat constructor) hM x v.n (fun es' ck' hM'=>⟨_,(by repeat constructor),?_⟩)
   rw [zgm hno] at hM'
   refine gGw ?_
   exact⟨(l++[(x,v.n)],(es',ck'),seen',rem.eraseIdx j),⟨hM',hit',hpm⟩,hlt,⟨rfl,rfl,trivial⟩,SubM.sl⟩
end
section
def ziW (bs:List UInt8) (cs n place:Int):Bool :=
 decide (cs≤bs.length)&&decide (n≤bs.length-cs)&&(List.range (n/8).toNat).any fun i=>decide ((getV bs (cs.toNat+8*i) 8:Int)=place)
attribute [local irreducible] Br Rn RnU Cl RdG CpG Ld Rd Lp Dr Oth Cut fin Fits Eng.Enters Md NA
theorem zgp:Eng.Enters Tryz.prog 12:=zab fun _ _=>by kernel_rfl
theorem zpY (bs:List UInt8) (h:Hd) (A:Option Addr) (c:Nat) (place:Int) (w:World) (hb:BytsIn w A bs) (hl:bs.length≤20000000) (hc:bs.length≤c) (hh:HOk h) (hp:0≤place∧place≤4611686018427387904) :
  Calls Tryz.prog 12 #[.slice A bs.length c,.agg h.cells.toArray,.int .i64 place] w fun e w'=>e=.returned (.bool (ziW bs h.counts (h.countsLen*clus h.bits) place))∧Fr (fun _=>False) w w':=by
 refine enter (cx:=CX 58 [] w) [(0,.slice A bs.length c),(1,.agg h.cells.toArray),(2,.int .i64 place)] zaa Tryz.func12 rfl rfl rfl rfl (MemOk.nil w _) ?_
 have h1:=fun m=>BytsIn.byts (cx:=CX 58 [] w) (m:=m) hb (fun _ h=>h)
 obtain ⟨b1,b2⟩:=hh.bits
 obtain ⟨c1,c2⟩:=hh.counts
 obtain ⟨l1,l2⟩:=hh.countsLen
 generalize hR:ziW bs h.counts (h.countsLen*clus h.bits) place=R
 obtain ⟨N,e3,hNb⟩:∃ N:Nat,h.countsLen*2 ^ h.bits.toNat=((8*N:Nat):Int)∧N≤65536*8192:=by
  obtain ⟨bt,hbt⟩:∃ bt:Nat,h.bits=(bt:Int):=⟨h.bits.toNat,by omega⟩
  obtain ⟨cl,hcl⟩:∃ x:Nat,h.countsLen=(x:Int):=⟨h.countsLen.toNat,by omega⟩
  have hp9:(2:Nat) ^ 9 ∣ 2 ^ bt:=Nat.pow_dvd_pow 2 (by omega)
  have hp16:(2:Nat) ^ bt≤2 ^ 16:=Nat.pow_le_pow_right (by omega) (by omega)
  obtain ⟨q,hq⟩:=hp9
  rw [show (2:Nat) ^ 9=8*64 by decide,Nat.mul_assoc] at hq
  rw [show (2:Nat) ^ 16=65536 by decide] at hp16
  have e2:(2:Int) ^ bt=((8*(64*q):Nat):Int):=by rw [← hq];push_cast;rfl
  refine⟨cl*(64*q),?_,Nat.mul_le_mul (by omega) (by omega)⟩
  rw [hbt,hcl]
  show (cl:Int)*2 ^ bt=_
  rw [e2];push_cast;rw [Int.mul_left_comm]
 change ziW bs h.counts (h.countsLen*2 ^ h.bits.toNat) place=R at hR
 rw [e3] at hR
 unfold ziW at hR
 rw [show (((8*N:Nat):Int)/8).toNat=N by omega] at hR
 refine gGw ?_;(repeat ((first|refine .mk fun Ap capp=>?_|intro _);(conv=>whnf);refine gG0 ?_))
 refine And.intro ⟨by omega,by show h.bits≤64;omega⟩ ?_
 refine gGw ?_
 rw [e3,IntWalk.i64_in _ (by omega)]
 refine gGw ?_
 refine And.intro (fun hg=>zaB (by have:=of_decide_eq_false hg;omega)) ?_
 refine gGw ?_
 refine br (fun hg=>?_) (fun hg=>?_)
 ·refine gGw ?_
  refine fin1 rfl rfl (fun w' hm=>⟨?_,hm.fr⟩)
  rw [← hR]
  simp only [Bool.or_eq_true,decide_eq_true_eq] at hg
  by_cases h2:h.counts≤bs.length
  ·rw [decide_eq_false (show ¬ ((8*N:Nat):Int)≤bs.length-h.counts by omega),Bool.and_false,Bool.false_and]
  ·rw [decide_eq_false h2,Bool.false_and,Bool.false_and]
 simp only [Bool.or_eq_false_iff,decide_eq_false_iff_not] at hg
 obtain ⟨g1,g2⟩:=hg
 rw [decide_eq_true (show h.counts≤bs.length by omega),decide_eq_true (show ((8*N:Nat):Int)≤bs.length-h.counts by omega),Bool.true_and,Bool.true_and] at hR
 obtain ⟨cs,hcs⟩:∃ x:Nat,h.counts=(x:Int):=⟨h.counts.toNat,by omega⟩
 rw [hcs] at hR g1 g2 c1 c2 ⊢
 rw [show ((cs:Int)).toNat=cs from rfl] at hR
 have hpl:Pl A:=(h1 []).plain (by omega)
 refine gGw ?_
 rename_i hB
 refine lp zaa (γ:=Nat) (fun i=>i≤N∧∀ j,j<i→(getV bs (cs+8*j) 8:Int)≠place) (fun i=>[(8,.int .i64 (cs+8*i:Nat)),(7,.int .i64 (8*N:Nat)),(4,.pointer (some ⟨hB,0,none⟩)),(0,.slice A bs.length c),(2,.int .i64 place)]) (fun _=>[.blk hB (.cells h.cells.toArray 34)]) (fun i=>N-i) 0 ⟨Nat.zero_le _,fun j hj=>absurd hj (Nat.not_lt_zero _)⟩ ⟨by show some (Value.int .i64 h.counts)=_;rw [hcs];rfl,rfl,rfl,rfl,rfl,trivial⟩ SubM.sl ?_
 rintro i ⟨hi,hno⟩
 dsimp only
 refine gGw ?_
 refine br_d (fun hlt=>?_) (fun hge=>?_)
 ·refine gGw ?_
  refine lp zaa (γ:=Nat) (fun j=>j≤8) (fun j=>[(10,.int .i64 ((j:Int)-1)),(9,.int .u64 (getV bs (cs+8*i+j) (8-j):Nat)),(8,.int .i64 (cs+8*i:Nat)),(7,.int .i64 (8*N:Nat)),(4,.pointer (some ⟨hB,0,none⟩)),(0,.slice A bs.length c),(2,.int .i64 place)]) (fun _=>[.blk hB (.cells h.cells.toArray 34)]) (fun j=>j) 8 (Nat.le_refl _)
   ⟨rfl,by show _=some (Value.int .u64 ((getV bs (cs+8*i+8) 0:Nat):Int));unfold getV;rw [List.take_zero];rfl,rfl,rfl,rfl,rfl,rfl,trivial⟩ SubM.sl ?_
  rintro j hj
  dsimp only
  refine gGw ?_
  refine br_d (fun hge=>?_) (fun hlt2=>?_)
  ·obtain ⟨k,rfl⟩:∃ k,j=k+1:=⟨j-1,by omega⟩
   have ej:((k+1:Nat):Int)-1=(k:Int):=by omega
   have hv:=zhH bs (cs+8*i+(k+1)) (k:=8-(k+1)) (by omega)
   have hs:=zgr (bs:=bs) (j:=cs+8*i+k) (k:=8-(k+1)) (by omega)
   have hb8:=(bs.getD (cs+8*i+k) 0).toNat_lt
   rw [ej]
   refine gGw ?_
   refine And.intro ⟨by omega,by omega,hpl⟩ ?_
   conv=>whnf
   refine zai ((h1 _).ld zaa rfl rfl (j:=cs+8*i+k) (by omega)) ?_
   refine gGw ?_
   refine⟨k,by omega,by omega,⟨rfl,?_,rfl,rfl,rfl,rfl,rfl,trivial⟩,SubM.sl⟩
   refine congrArg (fun x=>some (Value.int .u64 x)) ?_
   rw [show 8-k=(8-(k+1))+1 by omega,hs]
   exact or8 hv hb8
  ·obtain rfl:j=0:=by omega
   rw [Nat.add_zero,Nat.sub_zero]
   refine gGw ?_
   refine br_d (fun hy=>?_) (fun hn=>?_)
   ·refine gGw ?_
    refine fin1 rfl rfl (fun w' hm=>⟨?_,hm.fr⟩)
    rw [← hR,List.any_eq_true.2 ⟨i,List.mem_range.2 (by omega),decide_eq_true (by omega)⟩]
   ·refine gGw ?_
    refine⟨i+1,⟨by omega,fun j hj=>?_⟩,by omega,⟨congrArg (fun x=>some (Value.int .i64 x)) (by push_cast;omega),rfl,rfl,rfl,rfl,trivial⟩,SubM.sl⟩
    by_cases e:j=i
    ·subst e;exact fun h=>hn (by omega)
    ·exact hno j (by omega)
 ·obtain rfl:i=N:=by omega
  refine gGw ?_
  refine fin1 rfl rfl (fun w' hm=>⟨?_,hm.fr⟩)
  refine congrArg (fun x=>Ending.returned (Value.bool x)) ?_
  rw [← hR,eq_comm,Bool.eq_false_iff]
  intro h
  obtain ⟨j,hj,h2⟩:=List.any_eq_true.1 h
  exact hno j (List.mem_range.1 hj) (of_decide_eq_true h2)
end
section
attribute [local irreducible] Br Rn RnU Cl RdG CpG Ld Rd Lp Dr Oth Cut fin Fits Eng.Enters Md NA
end
section
def fiZ:Fi:=⟨0,0,0,0⟩
def lowF (x:Fi):Bool:=decide (x.kind<6)
theorem zoB {xs:List Fi} {j:Nat} (h:j<xs.length) (hk:6≤(xs.getD j fiZ).kind):(xs.drop (j+1)).filter lowF=(xs.drop j).filter lowF:=by
 rw [List.drop_eq_getElem_cons h,List.filter_cons_of_neg]
 rw [List.getD_eq_getElem?_getD,List.getElem?_eq_getElem h] at hk
 unfold lowF
 simp only [decide_eq_true_eq]
 exact Int.not_lt.2 hk
theorem zhF {xs:List Fi} {j:Nat} (h:j<xs.length) (hk:¬ 6≤(xs.getD j fiZ).kind):(xs.drop j).filter lowF=xs.getD j fiZ::(xs.drop (j+1)).filter lowF:=by
 rw [List.getD_eq_getElem?_getD,List.getElem?_eq_getElem h] at hk ⊢
 rw [List.drop_eq_getElem_cons h,List.filter_cons_of_pos]
 ·rfl
 ·unfold lowF
  exact decide_eq_true (Int.not_le.1 hk)
theorem zrs {w:World} {A:Option Addr} {xs:List Fi} (hA:RowIn w A xs Fi.cells 4) {j:Nat} (h:j<xs.length):∃ a,A=some ⟨a,0,none⟩:=by
 obtain ⟨b,rfl,_⟩:=hA j _ (List.getElem?_eq_getElem h)
 exact⟨_,rfl⟩
theorem zw3 {j n:Nat} (h:decide ((j:Int)<(n:Int))=true):j<n:=by have:=of_decide_eq_true h;omega
theorem zod {w:World} {A:Option Addr} {xs:List Fi} (hA:RowIn w A xs Fi.cells 4) {j:Nat} (h:decide ((j:Int)<(xs.length:Int))=true):0≤(j:Int)∧(j:Int)<(xs.length:Int)∧Pl A:=by
 obtain ⟨a,rfl⟩:=zrs hA (zw3 h)
 exact⟨by omega,of_decide_eq_true h,Pl.mk _ _⟩
theorem zlU {w:World} {A:Option Addr} {xs:List Fi} (hA:RowIn w A xs Fi.cells 4) {j k:Nat} (h:decide ((j:Int)<(xs.length:Int))=true):Pl (pl A k):=by
 obtain ⟨a,rfl⟩:=zrs hA (zw3 h)
 exact Pl.mk _ _
theorem zrZ {cx:Cx} {m:Mem} {A:Option Addr} {j t:Nat} {i:TyI} {xs:List Fi} (hA:RowIn cx.w0 A xs Fi.cells 4) (hj:decide ((j:Int)<(xs.length:Int))=true) (hs:∀ a,¬ cx.S a) (ht:TabOk cx.P cx.tab) (hi:cx.tab.get t=some i) (hk:i.kind.flat=true) :
  Ld cx m t (.pointer (pl (pl A (mulC (Int.toNat (j:Int)) 4)) 0)) (.int .i64 (xs.getD j fiZ).kind):=by
 have hj:=zw3 hj
 obtain ⟨a,rfl,h⟩:=hA j _ (List.getElem?_eq_getElem hj)
 have h0:=h 0 _ rfl
 have e:pl (pl (some ⟨a,0,none⟩) (mulC (Int.toNat (j:Int)) 4)) 0=some ⟨a,j*4+0,none⟩:=by
  rw [zcp,Int.toNat_natCast]
  show some (Addr.mk a (0+j*4+0) none)=_
  rw [Nat.zero_add]
 rw [e,List.getD_eq_getElem?_getD,List.getElem?_eq_getElem hj]
 exact ldF ht h0 (hs _) hi hk
attribute [local irreducible] Br Rn RnU Cl RdG CpG Ld Rd Lp Dr Oth Cut fin Fits Eng.Enters Md NA
theorem zjb:Eng.Enters Tryz.prog 14:=zab fun _ _=>by kernel_rfl
theorem znk (xs ys:List Fi) (A B:Option Addr) (c d:Nat) (w:World) (hx:xs.length≤9223372036854775807) (hy:ys.length≤9223372036854775807) (hA:RowIn w A xs Fi.cells 4) (hB:RowIn w B ys Fi.cells 4) (he:ys.filter lowF=xs.filter lowF) :
  Calls Tryz.prog 14 #[.slice A xs.length c,.slice B ys.length d] w fun e w'=>e=.returned (.bool true)∧Fr (fun _=>False) w w':=by
 refine enter (cx:=CX 68 [] w) [(0,.slice A xs.length c),(1,.slice B ys.length d)] zaa Tryz.func14 rfl rfl rfl rfl (MemOk.nil w _) ?_
 refine gGw ?_
 refine lp zaa (γ:=Nat × Nat) (fun q=>q.1≤xs.length∧q.2≤ys.length∧(ys.drop q.2).filter lowF=(xs.drop q.1).filter lowF) (fun q=>[(5,.int .i64 (q.1:Int)),(6,.int .i64 (q.2:Int)),(0,.slice A xs.length c),(1,.slice B ys.length d)]) (fun _=>[]) (fun q=>xs.length-q.1) (0,0) ⟨Nat.zero_le _,Nat.zero_le _,he⟩ ⟨rfl,rfl,rfl,rfl,trivial⟩ (SubM.refl _ _) ?_
 rintro ⟨i,k⟩ ⟨hi,hk,hf⟩
 simp only at hi hk hf
 dsimp only
 refine gGw ?_
 refine lp zaa (γ:=Nat) (fun j=>i≤j∧j≤xs.length∧(ys.drop k).filter lowF=(xs.drop j).filter lowF) (fun j=>[(5,.int .i64 (j:Int)),(6,.int .i64 (k:Int)),(0,.slice A xs.length c),(1,.slice B ys.length d)]) (fun _=>[]) (fun j=>xs.length-j) i ⟨Nat.le_refl _,hi,hf⟩ ⟨rfl,rfl,rfl,rfl,trivial⟩ (SubM.refl _ _) ?_
 clear hf hi
 rintro j ⟨hij,hj,hf⟩
 dsimp only
 refine gGw ?_
 refine And.intro (fun hg=>zod hA hg) ?_
 refine gGw ?_
 refine And.intro (fun hg=>zlU hA hg) ?_
 refine gGw ?_
 refine⟨_,ldg (fun hg=>zrZ (j:=j) hA hg (fun _ h=>h) zaa rfl rfl),?_⟩
 refine gGw ?_
 refine br (fun h=>?_) (fun h=>?_)
 ·simp only [Bool.and_eq_true,decide_eq_true_eq] at h
  refine gGw ?_
  exact⟨j+1,⟨by omega,by omega,by rw [zoB (by omega) h.2];exact hf⟩,by omega,⟨congrArg (fun x=>some (Value.int .i64 x)) (by push_cast;rfl),rfl,rfl,rfl,trivial⟩,SubM.refl _ _⟩
 have hx1:j<xs.length→¬ 6≤(xs.getD j fiZ).kind:=fun h1 h2=>by rw [decide_eq_true (show (j:Int)<xs.length by omega),decide_eq_true h2] at h;cases h
 clear h
 refine gGw ?_
 refine lp zaa (γ:=Nat) (fun q=>k≤q∧q≤ys.length∧(ys.drop q).filter lowF=(xs.drop j).filter lowF) (fun q=>[(5,.int .i64 (j:Int)),(6,.int .i64 (q:Int)),(0,.slice A xs.length c),(1,.slice B ys.length d)]) (fun _=>[]) (fun q=>ys.length-q) k ⟨Nat.le_refl _,hk,hf⟩ ⟨rfl,rfl,rfl,rfl,trivial⟩ (SubM.refl _ _) ?_
 clear hf hk
 rintro q ⟨hkq,hq,hf⟩
 dsimp only
 refine gGw ?_
 refine And.intro (fun hg=>zod hB hg) ?_
 refine gGw ?_
 refine And.intro (fun hg=>zlU hB hg) ?_
 refine gGw ?_
 refine⟨_,ldg (fun hg=>zrZ (j:=q) hB hg (fun _ h=>h) zaa rfl rfl),?_⟩
 refine gGw ?_
 refine br (fun h=>?_) (fun h=>?_)
 ·simp only [Bool.and_eq_true,decide_eq_true_eq] at h
  refine gGw ?_
  exact⟨q+1,⟨by omega,by omega,by rw [zoB (by omega) h.2];exact hf⟩,by omega,⟨rfl,congrArg (fun x=>some (Value.int .i64 x)) (by push_cast;rfl),rfl,rfl,trivial⟩,SubM.refl _ _⟩
 have hy1:q<ys.length→¬ 6≤(ys.getD q fiZ).kind:=fun h1 h2=>by rw [decide_eq_true (show (q:Int)<ys.length by omega),decide_eq_true h2] at h;cases h
 clear h
 refine gGw ?_
 refine br (fun h=>?_) (fun h=>?_)
 ·have hz:j=xs.length∧q=ys.length:=by
   simp only [Bool.or_eq_true,decide_eq_true_eq] at h
   by_cases e1:j<xs.length
   ·have e2:q=ys.length:=by omega
    rw [zhF e1 (hx1 e1),e2,List.drop_of_length_le (Nat.le_refl _)] at hf
    cases hf
   ·refine⟨by omega,?_⟩
    by_cases e2:q<ys.length
    ·rw [zhF e2 (hy1 e2),List.drop_of_length_le (show xs.length≤j by omega)] at hf
     cases hf
    ·omega
  refine gGw ?_
  refine fin1 rfl rfl (fun w' hm=>⟨?_,hm.fr⟩)
  rw [decide_eq_true (show (j:Int)=xs.length by omega),decide_eq_true (show (q:Int)=ys.length by omega)]
  rfl
 simp only [Bool.or_eq_false_iff,decide_eq_false_iff_not] at h
 have hj':j<xs.length:=by omega
 have hq':q<ys.length:=by omega
 rw [zhF hj' (hx1 hj'),zhF hq' (hy1 hq')] at hf
 injection hf with e1 e2
 have hx:=List.getElem?_eq_getElem hj'
 have hy:=List.getElem?_eq_getElem hq'
 rw [List.getD_eq_getElem?_getD,List.getD_eq_getElem?_getD,hx,hy] at e1
 obtain ⟨a,rfl,hca⟩:=hA _ _ hx
 obtain ⟨b,rfl,hcb⟩:=hB _ _ hy
 change ys[q]=xs[j] at e1
 rw [e1] at hcb
 generalize xs[j]=x at hca hcb
 conv=>whnf
 refine zao zaa mixed (by kernel_rfl) rfl ?_;conv=>whnf
 refine gG0 ?_
 refine And.intro ⟨by omega,by omega,Pl.mk _ _⟩ ?_
 refine gGw ?_
 refine⟨.agg x.cells.toArray,Ld.g (zmb (k:=4) zaa (fun h=>h) rfl rfl rfl rfl hca),?_⟩
 refine gGw ?_
 refine And.intro ⟨by omega,by omega,Pl.mk _ _⟩ ?_
 refine gGw ?_
 refine⟨.agg x.cells.toArray,Ld.g (zmb (k:=4) zaa (fun h=>h) rfl rfl rfl rfl hcb),?_⟩
 refine gGw ?_
 refine⟨_,Rd.g (zcl fun w=>neFi _ _ x x w),?_⟩
 refine gGw ?_
 refine br_f (by simp) ?_
 refine gGw ?_
 exact⟨(j+1,q+1),⟨by show j+1≤_;omega,by show q+1≤_;omega,e2⟩,by show xs.length-(j+1)<xs.length-i;omega,⟨congrArg (fun x=>some (Value.int .i64 x)) (by push_cast;rfl),congrArg (fun x=>some (Value.int .i64 x)) (by push_cast;rfl),rfl,rfl,trivial⟩,SubM.refl _ _⟩
end
theorem zsa {bs:List UInt8} {h:Hd} (hh:zbz bs=some h):h.counts%clus h.bits=0:=by
 unfold zbz at hh
 split at hh
 ·cases hh
 split at hh
 ·rename_i hm
  injection hh with hh
  obtain ⟨_,hm,_⟩:=hm
  rw [hh] at hm
  unfold mayH at hm
  simp only [Bool.and_eq_true,decide_eq_true_eq] at hm
  exact (plB_iff.1 hm.1.1.1.2.1.1).2.2
 ·cases hh
theorem zsI (cl:Int):∀ ev:List Ev,cntE cl ev≤(zbv ev).length
 | []=>Nat.le_refl _
 | e::r=>by
  have ih:=zsI cl r
  have e1:cntE cl (e::r)=cntE cl [e]+cntE cl r:=zfl cl [e] r
  have e2:zbv (e::r)=zbv [e]++zbv r:=znr [e] r
  rw [e1,e2,List.length_append]
  have:cntE cl [e]≤(zbv [e]).length:=by
   cases e with
   | hold c k=>exact (List.countP_le_length (l:=[Ev.hold c k]))
   | _=>exact Nat.le_refl _
  omega
theorem zrS {K V:Type} [DecidableEq K] {l m:List (K × V)} (hn:(keys l).Nodup) (h:l.Perm m) (k:K):mget l k=mget m k:=by
 have hm:(keys m).Nodup:=(h.map Prod.fst).nodup_iff.1 hn
 by_cases hk:k∈keys l
 ·obtain ⟨q,hq,rfl⟩:=List.mem_map.1 hk
  rw [zhD hn hq,zhD hm (h.mem_iff.1 hq)]
 ·rw [zgo hk,zgo (fun h2=>hk ((h.map Prod.fst).mem_iff.2 h2))]
theorem zrT (k:Int):∀ l:List (Int × Hl),mget (l.map hnQ) k=(mget l k).map (·.n)
 | []=>rfl
 | q::r=>by
  rw [List.map_cons,mget,mget]
  show (if q.1=k then some q.2.n else _)=_
  split
  ·rfl
  ·exact zrT k r
theorem zr8 {p:WP} {l:List (Int × Int)} {c0:Int} (hp:p.Ok) (hlb:p.bs.length≤20000) (hn:(keys l).Nodup) (hl:l.Perm ((appL s0W (evW p)).holders.map hnQ)) (h1:(mget l c0).getD 0=1):cntE c0 (evW p)=1:=by
 rw [zrS hn hl,zrT] at h1
 have h2:=zrQ c0 (evW p) s0W
 have h3:nOf (appL s0W (evW p)) c0=1:=by
  unfold nOf
  revert h1
  cases mget (appL s0W (evW p)).holders c0 with
  | none=>exact fun h=>absurd h (by decide)
  | some x=>exact fun h=>h
 rw [h3,show nOf s0W c0=0 from rfl,Int.zero_add] at h2
 have h4:=zsI c0 (evW p)
 have h5:=zlB zda hp hlb
 have h6:=zh5 zda p
 have h7:(zlC zda p).holds.length=(zbv (evW p)).length:=congrArg List.length h6
 unfold RS.len at h5
 omega
theorem zre {bs:List UInt8} {a:Nat} {v:UInt8} {c:Int} {c0:Nat} (ha:(a:Int)/c=(c0:Int)):∀ i:Nat,¬ (i:Int)/c=(c0:Int)→(bs.set a v).getD i 0=bs.getD i 0:=by
 intro i hi
 rw [List.getD_eq_getElem?_getD,List.getElem?_set]
 split
 ·rename_i e
  subst e
  exact absurd ha hi
 ·rw [← List.getD_eq_getElem?_getD]
theorem zn9 {bs:List UInt8} {a:Nat} {v:UInt8} {c:Int} {c0:Nat} (hc:512≤c) (ha:(a:Int)/c=(c0:Int)) (h1:1≤c0):zbz (bs.set a v)=zbz bs :=
 zp3 (by rw [List.length_set]) (zwy (by rw [List.length_set]) fun j hj=>zre ha j (by
  rw [Int.ediv_eq_zero_of_lt (by omega) (by omega)];omega))
theorem zql {bs:List UInt8} {p p':WP} {r r':Rep} {a:Nat} {v:UInt8} {c0:Nat} (hp:p.Ok) (hp':p'.Ok) (hk:HOk p.h) (hb:p.bs=bs) (hb':p'.bs=bs.set a v) (hc:p.c=clus p.h.bits) (hc':p'.c=clus p'.h.bits) (hh:zbz bs=some p.h) (hh':zbz (bs.set a v)=some p'.h)
  (ha:(a:Int)/p.c=(c0:Int)) (h1:1≤c0) (h2:(c0:Int)<p.n) (hone:cntE c0 (evW p)=1) (hblk:ziW bs p.h.counts (p.h.countsLen*clus p.h.bits) (c0*p.c)=true)
  (h:zhn (evW p) p r) (h':zhn (evW p') p' r'):(r'.finds.filter lowF)=(r.finds.filter lowF)∧r'.held=r.held∧r'.clusters=r.clusters:=by
 have hcc:=hp.c0
 have hget:=zre (bs:=bs) (v:=v) ha
 have hhe:p'.h=p.h:=by
  have e:=zn9 (bs:=bs) (v:=v) hcc ha h1
  rw [e,hh] at hh'
  injection hh' with e
  exact e.symm
 have hce:p'.c=p.c:=by rw [hc',hc,hhe]
 have hne:p'.n=p.n:=by rw [hp'.n,hp.n,hce,hb',hb,List.length_set]
 have hal:zfZ p p' fun cl=>cl=(c0:Int):=⟨hhe,hce,hne,by rw [hb',hb,List.length_set],fun i hi=>by rw [hb',hb];exact hget i hi⟩
 unfold ziW at hblk
 simp only [Bool.and_eq_true,decide_eq_true_eq,List.any_eq_true,List.mem_range] at hblk
 obtain ⟨⟨g1,g2⟩,i,hi,hw⟩:=hblk
 rw [← hc] at g2 hi
 have hcp:=hk.counts
 have hcl:=hk.countsLen
 have hcm:=zsa hh
 rw [← hc] at hcm
 have hin:zau p p.h.counts (p.h.countsLen*p.c)=true:=by
  have h0:0≤p.h.countsLen*p.c:=Int.mul_nonneg (by omega) (by omega)
  have e1:(p.h.countsLen*p.c+p.c-1)/p.c=p.h.countsLen:=by
   have:p.h.countsLen*p.c+p.c-1=(p.c-1)+p.c*p.h.countsLen:=by rw [Int.mul_comm];omega
   rw [this,Int.add_mul_ediv_left _ _ (by omega),Int.ediv_eq_zero_of_lt (by omega) (by omega),Int.zero_add]
  refine withinF_iff.2 ⟨by omega,by rw [Int.tmod_eq_emod_of_nonneg (by omega)];exact hcm,h0,?_⟩
  rw [Int.tdiv_eq_ediv_of_nonneg (by omega),Int.tdiv_eq_ediv_of_nonneg (by omega),e1,hp.n]
  refine Int.le_ediv_of_mul_le (by omega) ?_
  have e2:=Int.mul_ediv_add_emod p.h.counts p.c
  rw [hcm] at e2
  rw [Int.add_mul,Int.mul_comm (p.h.counts/p.c),hb]
  omega
 have hev:evW p'=evW p:=zqm hp hc ⟨by omega,h2⟩ hone hin ⟨i,hi,by
  unfold zaz
  rw [hb,show (p.h.counts+8*(i:Int)).toNat=p.h.counts.toNat+8*i by omega]
  exact hw⟩ hal
 rw [hev] at h'
 exact zwH hp hp' hk.order hhe hce hne (zn1 hp) h h'
section
theorem zxH {cx:Cx} {m:Mem} {s:Sem Value} {K:Value→Mem→Prop} (h:Rn cx m s fun v m'=>(∃ w,MemOk cx.w0 cx.S m' w)→K v m'):Rn cx m s K:=by
 intro w hm
 obtain ⟨v,w',m',h1,h2,h3⟩:=h w hm
 exact⟨v,w',m',h1,h2,h3 ⟨w',h2⟩⟩
attribute [local irreducible] Br Rn RnU Cl RdG CpG Ld Rd Lp Dr Oth Cut fin Fits Eng.Enters Md NA
set_option maxHeartbeats 4000000 in
theorem zno (U:List UInt8→Int→Bool) (hU:zc5 U) (bs:List UInt8) (at_:Int) (v:UInt8) (A:Option Addr) (c:Nat) (w:World) (hb:BytsIn w A bs) (hl:bs.length≤140737488355328) (hc:bs.length≤c) :
  Ctr Tryz.prog 4 [.slice A bs.length c,.int .i64 at_,.int .u8 (v.toNat:Int)] [] (fun e m'=>e=.returned (.bool true)∧m'=[]) w:=by
 refine enter (cx:=⟨Tryz.prog,141,w,Foot [],tab,[],[10,6,12,14],[],[]⟩) [(0,.slice A bs.length c),(1,.int .i64 at_),(2,.int .u8 (v.toNat:Int))] zaa Tryz.func4 rfl rfl rfl rfl (MemOk.nil w _) ?_
 have hbw:=fun m=>BytsIn.byts (cx:=CXS 141 [] w (Foot [])) (m:=m) hb zam
 refine gGw ?_
 by_cases hbig:20000<bs.length∨at_<0∨(bs.length:Int)≤at_
 ·refine br_t (by simp only [Bool.or_eq_true,decide_eq_true_eq];omega) ?_
  refine gGw ?_
  refine⟨zbU,zae _ (fun w' _=>zff w') ?_⟩
  refine gGw ?_
  exact fin1 rfl rfl (fun w' hm=>⟨[],⟨rfl,rfl⟩,hm.sublist (List.nil_sublist _)⟩)
 refine br_f (by simp only [Bool.or_eq_false_iff,decide_eq_false_iff_not];omega) ?_
 refine gGw ?_
 refine⟨zfv,zae _ (fun w' hm'=>zlS bs A c w' ((hbw _).in_ hm') hc (by omega)) ?_⟩
 rw [zoI]
 cases hh:zbz bs with
 | none =>
  refine gGw ?_;(repeat ((first|refine .mk fun Ap capp=>?_|intro _);(conv=>whnf);refine gG0 ?_))
  refine br_t rfl ?_
  refine gGw ?_
  refine⟨zbU,zae _ (fun w' _=>zff w') ?_⟩
  refine gGw ?_
  exact fin1 rfl rfl (fun w' hm=>⟨[],⟨rfl,rfl⟩,hm.sublist (List.nil_sublist _)⟩)
 | some h =>
 have hk:=zhG hh
 have hp0:=zrF (A:=A) (c:=c) 0 0 0 (show bs.length≤20000000 by omega) hk
 refine gGw ?_;(repeat ((first|refine .mk fun Ap capp=>?_|intro _);(conv=>whnf);refine gG0 ?_))
 refine br_f rfl ?_
 refine gGw ?_
 refine⟨zm5,zac (m1:=[]) .nil (fun w' hm'=>(zuu U hU bs A c w' ((hbw _).in_ hm') (by omega) hc).ex) ?_⟩
 rintro e m' ⟨⟨hh2,_⟩|⟨h2,lA,lc,hh2,rfl,rfl⟩,w9,hw9⟩
 ·rw [hh] at hh2;cases hh2
 obtain rfl:h=h2:=by rw [hh] at hh2;injection hh2
 have hHl:(howL U (pOf A c bs h 0 0 0)).length=(pOf A c bs h 0 0 0).n.toNat:=by
  unfold howL
  rw [List.length_map,List.length_range]
 generalize howL U (pOf A c bs h 0 0 0)=HW at hHl hw9 ⊢
 refine gGw ?_
 refine And.intro ⟨by have:=hk.bits;omega,by have:=hk.bits;show h.bits≤64;omega⟩ ?_
 refine gGw ?_
 have hC0:512≤clus h.bits:=hp0.c0
 have hC1:clus h.bits≤65536:=hp0.c1
 obtain ⟨a,rfl⟩:∃ a:Nat,at_=(a:Int):=⟨at_.toNat,by omega⟩
 obtain ⟨cq,hcq⟩:∃ q:Nat,(a:Int)/clus h.bits=(q:Int):=⟨((a:Int)/clus h.bits).toNat,by have:=Int.ediv_nonneg (show 0≤(a:Int) by omega) (show 0≤clus h.bits by omega);omega⟩
 rw [show (2:Int) ^ h.bits.toNat=clus h.bits from rfl,hcq]
 by_cases hno:cq<1∨HW.length≤cq
 ·refine zao zaa mixed (by kernel_rfl) rfl ?_;conv=>whnf
  refine gG0 ?_
  have hg0:∀ {p:Prop},(decide ((cq:Int)<1)||decide ((HW.length:Int)≤cq))=false→p:=fun h=>by simp only [Bool.or_eq_false_iff,decide_eq_false_iff_not] at h;omega
  have hg1:∀ {p:Prop} {b:Bool},(decide ((cq:Int)<1)||decide ((HW.length:Int)≤cq)||b)=false→p:=fun h=>hg0 (Bool.or_eq_false_iff.1 h).1
  refine And.intro (fun hg=>hg0 hg) ?_
  refine gGw ?_
  refine⟨.int .i64 0,ldg (fun hg=>hg0 hg),?_⟩
  refine gGw ?_
  refine And.intro (fun hg=>hg1 hg) ?_
  refine gGw ?_
  refine⟨.bool true,cpg zgp (fun hg=>hg1 hg),?_⟩
  refine gGw ?_
  have hT:(decide ((cq:Int)<1)||decide ((HW.length:Int)≤cq))=true:=by simp only [Bool.or_eq_true,decide_eq_true_eq];omega
  refine br_t (by rw [hT];rfl) ?_
  refine gGw ?_
  refine⟨zbU,zae _ (fun w' _=>zff w') ?_⟩
  refine gGw ?_
  exact fin1 rfl rfl (fun w' hm=>⟨[],⟨rfl,rfl⟩,hm.sublist (List.nil_sublist _)⟩)
 obtain ⟨lB,rfl,_⟩:=zaQ (hw9 (IR lA lc HW.length HW) (List.mem_cons_self ..)) (zbg (xs:=HW) (j:=cq) (by omega))
 refine zao zaa mixed (by kernel_rfl) rfl ?_;conv=>whnf
 refine gG0 ?_
 refine And.intro (fun hg=>⟨by omega,by omega,Pl.mk _ _⟩) ?_
 refine gGw ?_
 refine⟨.int .i64 (HW.getD cq 0),ldg (fun hg=>ldR (j:=cq) zaa (by repeat constructor) rfl rfl (zbg (by omega))),?_⟩
 refine gGw ?_
 refine And.intro (fun _=>⟨by have:=hk.bits;omega,by have:=hk.bits;show h.bits≤64;omega⟩) ?_
 refine gGw ?_
 have hcb:(cq:Int)*clus h.bits≤a:=by
  rw [← hcq,Int.mul_comm]
  have e2:=Int.mul_ediv_add_emod (a:Int) (clus h.bits)
  have e3:=Int.emod_nonneg (a:Int) (show clus h.bits≠0 by omega)
  omega
 have hc0:0≤(cq:Int)*clus h.bits:=Int.mul_nonneg (by omega) (by omega)
 rw [show (2:Int) ^ h.bits.toNat=clus h.bits from rfl,IntWalk.i64_in _ (by omega)]
 refine⟨_,cpg zgp (fun _ w' hm'=>zpY bs h A c (cq*clus h.bits) w' ((hbw _).in_ hm') (by omega) hc hk ⟨hc0,by omega⟩),?_⟩
 refine gGw ?_
 by_cases hyes:¬ (HW.getD cq 0=1∧ziW bs h.counts (h.countsLen*clus h.bits) (cq*clus h.bits)=true)
 ·refine br_t (by
   by_cases h1:HW.getD cq 0=1
   ·rw [Bool.eq_false_iff.2 fun h2=>hyes ⟨h1,h2⟩,Bool.not_false,Bool.or_true]
   ·rw [decide_eq_false h1,Bool.not_false,Bool.or_true,Bool.true_or]) ?_
  refine gGw ?_
  refine⟨zbU,zae _ (fun w' _=>zff w') ?_⟩
  refine gGw ?_
  exact fin1 rfl rfl (fun w' hm=>⟨[],⟨rfl,rfl⟩,hm.sublist (List.nil_sublist _)⟩)
 obtain ⟨hw1,hblk⟩:=Decidable.not_not.1 hyes
 refine br_f (by rw [hblk,decide_eq_true hw1,decide_eq_false (show ¬ (cq:Int)<1 by omega),decide_eq_false (show ¬ (HW.length:Int)≤cq by omega)];rfl) ?_
 have h1c:1≤cq:=by omega
 have h2c:cq<HW.length:=by omega
 clear hno hyes
 refine gGw ?_
 refine⟨ziU,zac (m1:=[]) .nil (fun w' hm'=>zmw bs A c w' ((hbw _).in_ hm') (by omega) hc) ?_⟩
 rintro e m' (⟨hh2,_⟩|⟨p,l,es,ck,mB,q1,q2,q3,q4,q5,hM,hperm,rfl,rfl⟩)
 ·rw [hh] at hh2;cases hh2
 obtain rfl:h=p.h:=by rw [hh] at q1;injection q1
 refine gGw ?_
 refine⟨zcB,zae _ (fun w' _=>zfg 0 w') ?_⟩
 refine gGw ?_
 refine br_f rfl ?_
 refine gGw ?_
 refine zaC zcZ zhb 0 zqG (by repeat constructor) hM cq ?_
 refine gGw ?_
 by_cases hone:¬ (mget l cq).getD 0=1
 ·refine br_t (by rw [decide_eq_false hone];rfl) ?_
  refine gGw ?_
  refine⟨zcB,zae _ (fun w' _=>zfg 0 w') ?_⟩
  refine gGw ?_
  refine⟨_,cpg zbU (fun _ w' _=>zff w'),?_⟩
  refine gGw ?_
  exact fin1 rfl rfl (fun w' hm=>⟨[],⟨rfl,rfl⟩,hm.sublist (List.nil_sublist _)⟩)
 have hone:=Decidable.not_not.1 hone
 refine br_f (by rw [decide_eq_true hone];rfl) ?_
 have hcnt:=zr8 (c0:=cq) q4 (by rw [q2];omega) hM.keys hperm hone
 conv=>whnf
 (iterate 1 ((first|refine stp (by (repeat constructor);first|done|fail) ?_|refine stn (by (repeat constructor);first|done|fail) ?_|refine sto (by (repeat constructor);first|done|fail) (by first|omega|(simp only;omega)|decide) ?_|(refine ziJ (And.intro (fun hg=>?_) ?_);focus (simp only [Bool.and_eq_true,Bool.or_eq_true,Bool.not_eq_true',decide_eq_true_eq,decide_eq_false_iff_not] at hg;first|omega|exact zaB (by omega)|exact zbr (by omega)|assumption))|refine .mk fun Ap capp=>?_|refine⟨?_,trivial⟩|intro _);conv=>whnf))
 rename_i hB _ _ eB
 refine zfQ (m1:=[BR8 (some ⟨eB,0,none⟩) 0 0 [],.blk mB (.map es ck),IR (some ⟨lB,0,none⟩) lc HW.length HW,.blk hB (.cells p.h.cells.toArray 34)]) (zka (zey (m1:=[.blk eB (.cells ([]:List Value).toArray 5),.blk mB (.map es ck),IR (some ⟨lB,0,none⟩) lc HW.length HW,.blk hB (.cells p.h.cells.toArray 34)]) (by kernel_rfl) (SubM.refl _ _)) (zqX (n:=0) (s:=1) (by repeat constructor) rfl rfl (by decide))) ?_
 refine zxH (zeh (k:=.u8) (ys:=zag bs) (zaf bs) zaa rfl rfl rfl rfl rfl rfl (by repeat constructor) (fun w' hm'=>(hbw []).in_ (hm'.sublist (List.nil_sublist _))) (by omega) (fun mA mc=>?_))
 rw [Nat.zero_add]
 rintro ⟨w8,hw8⟩
 have h9:=hw8.ok (BR8 mA mc bs.length bs) (List.mem_cons_self ..)
 obtain ⟨b8,rfl,_⟩:=zaQ h9 (zd3 bs 0 (by omega))
 have hcapm:=zeJ h9
 clear h9 hw8
 refine gGw ?_
 refine And.intro ⟨by omega,by omega,Pl.mk _ _⟩ ?_
 refine gGw ?_
 refine zaw (off:=a) (xs':=(zag (bs.set a v)).map (.int .u8)) zaa rfl (by repeat constructor) rfl rfl (by show a+1≤bs.length*1;omega) Nat.one_pos (set8 rfl) ?_
 have hml:(bs.set a v).length=bs.length:=List.length_set ..
 refine gGw ?_
 refine⟨zc4,zac (m1:=[]) .nil (fun w' hm'=>(zjS bs A c w' ((hbw _).in_ hm') (by omega) hc).ex) ?_⟩
 rintro e m' ⟨⟨hh2,_⟩|⟨p1,r1,fA,fc,x1,x2,x3,x4,x5,x6,rfl,rfl⟩,w1,hw1⟩
 ·rw [hh] at hh2;cases hh2
 refine gGw ?_;(repeat ((first|refine .mk fun Ap capp=>?_|intro _);(conv=>whnf);refine gG0 ?_))
 refine⟨zc4,zac (m1:=[]) .nil (fun w' hm'=>(zld bs.length (bs.set a v) _ mc w' hml (zay (hm'.ok (BR8 (some ⟨b8,0,none⟩) mc bs.length (bs.set a v)) (by simp))) (by omega) hcapm).ex) ?_⟩
 rintro e m' ⟨⟨hn,_⟩|⟨p2,r2,fA2,fc2,z1,z2,z3,z4,z5,z6,rfl,rfl⟩,wx,hwx⟩
 ·rw [zn9 hC0 hcq h1c,hh] at hn;cases hn
 have hfl:r1.finds.length≤9223372036854775807:=zrt (hw1 (FR fA fc r1.finds) (List.mem_cons_self ..))
 have hfl2:r2.finds.length≤9223372036854775807:=zrt (hwx (FR fA2 fc2 r2.finds) (List.mem_cons_self ..))
 have he1:p1.h=p.h:=by rw [hh] at x1;injection x1 with x1;exact x1.symm
 have hc1:p1.c=clus p.h.bits:=by rw [x3,he1]
 have hev:evW p=evW p1:=zt2 (by rw [q2,x2]) he1.symm (by rw [q3,hc1]) (by rw [q4.n,x4.n,q2,x2,q3,hc1])
 rw [hev] at hcnt
 rw [← he1] at hblk
 have hlo:=zql (c0:=cq) x4 z4 x5 x2 z2 x3 z3 x1 z1 (by rw [hc1];exact hcq) h1c (by
  have e:(pOf A c bs p.h 0 0 0).n=p1.n:=by rw [x4.n,hc1,x2]
  rw [← e];omega) hcnt (by rw [x3];exact hblk) x6 z6
 clear hwx hw1 hw9 hblk hperm
 refine gGw ?_;(repeat ((first|refine .mk fun Ap capp=>?_|intro _);(conv=>whnf);refine gG0 ?_))
 refine⟨zcB,zae _ (fun w' _=>zfg 0 w') ?_⟩
 refine gGw ?_
 refine⟨_,cpg zcB (fun _ w' _=>zfg 0 w'),?_⟩
 refine gGw ?_
 refine⟨.bool true,cpg zjb (fun _ w' hm'=>znk r1.finds r2.finds fA fA2 fc fc2 w' hfl hfl2 (RowIn.of_row (fun _=>rfl) (by decide) (hm'.ok (FR fA fc r1.finds) (by simp))) (RowIn.of_row (fun _=>rfl) (by decide) (hm'.ok (FR fA2 fc2 r2.finds) (by simp))) hlo.1),?_⟩
 refine gGw ?_
 refine⟨_,cpg zbU (fun _ w' _=>zff w'),?_⟩
 refine gGw ?_
 exact fin1 rfl rfl (fun w' hm=>⟨[],⟨by rw [hlo.2.1,hlo.2.2];simp,rfl⟩,hm.sublist (List.nil_sublist _)⟩)
end
def BitsL (L:List UInt8):Prop:=∀ b∈L,b.toNat≤1
def numU:List UInt8→Nat
 | []=>0
 | b::r=>b.toNat+2*numU r
theorem znc:∀ {L:List UInt8},BitsL L→numU L<2 ^ L.length
 | [],_=>by decide
 | b::r,h=>by
  have h1:=znc (L:=r) fun x hx=>h x (List.mem_cons_of_mem _ hx)
  have h2:=h b (List.mem_cons_self ..)
  rw [numU,List.length_cons,Nat.pow_succ]
  omega
theorem BitsL.drop {L:List UInt8} (h:BitsL L) (n:Nat):BitsL (L.drop n):=fun b hb=>h b (List.mem_of_mem_drop hb)
theorem BitsL.take {L:List UInt8} (h:BitsL L) (n:Nat):BitsL (L.take n):=fun b hb=>h b (List.mem_of_mem_take hb)
def zfq:Nat→Nat→List UInt8
 | _,0=>[]
 | x,n+1=>UInt8.ofNat (x%2)::zfq (x/2) n
theorem ziX:∀ (n x:Nat),(zfq x n).length=n
 | 0,_=>rfl
 | n+1,x=>by rw [zfq,List.length_cons,ziX n]
theorem zo1:∀ (n x:Nat),BitsL (zfq x n)
 | 0,_=>fun b hb=>by cases hb
 | n+1,x=>fun b hb=>by
  rw [zfq] at hb
  rcases List.mem_cons.1 hb with rfl|hb
  ·rw [UInt8.toNat_ofNat'];omega
  ·exact zo1 n _ b hb
def zdl (bs:List UInt8):List UInt8:=bs.flatMap fun b=>zfq b.toNat 8
theorem zqw (bs:List UInt8):(zdl bs).length=8*bs.length:=by
 induction bs with
 | nil=>rfl
 | cons b r ih =>
  show (zfq b.toNat 8++zdl r).length=_
  rw [List.length_append,ziX,ih,List.length_cons];omega
theorem zsQ (bs:List UInt8):BitsL (zdl bs):=fun b hb=>by
 obtain ⟨x,_,hx⟩:=List.mem_flatMap.1 hb
 exact zo1 _ _ b hx
def zdD:Nat→List UInt8→List UInt8
 | 0,_=>[]
 | f+1,L=>if L=[] then [] else UInt8.ofNat (numU (L.take 8)%256)::zdD f (L.drop 8)
def zgG (L:List UInt8) (at_ n:Nat):Except Int (Nat × Nat):=if at_+n≤L.length then .ok (numU ((L.drop at_).take n),at_+n) else .error 120
/-! ## Codes -/
def cdI (l:List Int) (n:Int) (st:Nat × List Int):Nat→Nat × List Int
 | 0=>st
 | i+1=>if l.getD i 0=n then ((cdI l n st i).1+1,(cdI l n st i).2.set i ((cdI l n st i).1:Nat)) else cdI l n st i
def cdN (l:List Int):Nat→Nat × List Int
 | 0=>(0,List.replicate l.length 0)
 | n+1=>cdI l ((n+1:Nat):Int) (2*(cdN l n).1,(cdN l n).2) l.length
theorem zlc (l:List Int) (n:Int) (st:Nat × List Int):∀ i,(cdI l n st i).2.length=st.2.length
 | 0=>rfl
 | i+1=>by
  rw [cdI]
  split
  ·simp only;rw [List.length_set];exact zlc l n st i
  ·exact zlc l n st i
theorem znK (l:List Int):∀ n,(cdN l n).2.length=l.length
 | 0=>by rw [cdN,List.length_replicate]
 | n+1=>by rw [cdN,zlc];exact znK l n
theorem zsK (l:List Int) (n:Int) (st:Nat × List Int) (M:Nat) (h0:∀ x∈st.2,0≤x∧x≤M) (hM:st.1+l.length≤M):∀ i,i≤l.length→(cdI l n st i).1≤st.1+i∧∀ x∈(cdI l n st i).2,0≤x∧x≤M
 | 0,_=>⟨Nat.le_refl _,h0⟩
 | i+1,hi=>by
  obtain ⟨h1,h2⟩:=zsK l n st M h0 hM i (by omega)
  rw [cdI]
  split
  ·refine⟨by simp only;omega,fun x hx=>?_⟩
   simp only at hx
   rcases List.mem_or_eq_of_mem_set hx with hx|rfl
   ·exact h2 x hx
   ·omega
  ·exact⟨by omega,h2⟩
theorem zvR (l:List Int):∀ n,(cdN l n).1+l.length≤l.length*2 ^ n∧∀ x∈(cdN l n).2,0≤x∧x≤((l.length*2 ^ n:Nat):Int)
 | 0=>by
  refine⟨by show 0+l.length≤l.length*2 ^ 0;omega,fun x hx=>?_⟩
  rw [cdN] at hx
  rw [(List.mem_replicate.1 hx).2]
  omega
 | n+1=>by
  obtain ⟨h1,h2⟩:=zvR l n
  have e:l.length*2 ^ (n+1)=2*(l.length*2 ^ n):=by rw [Nat.pow_succ];rw [← Nat.mul_assoc,Nat.mul_comm _ 2]
  have h3:=zsK l ((n+1:Nat):Int) (2*(cdN l n).1,(cdN l n).2) (l.length*2 ^ (n+1)) (fun x hx=>by have:=h2 x hx;rw [e];omega) (by simp only;rw [e];omega) l.length (Nat.le_refl _)
  rw [cdN]
  refine⟨?_,h3.2⟩
  have:=h3.1
  simp only at this
  rw [e]
  omega
def ze1 (l:List Int):List Int:=(cdN l 15).2
def rIn (l cs:List Int) (n:Int) (x:Nat):Nat→Nat→Option Nat
 | 0,_=>none
 | r+1,i=>if l.getD i 0=n∧cs.getD i 0=(x:Int) then some i else rIn l cs n x r (i+1)
def rTk (l cs:List Int) (bits:List UInt8):Nat→Nat→Nat→Option (Nat × Nat)
 | 0,_,_=>none
 | r+1,n,x=>match rIn l cs (n:Int) (2*x+(bits.getD (n-1) 0).toNat) l.length 0 with
  | some i=>some (i,n)
  | none=>rTk l cs bits r (n+1) (2*x+(bits.getD (n-1) 0).toNat)
def zhq (l:List Int) (L:List UInt8) (at_:Nat):Except Int (Int × Nat):=match rTk l (ze1 l) ((L.drop at_).take 15) ((L.drop at_).take 15).length 1 0 with
 | some (i,n)=>.ok ((i:Nat),at_+n)
 | none=>.error 1
theorem zvF {l cs:List Int} {n:Int} {x:Nat}:∀ (r i k:Nat),rIn l cs n x r i=some k→i≤k∧k<i+r
 | 0,_,_,h=>by cases h
 | r+1,i,k,h=>by
  rw [rIn] at h
  split at h
  ·injection h with h;omega
  ·have:=zvF r (i+1) k h
   omega
theorem zrC {l cs:List Int} {bits:List UInt8}:∀ (r n x i k:Nat),rTk l cs bits r n x=some (i,k)→i<l.length∧n≤k∧k<n+r
 | 0,_,_,_,_,h=>by cases h
 | r+1,n,x,i,k,h=>by
  rw [rTk] at h
  split at h
  ·rename_i i' hi
   injection h with h
   injection h with h1 h2
   subst h1 h2
   have:=zvF _ _ _ hi
   omega
  ·have:=zrC r (n+1) _ i k h
   omega
theorem zkp {l:List Int} {L:List UInt8} {at_ a:Nat} {x:Int} (ha:at_≤L.length) (h:zhq l L at_=.ok (x,a)):at_<a∧a≤L.length∧0≤x∧x<l.length:=by
 unfold zhq at h
 split at h
 ·rename_i i n hk
  injection h with h
  injection h with h1 h2
  have:=zrC _ _ _ _ _ hk
  rw [List.length_take,List.length_drop] at this
  omega
 ·cases h
def zfx (l:List Int) (none_:Bool):Bool:=decide (za8 l=32768)||(!(l.any fun x=>decide (1<x))&&(decide (l.countP (fun x=>decide (x=1))=1)||(decide (l.countP (fun x=>decide (x=1))=0)&&none_)))
/-! ## A stream's work -/
def zkb (L:List UInt8) (most:Int) (at_:Nat) (o:List UInt8):Except Int (Nat × List UInt8) :=
 match zgG L (zb5 at_) 16 with
 | .error e=>.error e
 | .ok (n,a1)=>match zgG L a1 16 with
  | .error e=>.error e
  | .ok (m,a2) =>
   if n+m=65535 then
    if most-o.length<n then .error 141
    else if n≤(L.length-a2)/8 then .ok (a2+8*n,o++zdD (8*n) ((L.drop a2).take (8*n))) else .error 120
   else .error 150
def cpyX (far:Nat) (o:List UInt8):Nat→List UInt8
 | 0=>o
 | i+1=>cpyX far o i++[(cpyX far o i).getD ((cpyX far o i).length-far) 0]
theorem zk6 (far:Nat) (o:List UInt8):∀ i,(cpyX far o i).length=o.length+i
 | 0=>rfl
 | i+1=>by rw [cpyX,List.length_append,zk6 far o i];simp;omega
def zjF (L:List UInt8) (D:List Int) (most x:Int) (at_:Nat) (o:List UInt8):Except Int (Nat × List UInt8) :=
 match zgG L at_ ((lWid 28).getD (x-257).toNat 0).toNat with
 | .error e=>.error e
 | .ok (more,a1) =>
  if x=284∧more=31 then .error 152
  else match zhq D L a1 with
   | .error e=>.error e
   | .ok (y,a2) =>
    if 29<y then .error 152
    else match zgG L a2 ((dWid 30).getD y.toNat 0).toNat with
     | .error e=>.error e
     | .ok (m2,a3) =>
      if (o.length:Int)<dFir.getD y.toNat 0+m2 then .error 140
      else if most-o.length<lFir.getD (x-257).toNat 0+more then .error 141
      else .ok (a3,cpyX (dFir.getD y.toNat 0+m2).toNat o (lFir.getD (x-257).toNat 0+more).toNat)
def zdI (L:List UInt8) (C D:List Int) (most:Int):Nat→Nat→List UInt8→Except Int (Nat × List UInt8)
 | 0,_,_=>.error 120
 | f+1,at_,o=>match zhq C L at_ with
  | .error e=>.error e
  | .ok (x,a1) =>
   if x=256 then .ok (a1,o)
   else if x<256 then
    if most≤o.length then .error 141 else zdI L C D most f a1 (o++[UInt8.ofNat x.toNat])
   else if 285<x then .error 152
   else match zjF L D most x a1 o with
    | .error e=>.error e
    | .ok (a2,o2)=>zdI L C D most f a2 o2
def rowX (L:List UInt8) (C:List Int) (n:Nat):Nat→Nat→List Int→DRes
 | 0,_,_=>.error 120
 | f+1,at_,r =>
  if n≤r.length then .ok (at_,r)
  else match zhq C L at_ with
   | .error e=>.error e
   | .ok (x,a1) =>
    if x<16 then rowX L C n f a1 (r++[x])
    else match zgG L a1 (if x=16 then 2 else if x=17 then 3 else 7) with
     | .error e=>.error e
     | .ok (m,a2) =>
      if x=16∧r.length=0 then .error 151
      else if n-r.length<(if x=18 then m+11 else m+3) then .error 151
      else rowX L C n f a2 (r++List.replicate (if x=18 then m+11 else m+3) (if x=16 then r.getD (r.length-1) 0 else 0))
def zpW (L:List UInt8):Nat→Nat→Nat→List Int→DRes
 | 0,_,at_,l=>.ok (at_,l)
 | r+1,i,at_,l=>match zgG L at_ 3 with
  | .error e=>.error e
  | .ok (m,a)=>zpW L r (i+1) a (l.set (ordL.getD i 0).toNat m)
def zfW (L:List UInt8):Nat:=L.length+1
def zvL (L:List UInt8) (most:Int) (at_:Nat) (o:List UInt8):Except Int (Nat × List UInt8):=zdI L fixL fixD most (zfW L) at_ o
def zvb (L:List UInt8) (at_:Nat):Except Int (Nat × List Int × List Int) :=
 match zgG L at_ 5 with
 | .error e=>.error e
 | .ok (a,a1)=>match zgG L a1 5 with
  | .error e=>.error e
  | .ok (b,a2)=>match zgG L a2 4 with
   | .error e=>.error e
   | .ok (c,a3) =>
    if 286<a+257∨30<b+1 then .error 151
    else match zpW L (c+4) 0 a3 (List.replicate 19 0) with
     | .error e=>.error e
     | .ok (a4,l) =>
      if zfx l false then
       match rowX L l (a+b+258) (zfW L) a4 [] with
       | .error e=>.error e
       | .ok (a5,r) =>
        if r.getD 256 0=0 then .error 151
        else if zfx (r.take (a+257)) false&&zfx (r.drop (a+257)) true then .ok (a5,r.take (a+257),r.drop (a+257)) else .error 151
      else .error 151
def zoW (L:List UInt8) (most:Int) (at_:Nat) (o:List UInt8):Except Int (Nat × List UInt8):=match zvb L at_ with
 | .error e=>.error e
 | .ok (a,l,d)=>zdI L l d most (zfW L) a o
def zwX (L:List UInt8) (most:Int) (kind at_:Nat) (o:List UInt8):Except Int (Nat × List UInt8) :=
 if kind=0 then zkb L most at_ o else if kind=1 then zvL L most at_ o else if kind=2 then zoW L most at_ o else .error 150
def zoZ (L:List UInt8) (most:Int) (at_:Nat) (o:List UInt8):Except Int (Bool × Nat × List UInt8) :=
 match zgG L at_ 1 with
 | .error e=>.error e
 | .ok (last,a1)=>match zgG L a1 2 with
  | .error e=>.error e
  | .ok (kind,a2)=>match zwX L most kind a2 o with
   | .error e=>.error e
   | .ok (a3,o2)=>.ok (decide (last=1),a3,o2)
def zhS (L:List UInt8) (most:Int):Nat→Nat→List UInt8→Except Int (Nat × List UInt8)
 | 0,_,_=>.error 120
 | f+1,at_,o=>match zoZ L most at_ o with
  | .error e=>.error e
  | .ok (last,a,o2)=>if last then .ok (a,o2) else zhS L most f a o2
def zhu (bs:List UInt8) (most:Int):Bool:=match zhS (zdl bs) most (zfW (zdl bs)) 0 [] with
 | .error _=>true
 | .ok (_,o)=>!decide ((o.length:Int)=most)
section
theorem zqh {bs:List UInt8} {a:Nat} (h:a<bs.length):bs.drop a=bs.getD a 0::bs.drop (a+1):=by
 rw [List.drop_eq_getElem_cons h,List.getD_eq_getElem?_getD,List.getElem?_eq_getElem h];rfl
theorem zoO {L:List UInt8} (h:BitsL L) (j:Nat):(L.getD j 0).toNat≤1:=by
 by_cases hj:j<L.length
 ·rw [List.getD_eq_getElem?_getD,List.getElem?_eq_getElem hj]
  exact h _ (List.getElem_mem hj)
 ·rw [List.getD_eq_getElem?_getD,List.getElem?_eq_none (by omega)];decide
theorem pow57 {n:Nat} (h:n≤57):2 ^ n≤144115188075855872:=Nat.le_trans (Nat.pow_le_pow_right (by omega) h) (by decide)
attribute [local irreducible] Br Rn RnU Cl RdG CpG Ld Rd Lp Dr Oth Cut fin Fits Eng.Enters Md NA
theorem zhR:Eng.Enters Tryz.prog 242:=zab fun _ _=>by kernel_rfl
theorem zln:Eng.Enters Tryz.prog 224:=zab fun _ _=>by kernel_rfl
theorem zo7:Eng.Enters Tryz.prog 210:=zab fun _ _=>by kernel_rfl
theorem zj5:Eng.Enters Tryz.prog 260:=zab fun _ _=>by kernel_rfl
theorem znX (L:List UInt8) (A:Option Addr) (c n:Nat) (w:World) (hn:L.length=n) (hb:BytsIn w A L) (hl:n≤57) (hL:BitsL L) :
  Calls Tryz.prog 242 #[.slice A n c] w fun e w'=>e=.returned (.int .u64 (numU L:Nat))∧Fr (fun _=>False) w w':=by
 subst hn
 refine enter (cx:=CX 21 [] w) [(0,.slice A L.length c)] zaa Tryz.func242 rfl rfl rfl rfl (MemOk.nil w _) ?_
 have h1:=fun m=>BytsIn.byts (cx:=CX 21 [] w) (m:=m) hb (fun _ h=>h)
 refine gGw ?_
 refine lp zaa (γ:=Nat) (fun i=>i≤L.length) (fun i=>[(4,.int .i64 ((i:Int)-1)),(3,.int .u64 (numU (L.drop i):Nat)),(0,.slice A L.length c)]) (fun _=>[]) (fun i=>i) L.length (Nat.le_refl _)
  ⟨rfl,by rw [List.drop_of_length_le (Nat.le_refl _)];rfl,rfl,trivial⟩ (SubM.refl _ _) ?_
 rintro i hi
 dsimp only
 refine gGw ?_
 refine br_d (fun hge=>?_) (fun hlt=>?_)
 ·obtain ⟨j,rfl⟩:∃ j,i=j+1:=⟨i-1,by omega⟩
  have ej:((j+1:Nat):Int)-1=(j:Int):=by omega
  have hv:=znc (hL.drop (j+1))
  have hp:=pow57 (n:=(L.drop (j+1)).length) (by rw [List.length_drop];omega)
  have hs:numU (L.drop j)=(L.getD j 0).toNat+2*numU (L.drop (j+1)):=by rw [zqh (by omega)];rfl
  have hb8:=zoO hL j
  have hpl:Pl A:=(h1 []).plain (by omega)
  rw [ej]
  refine gGw ?_
  refine And.intro ⟨by omega,by omega,hpl⟩ ?_
  conv=>whnf
  refine zai ((h1 _).ld zaa rfl rfl (j:=j) (by omega)) ?_
  refine gGw ?_
  refine⟨j,by omega,by omega,⟨rfl,?_,rfl,trivial⟩,SubM.refl _ _⟩
  refine congrArg (fun x=>some (Value.int .u64 x)) ?_
  rw [hs];push_cast;omega
 ·have hi0:i=0:=by omega
  subst hi0
  refine gGw ?_
  exact fin1 rfl rfl (fun w' hm=>⟨rfl,hm.fr⟩)
theorem zwA {l:List UInt8} {v:UInt8} {x:Int} (hx:x=(v.toNat:Int)):(zag l).map (Value.int .u8)++[.int .u8 x]=(zag (l++[v])).map (Value.int .u8):=by
 subst hx
 rw [zkF]
theorem zqQ (x n:Nat) (w:World) (hx:x<18446744073709551616) (hn:n≤64) :
  Ctr Tryz.prog 224 [.int .u64 (x:Int),.int .i64 (n:Int)] [] (fun e m'=>∃ A c,e=.returned (.slice A n c)∧m'=[BR8 A c n (zfq x n)]) w:=by
 refine enter (cx:=CXS 21 [] w (Foot [])) [(0,.int .u64 (x:Int)),(1,.int .i64 (n:Int))] zaa Tryz.func224 rfl rfl rfl rfl (MemOk.nil w _) ?_
 refine gGw ?_
 refine lp zaa (γ:=Nat × Nat × List UInt8 × Option Addr × Nat) (fun q=>q.1≤n∧q.2.1<18446744073709551616∧q.2.2.1.length=q.1∧q.2.2.1++zfq q.2.1 (n-q.1)=zfq x n)
  (fun q=>[(6,.int .i64 (q.1:Int)),(5,.slice q.2.2.2.1 q.1 q.2.2.2.2),(0,.int .u64 (q.2.1:Int)),(1,.int .i64 (n:Int))]) (fun q=>[BR8 q.2.2.2.1 q.2.2.2.2 q.1 q.2.2.1]) (fun q=>n-q.1) (0,x,[],none,0) ⟨Nat.zero_le _,hx,rfl,rfl⟩ ⟨rfl,rfl,rfl,rfl,trivial⟩ (SubM.row0 SubM.sl _ _) ?_
 rintro ⟨i,y,l,A,c⟩ ⟨hi,hy,hli,hbl⟩
 simp only at hi hy hli hbl
 dsimp only
 refine gGw ?_
 refine br_d (fun hlt=>?_) (fun hge=>?_)
 ·obtain ⟨f,hf⟩:∃ f,n-i=f+1:=⟨n-i-1,by omega⟩
  rw [hf,zfq] at hbl
  have e1:(y:Int).tmod 2=((y%2:Nat):Int):=by rw [Int.tmod_eq_emod_of_nonneg (by omega)];rfl
  have e2:(y:Int).tdiv 2=((y/2:Nat):Int):=by rw [Int.tdiv_eq_ediv_of_nonneg (by omega)];rfl
  have e3:IntKind.u64.wrap ((y:Int).tdiv 2)=((y/2:Nat):Int):=by rw [e2];exact IntWalk.u64_in _ (by omega)
  refine gGw ?_;(repeat ((first|refine .mk fun Ap capp=>?_|intro _);(conv=>whnf);refine gG0 ?_))
  refine⟨(i+1,y/2,l++[UInt8.ofNat (y%2)],Ap,capp),⟨by show i+1≤n;omega,by show y/2<18446744073709551616;omega,by show (l++[UInt8.ofNat (y%2)]).length=i+1;rw [List.length_append,hli];rfl,?_⟩,by show n-(i+1)<n-i;omega,⟨congrArg (fun x=>some (Value.int .i64 x)) (by push_cast;rfl),rfl,congrArg (fun x=>some (Value.int .u64 x)) e3,rfl,trivial⟩,?_⟩
  ·show (l++[UInt8.ofNat (y%2)])++zfq (y/2) (n-(i+1))=zfq x n
   rw [show n-(i+1)=f by omega,List.append_assoc];exact hbl
  ·show SubM _ _ [.row Ap capp (i+1) 5 1 ((zag (l++[UInt8.ofNat (y%2)])).map (Value.int .u8))]
   rw [← zwA (l:=l) (v:=UInt8.ofNat (y%2)) (x:=(y:Int).tmod 2) (by rw [e1,UInt8.toNat_ofNat'];omega)]
   exact SubM.sl
 ·have ei:i=n:=by omega
  subst ei
  rw [Nat.sub_self] at hbl
  rw [zfq,List.append_nil] at hbl
  subst hbl
  refine gGw ?_
  exact fin1 rfl rfl (fun w' hm=>⟨_,⟨A,c,rfl,rfl⟩,hm⟩)
theorem zsP (bs:List UInt8) (i:Nat) (h:i<bs.length):zdl (bs.take (i+1))=zdl (bs.take i)++zfq (bs.getD i 0).toNat 8:=by
 unfold zdl
 rw [List.take_add_one,List.getElem?_eq_getElem h,List.flatMap_append,List.getD_eq_getElem?_getD,List.getElem?_eq_getElem h]
 simp
theorem zv5 (bs:List UInt8) (A:Option Addr) (c:Nat) (w:World) (hb:BytsIn w A bs) (hl:bs.length≤100000) :
  Ctr Tryz.prog 210 [.slice A bs.length c] [] (fun e m'=>∃ B d,e=.returned (.slice B (8*bs.length) d)∧m'=[BR8 B d (8*bs.length) (zdl bs)]) w:=by
 refine enter (cx:=CXS 24 [] w (Foot [])) [(0,.slice A bs.length c)] zaa Tryz.func210 rfl rfl rfl rfl (MemOk.nil w _) ?_
 have h1:=fun m=>BytsIn.byts (cx:=CXS 24 [] w (Foot [])) (m:=m) hb zam
 refine gGw ?_
 refine zur zaa rfl rfl rfl (by omega) (by show 1*_≤_;omega) (by omega) (fun b0=>?_)
 refine gGw ?_
 refine lp zaa (γ:=Nat × Option Addr × Nat) (fun q=>q.1≤bs.length) (fun q=>[(4,.int .i64 (q.1:Int)),(3,.slice q.2.1 (8*q.1) q.2.2),(0,.slice A bs.length c)]) (fun q=>[BR8 q.2.1 q.2.2 (8*q.1) (zdl (bs.take q.1))]) (fun q=>bs.length-q.1) (0,some ⟨b0,0,none⟩,(8*(bs.length:Int)).toNat) (Nat.zero_le _) ⟨rfl,rfl,rfl,trivial⟩ SubM.sl ?_
 rintro ⟨i,B,d⟩ hi
 simp only at hi
 dsimp only
 refine gGw ?_
 refine br_d (fun hlt=>?_) (fun hge=>?_)
 ·have hb8:=(bs.getD i 0).toNat_lt
  have hpl:Pl A:=(h1 []).plain (by omega)
  have hsn:=zsP bs i (by omega)
  refine gGw ?_
  refine And.intro ⟨by omega,by omega,hpl⟩ ?_
  conv=>whnf
  refine zai ((h1 _).ld zaa rfl rfl (j:=i) (by omega)) ?_
  refine gGw ?_
  refine⟨zln,zac (m1:=[]) .nil (fun w' hm'=>zqQ (bs.getD i 0).toNat 8 w' (by omega) (by omega)) ?_⟩
  rintro e m' ⟨B2,d2,rfl,rfl⟩
  conv=>whnf
  refine zba (acc:=zdl (bs.take i)) (ys:=zfq (bs.getD i 0).toNat 8) zaa rfl (by repeat constructor) (by repeat constructor) (ziX _ _) (by omega) (fun B3 d3=>?_)
  rw [← hsn]
  refine gGw ?_
  exact⟨(i+1,B3,d3),by show i+1≤bs.length;omega,by show bs.length-(i+1)<bs.length-i;omega,⟨congrArg (fun x=>some (Value.int .i64 x)) (by push_cast;rfl),rfl,rfl,trivial⟩,SubM.sl⟩
 ·obtain rfl:i=bs.length:=by omega
  rw [List.take_length]
  refine gGw ?_
  exact fin1 rfl rfl (fun w' hm=>⟨_,⟨B,d,rfl,rfl⟩,hm⟩)
theorem zpb (L:List UInt8) (A:Option Addr) (c n:Nat) (w:World) (hn:L.length=n) (hb:BytsIn w A L) (hl:n≤1000000) (hc:n≤c) (hL:BitsL L) :
  Ctr Tryz.prog 260 [.slice A n c] [] (fun e m'=>∃ B d,e=.returned (.slice B (zdD n L).length d)∧m'=[BR8 B d (zdD n L).length (zdD n L)]) w:=by
 refine enter (cx:=CXS 25 [21] w (Foot [])) [(0,.slice A n c)] zaa Tryz.func260 rfl rfl rfl rfl (MemOk.nil w _) ?_
 have h1:=fun m=>BytsIn.byts (cx:=CXS 25 [21] w (Foot [])) (m:=m) hb zam
 generalize hR:zdD n L=R
 refine gGw ?_
 refine lp zaa (γ:=Nat × Nat × List UInt8 × Option Addr × Nat) (fun q=>q.1≤n∧q.2.2.1.length=q.1∧q.2.2.1++zdD q.2.1 (L.drop (8*q.1))=R∧n≤q.2.1+q.1)
  (fun q=>[(4,.int .i64 (8*(q.1:Int))),(3,.slice q.2.2.2.1 q.1 q.2.2.2.2),(0,.slice A n c)]) (fun q=>[BR8 q.2.2.2.1 q.2.2.2.2 q.1 q.2.2.1]) (fun q=>n-q.1) (0,n,[],none,0) ⟨Nat.zero_le _,rfl,hR,by show n≤n+0;omega⟩ ⟨rfl,rfl,rfl,trivial⟩ (SubM.row0 SubM.sl _ _) ?_
 rintro ⟨i,f,l,B,d⟩ ⟨hi,hli,hR,hf⟩
 simp only at hi hli hR hf
 dsimp only
 refine gGw ?_
 refine br_d (fun hlt=>?_) (fun hge=>?_)
 ·obtain ⟨f,rfl⟩:∃ f',f=f'+1:=⟨f-1,by omega⟩
  have hne:L.drop (8*i)≠[]:=fun h=>by
   have:=List.drop_eq_nil_iff.1 h
   omega
  rw [zdD,if_neg hne,List.drop_drop] at hR
  obtain ⟨e,he,he1,he2⟩:∃ e:Nat,(if (n:Int)<8*(i:Int)+8 then (n:Int) else 8*(i:Int)+8)=(e:Int)∧(8*i≤e∧e≤n)∧(e=n∧n<8*i+8∨e=8*i+8):=by
   split
   ·exact⟨n,rfl,by omega,.inl ⟨rfl,by omega⟩⟩
   ·exact⟨8*i+8,by omega,by omega,.inr rfl⟩
  have hpl:Pl A:=(h1 []).plain (by omega)
  have htk:(L.drop (8*i)).take (e-8*i)=(L.drop (8*i)).take 8:=by
   rcases he2 with ⟨h1,h2⟩|h1
   ·rw [List.take_of_length_le (by rw [List.length_drop];omega),List.take_of_length_le (by rw [List.length_drop];omega)]
   ·rw [h1];congr 1;omega
  have hsub:=fun w' (h:BytsIn w' A L)=>BytsIn.sub h c (8*i) (e-8*i) (by omega) (by omega)
  rw [htk] at hsub
  have hlt8:((L.drop (8*i)).take 8).length=e-8*i:=by rw [← htk,List.length_take,List.length_drop];omega
  have hLt:BitsL ((L.drop (8*i)).take 8):=(hL.drop _).take _
  generalize (L.drop (8*i)).take 8=K at hsub hlt8 hLt hR
  refine gGw ?_
  rw [he]
  refine And.intro ⟨by omega,by omega,by omega,.inr hpl⟩ ?_
  refine gGw ?_
  refine⟨zhR,zae _ (fun w' hm'=>znX K _ _ _ w' (by rw [hlt8];omega) (hsub w' ((h1 []).in_ (hm'.sublist (List.nil_sublist _)))) (by omega) hLt) ?_⟩
  refine gGw ?_;(repeat ((first|refine .mk fun Ap capp=>?_|intro _);(conv=>whnf);refine gG0 ?_))
  refine⟨(i+1,f,l++[UInt8.ofNat (numU K%256)],Ap,capp),⟨by show i+1≤n;omega,by show (l++[UInt8.ofNat (numU K%256)]).length=i+1;rw [List.length_append,hli];rfl,?_,by show n≤f+(i+1);omega⟩,by show n-(i+1)<n-i;omega,⟨congrArg (fun x=>some (Value.int .i64 x)) (by push_cast;omega),rfl,rfl,trivial⟩,?_⟩
  ·show (l++[UInt8.ofNat (numU K%256)])++zdD f (L.drop (8*(i+1)))=R
   rw [List.append_assoc]
   exact hR
  ·show SubM _ _ [.row Ap capp (i+1) 5 1 ((zag (l++[UInt8.ofNat (numU K%256)])).map (Value.int .u8))]
   rw [← zwA (l:=l) (v:=UInt8.ofNat (numU K%256)) (x:=IntKind.u8.wrap (numU K:Nat)) (by rw [IntKind.wrap_u8,UInt8.toNat_ofNat'];omega)]
   exact SubM.sl
 ·have hnil:L.drop (8*i)=[]:=List.drop_eq_nil_of_le (by omega)
  have hz:zdD f []=[]:=by cases f<;>rfl
  rw [hnil,hz,List.append_nil] at hR
  subst hR
  subst hli
  refine gGw ?_
  exact fin1 rfl rfl (fun w' hm=>⟨_,⟨B,d,rfl,rfl⟩,hm⟩)
end
section
structure Bd where
 B:Nat
 A:Option Addr
 c:Nat
 L:List UInt8
structure Bd.Ok (d:Bd):Prop where
 bits:BitsL d.L
 len:d.L.length≤160000
 cap:d.L.length≤d.c
abbrev BdM (d:Bd) (at_:Nat):Mem:=[.blk d.B (.cells [.slice d.A d.L.length d.c,.int .i64 (at_:Int)].toArray 316),BR8 d.A d.c d.L.length d.L]
theorem zbO {L:List UInt8} {a n:Nat} (h:a+n≤L.length):zgG L a n=.ok (numU ((L.drop a).take n),a+n):=if_pos h
theorem zbP {L:List UInt8} {a n:Nat} (h:¬ a+n≤L.length):zgG L a n=.error 120:=if_neg h
theorem zeQ {L:List UInt8} (h:BitsL L) (a n:Nat):numU ((L.drop a).take n)<2 ^ n:=by
 have h1:=znc ((h.drop a).take n)
 refine Nat.lt_of_lt_of_le h1 (Nat.pow_le_pow_right (by omega) ?_)
 rw [List.length_take];omega
theorem zge {w:World} {A:Option Addr} {cap n t k:Nat} {xs:List Value} (h:Res.ok w (.row A cap n t k xs)):A=none∨Pl A:=by
 rcases h.2 with ⟨e,_⟩|⟨g,_,_,e,_⟩
 ·injection e with e;exact .inl e
 ·injection e with e;exact .inr ⟨g,0,e⟩
theorem zyg {P:Program} {f:Nat} {A:Option Addr} {n n' c:Nat} {m:Mem} {R:Ending→Mem→Prop} {w:World} (h:n=n') (hc:Ctr P f [.slice A n c] m R w):Ctr P f [.slice A n' c] m R w:=h ▸ hc
attribute [local irreducible] Br Rn RnU Cl RdG CpG Ld Rd Lp Dr Oth Cut fin Fits Eng.Enters Md NA
theorem zaM:Eng.Enters Tryz.prog 225:=zab fun _ _=>by kernel_rfl
theorem zj6:Eng.Enters Tryz.prog 243:=zab fun _ _=>by kernel_rfl
theorem zmG:Eng.Enters Tryz.prog 244:=zab fun _ _=>by kernel_rfl
theorem zbt (d:Bd) (a n:Nat) (w:World) (hd:d.Ok) (ha:a≤d.L.length) (hn:n≤57) (hm:MemOk w (Foot (BdM d a)) (BdM d a) w) :
  Ctr Tryz.prog 225 [.pointer (some ⟨d.B,0,none⟩),.int .i64 (n:Int)] (BdM d a) (fun e m'=>(a+n≤d.L.length∧e=.returned (.tuple #[.int .u64 (numU ((d.L.drop a).take n):Nat),.int .i64 0])∧m'=BdM d (a+n)) ∨
   (¬ a+n≤d.L.length∧e=.returned (.tuple #[.int .u64 0,.int .i64 120])∧m'=BdM d a)) w:=by
 obtain ⟨hL,hl,hc⟩:=hd
 have hA:=zge (hm.ok (BR8 d.A d.c d.L.length d.L) (by simp))
 refine enter (cx:=⟨Tryz.prog,51,w,Foot (BdM d a),tab,[],[242],[],[]⟩) [(0,.pointer (some ⟨d.B,0,none⟩)),(1,.int .i64 (n:Int))] zaa Tryz.func225 rfl rfl rfl rfl hm ?_
 refine gGw ?_
 refine br_f (by simp only [Bool.or_eq_false_iff,decide_eq_false_iff_not];omega) ?_
 conv=>whnf
 refine zao zaa mixed (by kernel_rfl) rfl ?_;conv=>whnf
 refine gG0 ?_
 refine br_d (fun hlt=>?_) (fun hge=>?_)
 ·refine gGw ?_
  exact fin2 rfl rfl rfl (fun w' hm=>⟨_,.inr ⟨by omega,rfl,rfl⟩,hm⟩)
 ·conv=>whnf
  refine zao zaa mixed (by kernel_rfl) rfl ?_;conv=>whnf
  refine gG0 ?_
  refine And.intro ⟨by omega,by omega,by omega,hA⟩ ?_
  refine gGw ?_
  refine⟨_,cpg zhR (fun _ w' hm'=>znX ((d.L.drop a).take n) _ _ _ w' (by rw [List.length_take,List.length_drop];omega) (BytsIn.sub (zay (hm'.ok (BR8 d.A d.c d.L.length d.L) (by simp))) d.c a n (by omega) hc) (by omega) ((hL.drop _).take _)),?_⟩
  refine gGw ?_
  exact fin2 rfl rfl rfl (fun w' hm=>⟨BdM d (a+n),.inl ⟨by omega,rfl,rfl⟩,hm.sl⟩)
theorem zpc (d:Bd) (a:Nat) (w:World) (hd:d.Ok) (ha:a≤d.L.length) (hm:MemOk w (Foot (BdM d a)) (BdM d a) w) :
  Ctr Tryz.prog 243 [.pointer (some ⟨d.B,0,none⟩)] (BdM d a) (fun e m'=>e=.returned (.tuple #[])∧m'=BdM d (zb5 a)) w:=by
 obtain ⟨hL,hl,hc⟩:=hd
 refine enter (cx:=CXS 12 [] w (Foot (BdM d a))) [(0,.pointer (some ⟨d.B,0,none⟩))] zaa Tryz.func243 rfl rfl rfl rfl hm ?_
 have e1:((a:Int)+7).tdiv 8=(((a+7)/8:Nat):Int):=by rw [Int.tdiv_eq_ediv_of_nonneg (by omega)];omega
 have e2:IntKind.i64.wrap (((a:Int)+7).tdiv 8)=(((a+7)/8:Nat):Int):=by rw [e1];exact IntWalk.i64_in _ (by omega)
 refine gGw ?_
 have e3:IntKind.i64.wrap (((a:Int)+7).tdiv 8)*8=((zb5 a:Nat):Int):=by rw [e2];unfold zb5;push_cast;rfl
 refine fin0 rfl (fun w' hm=>⟨BdM d (zb5 a),⟨rfl,rfl⟩,?_⟩) (by first|exact .inl rfl|exact .inr rfl)
 rw [e3] at hm
 exact hm.sl
abbrev rawX (d:Bd) (a n:Nat):List UInt8:=zdD (8*n) ((d.L.drop a).take (8*n))
theorem zs7 (d:Bd) (a n:Nat) (w:World) (hd:d.Ok) (ha:a≤d.L.length) (h8:a%8=0) (hn:n≤65535) (hm:MemOk w (Foot (BdM d a)) (BdM d a) w) :
  Ctr Tryz.prog 244 [.pointer (some ⟨d.B,0,none⟩),.int .i64 (n:Int)] (BdM d a) (fun e m'=>(n≤(d.L.length-a)/8∧∃ B c,e=.returned (.tuple #[.slice B (rawX d a n).length c,.int .i64 0])∧m'=BR8 B c (rawX d a n).length (rawX d a n)::BdM d (a+8*n)) ∨
   (¬ n≤(d.L.length-a)/8∧e=.returned (.tuple #[.slice none 0 0,.int .i64 120])∧m'=BdM d a)) w:=by
 obtain ⟨hL,hl,hc⟩:=hd
 have hA:=zge (hm.ok (BR8 d.A d.c d.L.length d.L) (by simp))
 refine enter (cx:=CXS 58 [] w (Foot (BdM d a))) [(0,.pointer (some ⟨d.B,0,none⟩)),(1,.int .i64 (n:Int))] zaa Tryz.func244 rfl rfl rfl rfl hm ?_
 have hby:a+8*n≤d.L.length→∀ w',BytsIn w' (cutA d.A d.c a 1) ((d.L.drop a).take (8*n))→Ctr Tryz.prog 260 [.slice (cutA d.A d.c a 1) (8*n) (d.c-a)] [] (fun e m'=>∃ B c,e=.returned (.slice B (rawX d a n).length c)∧m'=[BR8 B c (rawX d a n).length (rawX d a n)]) w':=fun hk w' hb' =>
  zpb ((d.L.drop a).take (8*n)) _ _ (8*n) w' (by rw [List.length_take,List.length_drop];omega) hb' (by omega) (by omega) ((hL.drop _).take _)
 generalize rawX d a n=Z at hby ⊢
 have e0:(a:Int).tmod 8=0:=by rw [Int.tmod_eq_emod_of_nonneg (by omega)];omega
 have e1:((d.L.length:Int)-a).tdiv 8=(((d.L.length-a)/8:Nat):Int):=by rw [Int.tdiv_eq_ediv_of_nonneg (by omega)];omega
 have e2:IntKind.i64.wrap (((d.L.length:Int)-a).tdiv 8)=(((d.L.length-a)/8:Nat):Int):=by rw [e1];exact IntWalk.i64_in _ (by omega)
 refine gGw ?_
 refine br_f (decide_eq_false (by omega)) ?_
 conv=>whnf
 refine zao zaa mixed (by kernel_rfl) rfl ?_;conv=>whnf
 refine gG0 ?_
 refine And.intro (fun _=>zaB (by omega)) ?_
 refine gGw ?_
 refine And.intro (fun _=>by decide) ?_
 refine gGw ?_
 rw [e2]
 by_cases hk:n≤(d.L.length-a)/8
 rotate_left
 ·refine br_t (by rw [decide_eq_true e0,decide_eq_true (show (((d.L.length-a)/8:Nat):Int)<n by omega)];rfl) ?_
  refine gGw ?_
  exact fin2 rfl rfl rfl (fun w' hm=>⟨_,.inr ⟨hk,rfl,rfl⟩,hm⟩)
 have hby:=hby (by omega)
 refine br_f (by rw [decide_eq_true e0,decide_eq_false (show ¬ (((d.L.length-a)/8:Nat):Int)<n by omega)];rfl) ?_
 conv=>whnf
 refine zcD 16 zaa mixed (by kernel_rfl) rfl rfl ?_
 refine gGw ?_
 refine And.intro ⟨by omega,by omega,by omega,hA⟩ ?_
 refine gGw ?_
 refine⟨zj5,zac (m1:=[]) .nil (fun w' hm'=>zyg (by omega) (hby w' (BytsIn.sub (zay (hm'.ok (BR8 d.A d.c d.L.length d.L) (by simp))) d.c a (8*n) (by omega) hc))) ?_⟩
 rintro e m' ⟨B,c,rfl,rfl⟩
 refine gGw ?_
 exact fin2 rfl rfl rfl (fun w' hm=>⟨BR8 B c Z.length Z::BdM d (a+8*n),.inl ⟨hk,B,c,rfl,rfl⟩,hm.sl⟩)
end
section
def LenL (l:List Int):Prop:=(∀ x∈l,0≤x∧x≤15)∧l.length≤400
theorem LenL.get {l:List Int} (h:LenL l) (i:Nat):0≤l.getD i 0∧l.getD i 0≤15:=by
 by_cases hi:i<l.length
 ·exact h.1 _ (zbC hi)
 ·rw [List.getD_eq_getElem?_getD,List.getElem?_eq_none (by omega)];decide
abbrev UR (A:Option Addr) (c n:Nat) (xs:List Int):Res:=.row A c n 32 1 (xs.map (.int .u64))
theorem zvs {xs:List Int} {j:Nat} (h:j<xs.length):(xs.map (Value.int .u64))[j]?=some (.int .u64 (xs.getD j 0)):=by
 rw [List.getElem?_map,List.getElem?_eq_getElem h,List.getD_eq_getElem?_getD,List.getElem?_eq_getElem h];rfl
theorem setU {l:List Int} {i:Nat} {b:Int}:zbp i (zaS (.int .u64 b)) (l.map (.int .u64))=(l.set i b).map (Value.int .u64):=by
 show (l.map (Value.int .u64)).set i (.int .u64 b)=_
 rw [List.map_set]
theorem zk8 {l:List Int} (hl:l.length≤400) (k:Nat) (hk:k≤15):(cdN l k).1≤13107200∧∀ x∈(cdN l k).2,0≤x∧x≤13107200:=by
 obtain ⟨h1,h2⟩:=zvR l k
 have h3:2 ^ k≤2 ^ 15:=Nat.pow_le_pow_right (by omega) hk
 have h4:l.length*2 ^ k≤400*2 ^ 15:=Nat.mul_le_mul hl h3
 have h5:400*2 ^ 15=13107200:=by decide
 refine⟨by omega,fun x hx=>?_⟩
 have:=h2 x hx
 omega
attribute [local irreducible] Br Rn RnU Cl RdG CpG Ld Rd Lp Dr Oth Cut fin Fits Eng.Enters Md NA
theorem zi0:Eng.Enters Tryz.prog 264:=zab fun _ _=>by kernel_rfl
theorem zj4:Eng.Enters Tryz.prog 267:=zab fun _ _=>by kernel_rfl
theorem zo6:Eng.Enters Tryz.prog 261:=zab fun _ _=>by kernel_rfl
theorem zmF (l:List Int) (A:Option Addr) (c n:Nat) (w:World) (hn:l.length=n) (hb:IntsIn .i64 w A l) (hl:LenL l) :
  Calls Tryz.prog 264 #[.slice A n c] w fun e w'=>e=.returned (.int .i64 (za8 l))∧Fr (fun _=>False) w w':=by
 subst hn
 obtain ⟨hx,hlen⟩:=hl
 refine enter (cx:=CX 24 [] w) [(0,.slice A l.length c)] zaa Tryz.func264 rfl rfl rfl rfl (MemOk.nil w _) ?_
 have h1:=fun m=>IntsIn.ints (cx:=CX 24 [] w) (m:=m) hb (fun _ h=>h)
 refine gGw ?_
 refine lp zaa (γ:=Nat) (fun i=>i≤l.length) (fun i=>[(4,.int .i64 (i:Int)),(3,.int .i64 (za8 (l.take i))),(0,.slice A l.length c)]) (fun _=>[]) (fun i=>l.length-i) 0 (by omega) ⟨rfl,rfl,rfl,trivial⟩ (SubM.refl _ _) ?_
 rintro i hi
 dsimp only
 refine gGw ?_
 refine br_d (fun hlt=>?_) (fun hge=>?_)
 ·have hlt':i<l.length:=by omega
  have hpl:Pl A:=(h1 []).plain (by omega)
  have hbd:=hx _ (zbC hlt')
  have hwl:=zgC (l.take i)
  have hlen:(l.take i).length=i:=by rw [List.length_take];omega
  rw [hlen] at hwl
  have hst:=zg9 l i hlt'
  refine gGw ?_
  refine And.intro ⟨by omega,by omega,hpl⟩ ?_
  conv=>whnf
  refine zai ((h1 _).ld zaa rfl rfl (j:=i) (by omega)) ?_
  refine gGw ?_
  refine br_d (fun hpos=>?_) (fun hz=>?_)
  ·rw [if_pos hpos] at hst
   have h32:0≤(32768:Int)/2 ^ (l.getD i 0).toNat∧(32768:Int)/2 ^ (l.getD i 0).toNat≤32768:=⟨Int.ediv_nonneg (by omega) (Int.le_of_lt (Int.pow_pos (by omega))),Int.ediv_le_self _ (by omega)⟩
   refine gGw ?_
   refine And.intro ⟨by omega,by omega,hpl⟩ ?_
   conv=>whnf
   refine zai ((h1 _).ld zaa rfl rfl (j:=i) (by omega)) ?_
   refine gGw ?_
   refine And.intro ⟨by omega,show l.getD i 0≤(64:Int) by omega⟩ ?_
   refine gGw ?_
   refine⟨i+1,by omega,by omega,⟨congrArg (fun x=>some (Value.int .i64 x)) (by push_cast;rfl),?_,rfl,trivial⟩,SubM.refl _ _⟩
   rw [hst]
   rfl
  ·rw [if_neg (by omega)] at hst
   refine gGw ?_
   refine⟨i+1,by omega,by omega,⟨congrArg (fun x=>some (Value.int .i64 x)) (by push_cast;rfl),?_,rfl,trivial⟩,SubM.refl _ _⟩
   rw [hst,Int.add_zero]
   rfl
 ·have hil:i=l.length:=by omega
  subst hil
  rw [List.take_length]
  refine gGw ?_
  exact fin1 rfl rfl (fun w' hm=>⟨rfl,hm.fr⟩)
theorem zpa (l:List Int) (A:Option Addr) (c:Nat) (w:World) (hb:IntsIn .i64 w A l) (hl:LenL l) :
  Ctr Tryz.prog 267 [.slice A l.length c] [] (fun e m'=>∃ B d,e=.returned (.slice (some ⟨B,0,none⟩) l.length d)∧m'=[UR (some ⟨B,0,none⟩) d l.length (ze1 l)]) w:=by
 obtain ⟨hx,hlen⟩:=hl
 refine enter (cx:=CXS 35 [] w (Foot [])) [(0,.slice A l.length c)] zaa Tryz.func267 rfl rfl rfl rfl (MemOk.nil w _) ?_
 have h1:=fun m=>IntsIn.ints (cx:=CXS 35 [] w (Foot [])) (m:=m) hb zam
 refine gGw ?_
 refine zc2 zaa rfl rfl rfl rfl rfl (by omega) (by show 8*_≤_;omega) (by omega) (fun lB=>?_)
 refine gGw ?_
 refine lp zaa (γ:=Nat) (fun k=>k≤15) (fun k=>[(5,.int .i64 ((k:Int)+1)),(4,.int .u64 ((cdN l k).1:Nat)),(3,.slice (some ⟨lB,0,none⟩) l.length l.length),(0,.slice A l.length c)])
  (fun k=>[UR (some ⟨lB,0,none⟩) l.length l.length (cdN l k).2]) (fun k=>15-k) 0 (Nat.zero_le _) ⟨rfl,rfl,rfl,rfl,trivial⟩ ?_ ?_
 ·show SubM _ _ [.row (some ⟨lB,0,none⟩) l.length l.length 32 1 ((List.replicate l.length (0:Int)).map (.int .u64))]
  rw [List.map_replicate]
  exact SubM.sl
 rintro k hk
 dsimp only
 have hcb:=zk8 hlen k hk
 have hcl:=znK l k
 refine gGw ?_
 refine br_d (fun hlt=>?_) (fun hge=>?_)
 ·have hck:=zk8 hlen (k+1) (by omega)
  have eK:cdN l (k+1)=cdI l ((k+1:Nat):Int) (2*(cdN l k).1,(cdN l k).2) l.length:=rfl
  generalize cdN l k=st at hcb hcl eK ⊢
  obtain ⟨s1,s2⟩:=st
  simp only at hcb hcl eK ⊢
  refine gGw ?_
  refine lp zaa (γ:=Nat) (fun i=>i≤l.length) (fun i=>[(6,.int .i64 (i:Int)),(5,.int .i64 ((k:Int)+1)),(4,.int .u64 ((cdI l ((k+1:Nat):Int) (2*s1,s2) i).1:Nat)),(3,.slice (some ⟨lB,0,none⟩) l.length l.length),(0,.slice A l.length c)])
   (fun i=>[UR (some ⟨lB,0,none⟩) l.length l.length (cdI l ((k+1:Nat):Int) (2*s1,s2) i).2]) (fun i=>l.length-i) 0 (Nat.zero_le _) ⟨rfl,rfl,congrArg (fun x=>some (Value.int .u64 x)) (by show 2*(s1:Int)=((2*s1:Nat):Int);push_cast;rfl),rfl,rfl,trivial⟩ SubM.sl ?_
  rintro i hi
  have hib:=zsK l ((k+1:Nat):Int) (2*s1,s2) 100000000 (fun x hx=>by have:=hcb.2 x hx;omega) (by simp only;omega) i hi
  have hil:=zlc l ((k+1:Nat):Int) (2*s1,s2) i
  have eI:cdI l ((k+1:Nat):Int) (2*s1,s2) (i+1)=if l.getD i 0=((k+1:Nat):Int) then ((cdI l ((k+1:Nat):Int) (2*s1,s2) i).1+1,(cdI l ((k+1:Nat):Int) (2*s1,s2) i).2.set i ((cdI l ((k+1:Nat):Int) (2*s1,s2) i).1:Nat)) else cdI l ((k+1:Nat):Int) (2*s1,s2) i:=rfl
  dsimp only
  obtain ⟨Q,hQ⟩:∃ Q,Q=cdI l ((k+1:Nat):Int) (2*s1,s2) i:=⟨_,rfl⟩
  rw [← hQ] at hib hil eI ⊢
  obtain ⟨q1,q2⟩:=Q
  simp only at hib hil eI ⊢
  refine gGw ?_
  refine br_d (fun hlt2=>?_) (fun hge2=>?_)
  ·have hlt':i<l.length:=by omega
   have hpl:Pl A:=(h1 []).plain (by omega)
   have hbd:=hx _ (zbC hlt')
   refine gGw ?_
   refine And.intro ⟨by omega,by omega,hpl⟩ ?_
   conv=>whnf
   refine zai ((h1 _).ld zaa rfl rfl (j:=i) (by omega)) ?_
   refine gGw ?_
   refine br_d (fun he=>?_) (fun he=>?_)
   ·rw [if_pos (by push_cast;exact he)] at eI
    refine gGw ?_
    refine And.intro ⟨by omega,by omega,Pl.mk _ _⟩ ?_
    refine gGw ?_
    refine zaw (off:=i) (xs':=(q2.set i (q1:Nat)).map (.int .u64)) zaa rfl (by repeat constructor) rfl rfl (by show i+1≤l.length*1;omega) Nat.one_pos setU ?_
    refine gGw ?_
    refine⟨i+1,by omega,by omega,⟨congrArg (fun x=>some (Value.int .i64 x)) (by push_cast;rfl),rfl,?_,rfl,rfl,trivial⟩,?_⟩
    ·rw [eI];exact congrArg (fun x=>some (Value.int .u64 x)) (by push_cast;rfl)
    ·rw [eI];exact SubM.sl
   ·rw [if_neg (by push_cast;exact he)] at eI
    refine gGw ?_
    refine⟨i+1,by omega,by omega,⟨congrArg (fun x=>some (Value.int .i64 x)) (by push_cast;rfl),rfl,?_,rfl,rfl,trivial⟩,?_⟩
    ·rw [eI];rfl
    ·rw [eI];exact SubM.sl
  ·have ei:i=l.length:=by omega
   subst ei
   rw [← eK] at hQ
   refine gGw ?_
   refine⟨k+1,by omega,by omega,⟨congrArg (fun x=>some (Value.int .i64 x)) (by push_cast;rfl),?_,rfl,rfl,trivial⟩,?_⟩
   ·rw [← hQ];rfl
   ·rw [← hQ];exact SubM.sl
 ·have ek:k=15:=by omega
  subst ek
  refine gGw ?_
  exact fin1 rfl rfl (fun w' hm=>⟨_,⟨lB,l.length,rfl,rfl⟩,hm⟩)
end
end Go.Proofs.YtlmgelmloddfgaaGreat
