/- Part of a proof: contracts of the functions that the law reaches. No statement of the seat is proved here. -/
import Derived.Test.YtlmgelmloddfgaaGreatCcM3
import Derived.Laws.BitsAllLaws
import Derived.RangeFuncSeq
set_option linter.unusedVariables false
set_option linter.unusedSimpArgs false
set_option linter.unusedSectionVars false
set_option maxRecDepth 100000
namespace Go.Proofs.YtlmgelmloddfgaaGreat
open Go Go.RowKit Eng
section
structure En where
 kind:Int
 place:Int
 len:Int
abbrev En.cells (e:En):List Value:=[.int .i64 e.kind,.int .i64 e.place,.int .i64 e.len]
abbrev En.val (e:En):Value:=.agg e.cells.toArray
theorem zqe:Tryz.prog.underlying 163=some (.struct (Tryz.prog.fieldsOf 163)):=by kernel_rfl
theorem zu9:Tryz.prog.stoodInHeld 163=false:=by kernel_rfl
theorem ent_list : ((Tryz.prog.fieldsOf 163).toList.map fun f => (f.name, f.type, f.offset)) = [("Kind", 161, 0), ("Place", 2, 1), ("Len", 3, 2)] := by kernel_rfl
theorem zhV:Tryz.prog.underlying 161=some (.int .i64):=by kernel_rfl
theorem zxf (d:Nat) (a b c a' b' c':Int) (w:World):(Op.equalIn (d+2) 163 (.agg #[.int .i64 a,.int .i64 b,.int .i64 c]) (.agg #[.int .i64 a',.int .i64 b',.int .i64 c'])).run Tryz.prog w=.ok (decide (a=a')&&(decide (b=b')&&decide (c=c'))) w:=by
 rw [run_equalIn_struct w (d+1) 163 _ _ zqe zu9]
 have h:=ent_list
 generalize (Tryz.prog.fieldsOf 163).toList=fs at h
 obtain ⟨f1,f2,f3,rfl⟩:∃ f1 f2 f3,fs=[f1,f2,f3]:=by
  rcases fs with _|⟨f1,_|⟨f2,_|⟨f3,_|⟨i,r⟩⟩⟩⟩
  ·simp at h
  ·simp at h
  ·simp at h
  ·exact⟨f1,f2,f3,rfl⟩
  ·simp at h
 simp only [List.map_cons,List.map_nil,List.cons.injEq,Prod.mk.injEq,and_true] at h
 obtain ⟨⟨a1,a2,a3⟩,⟨b1,b2,b3⟩,c1,c2,c3⟩:=h
 have n1 : f1.name ≠ "_" := by rw [a1]; decide
 have n2 : f2.name ≠ "_" := by rw [b1]; decide
 have n3 : f3.name ≠ "_" := by rw [c1]; decide
 simp only [Op.eqFields,n1,n2,n3,if_true,ne_eq,not_false_eq_true,a2,a3,b2,b3,c2,c3,Sem.run_bind]
 rw [zbB zhV _ 0 (.int .i64 a) rfl,Result.andThen_ok,zbB zhV _ 0 (.int .i64 a') rfl,Result.andThen_ok,zca zhV,Result.andThen_ok]
 by_cases h1:a=a'
 ·subst h1
  simp only [decide_true,Bool.not_true,Bool.false_eq_true,if_false,Sem.run_bind,Bool.true_and]
  rw [zbB zfK _ 1 (.int .i64 b) rfl,Result.andThen_ok,zbB zfK _ 1 (.int .i64 b') rfl,Result.andThen_ok,zca zfK,Result.andThen_ok]
  by_cases h2:b=b'
  ·subst h2
   simp only [decide_true,Bool.not_true,Bool.false_eq_true,if_false,Sem.run_bind,Bool.true_and]
   rw [zbB zqR _ 2 (.int .i64 c) rfl,Result.andThen_ok,zbB zqR _ 2 (.int .i64 c') rfl,Result.andThen_ok,zca zqR,Result.andThen_ok]
   by_cases h3:c=c'
   ·subst h3;simp
   ·simp [h3]
  ·simp [h2]
 ·simp [h1]
theorem zsy (ox oy:Operand) (a b c a' b' c':Int) (w:World):(eqGuard .eql 163 ox oy (.agg #[.int .i64 a,.int .i64 b,.int .i64 c]) (.agg #[.int .i64 a',.int .i64 b',.int .i64 c'])).run Tryz.prog w=.ok () w:=by kernel_rfl
theorem zoV (ox oy:Operand) (a b c a' b' c':Int) (w:World):(zdK .eql 163 ox oy (.agg #[.int .i64 a,.int .i64 b,.int .i64 c]) (.agg #[.int .i64 a',.int .i64 b',.int .i64 c'])).run Tryz.prog w=.ok (.bool (decide (a=a')&&(decide (b=b')&&decide (c=c')))) w:=by
 have h:=zxf 9998 a b c a' b' c' w
 simp only [zdK,Sem.run_bind,zsy,Result.andThen_ok]
 simp only [binOp]
 simp [Op.equal,Op.maxDepth,h]
def clus (bits:Int):Int:=2 ^ bits.toNat
theorem zg0 {bits:Int} (h:9≤bits∧bits≤16):(bits=9∧clus bits=512)∨(bits=10∧clus bits=1024)∨(bits=11∧clus bits=2048)∨(bits=12∧clus bits=4096)∨(bits=13∧clus bits=8192)∨(bits=14∧clus bits=16384)∨(bits=15∧clus bits=32768)∨(bits=16∧clus bits=65536):=by
 have:bits=9∨bits=10∨bits=11∨bits=12∨bits=13∨bits=14∨bits=15∨bits=16:=by omega
 rcases this with rfl|rfl|rfl|rfl|rfl|rfl|rfl|rfl<;>decide
theorem znH {bits:Int} (h:9≤bits∧bits≤16):512≤clus bits∧clus bits≤65536∧clus bits%8=0:=by
 rcases zg0 h with ⟨_,h⟩|⟨_,h⟩|⟨_,h⟩|⟨_,h⟩|⟨_,h⟩|⟨_,h⟩|⟨_,h⟩|⟨_,h⟩<;>rw [h]<;>decide
theorem zhx {bits:Int} (h:9≤bits∧bits≤16):IntKind.i64.wrap (1*2 ^ bits.toNat)=clus bits:=by
 have:=znH h
 rw [Int.one_mul]
 exact IntWalk.i64_in _ (by unfold clus at this;omega)
def zdL (e:En) (c:Int):Bool :=
 if e.kind=0∨e.kind=1 then decide (e.place=0)&&decide (e.len=0)
 else if e.kind=2 then decide (e.len=0)&&decide (0<e.place)&&decide (e.place≤268435456)&&decide (e.place.tmod c=0)
 else if e.kind=3 then decide (1≤e.len)&&decide (e.len<c)&&decide (e.len≤16383)&&decide (c≤e.place)&&decide (e.place≤268435456-e.len)&&decide (e.place.tdiv c=(e.place+e.len-1).tdiv c)
 else false
def entE (e:En) (bits:Int):Int:=if bits<9∨16<bits then 2 else if zdL e (clus bits) then 0 else 2
attribute [local irreducible] Br Rn RnU Cl RdG CpG Ld Rd Lp Dr Oth Cut fin Fits Eng.Enters Md NA
theorem ziO:Eng.Enters Tryz.prog 165:=zab fun _ _=>by kernel_rfl
theorem zmq (e:En) (bits:Int) (w:World) (hp:-9223372036854775808≤e.place∧e.place≤9223372036854775807) (hl:-9223372036854775808≤e.len∧e.len≤9223372036854775807) :
  Calls Tryz.prog 165 #[e.val,.int .i64 bits] w fun e' w'=>e'=.returned (.int .i64 (entE e bits))∧Fr (fun _=>False) w w':=by
 refine enter (cx:=CX 95 [] w) [(0,e.val),(1,.int .i64 bits)] zaa Tryz.func165 rfl rfl rfl rfl (MemOk.nil w _) ?_
 conv=>whnf
 intro b
 refine gGw ?_
 refine br (fun h=>?_) (fun h=>?_)
 ·refine gGw ?_
  refine fin1 rfl rfl (fun w' hm=>⟨?_,hm.fr⟩)
  simp only [Bool.or_eq_true,decide_eq_true_eq] at h
  rw [entE,if_pos h]
 simp only [Bool.or_eq_false_iff,decide_eq_false_iff_not] at h
 have hbits:9≤bits∧bits≤16:=by omega
 have hcb:=znH hbits
 have hE:entE e bits=if zdL e (clus bits) then 0 else 2:=by rw [entE,if_neg (by omega)]
 rw [hE]
 conv=>whnf
 refine And.intro (show 0≤bits∧bits≤(64:Int) by omega) ?_
 rw [zhx hbits]
 generalize clus bits=c at hcb ⊢
 clear hE
 refine gGw ?_
 refine br_d (fun h0=>?_) (fun h0=>?_)
 ·have hO:zdL e c=(decide (e.kind=e.kind)&&(decide (e.place=0)&&decide (e.len=0))):=by rw [zdL,if_pos (.inl h0),decide_eq_true (rfl:e.kind=e.kind),Bool.true_and]
  refine gGw ?_
  refine Rd.n (zcl fun w=>zoV _ _ _ _ _ _ _ _ w) ?_
  refine gGw ?_
  refine br_n (br (fun hk=>?_) (fun hk=>?_))
  ·refine gGw ?_
   refine fin1 rfl rfl (fun w' hm=>⟨?_,hm.fr⟩)
   rw [hO,if_pos hk]
  ·refine gGw ?_
   refine fin1 rfl rfl (fun w' hm=>⟨?_,hm.fr⟩)
   rw [hO,hk];rfl
 refine gGw ?_
 refine br_d (fun h1=>?_) (fun h1=>?_)
 ·have hO:zdL e c=(decide (e.kind=e.kind)&&(decide (e.place=0)&&decide (e.len=0))):=by rw [zdL,if_pos (.inr h1),decide_eq_true (rfl:e.kind=e.kind),Bool.true_and]
  refine gGw ?_
  refine Rd.n (zcl fun w=>zoV _ _ _ _ _ _ _ _ w) ?_
  refine gGw ?_
  refine br_n (br (fun hk=>?_) (fun hk=>?_))
  ·refine gGw ?_
   refine fin1 rfl rfl (fun w' hm=>⟨?_,hm.fr⟩)
   rw [hO,if_pos hk]
  ·refine gGw ?_
   refine fin1 rfl rfl (fun w' hm=>⟨?_,hm.fr⟩)
   rw [hO,hk];rfl
 refine gGw ?_
 refine br_d (fun h2=>?_) (fun h2=>?_)
 ·have hO:zdL e c=(decide (e.len=0)&&decide (0<e.place)&&decide (e.place≤268435456)&&decide (e.place.tmod c=0)):=by rw [zdL,if_neg (by omega),if_pos h2]
  conv=>whnf
  (repeat ((first|refine ziJ (And.intro (fun _=>by omega) ?_)|refine gG1 ?_|refine .mk fun Ap capp=>?_|intro _);conv=>whnf))
  refine br_n (br (fun hk=>?_) (fun hk=>?_))
  ·refine gGw ?_
   refine fin1 rfl rfl (fun w' hm=>⟨?_,hm.fr⟩)
   rw [hO,if_pos hk]
  ·refine gGw ?_
   refine fin1 rfl rfl (fun w' hm=>⟨?_,hm.fr⟩)
   rw [hO,hk];rfl
 refine gGw ?_
 refine br_d (fun h3=>?_) (fun h3=>?_)
 ·have hO:zdL e c=((decide (1≤e.len)&&decide (e.len<c)&&decide (e.len≤16383)&&decide (c≤e.place)&&decide (e.place≤268435456-e.len))&&decide (IntKind.i64.wrap (e.place.tdiv c)=IntKind.i64.wrap ((e.place+e.len-1).tdiv c))):=by
   rw [zdL,if_neg (by omega),if_neg h2,if_pos h3]
   by_cases hA:(decide (1≤e.len)&&decide (e.len<c)&&decide (e.len≤16383)&&decide (c≤e.place)&&decide (e.place≤268435456-e.len))=true
   ·have hA':=hA
    simp only [Bool.and_eq_true,decide_eq_true_eq] at hA'
    have d1:=zmI (a:=e.place) (c:=c) (M:=268435456) (by omega) (by omega)
    have d2:=zmI (a:=e.place+e.len-1) (c:=c) (M:=268435456) (by omega) (by omega)
    rw [IntWalk.i64_in (e.place.tdiv c) (by omega),IntWalk.i64_in ((e.place+e.len-1).tdiv c) (by omega)]
   ·rw [Bool.not_eq_true] at hA
    rw [hA];rfl
  conv=>whnf
  refine zao zaa mixed (by kernel_rfl) rfl ?_;conv=>whnf
  refine gG0 ?_
  refine br_n (br (fun hk=>?_) (fun hk=>?_))
  ·refine gGw ?_
   refine fin1 rfl rfl (fun w' hm=>⟨?_,hm.fr⟩)
   rw [hO,if_pos hk]
  ·refine gGw ?_
   refine fin1 rfl rfl (fun w' hm=>⟨?_,hm.fr⟩)
   rw [hO,hk];rfl
 ·have hO:zdL e c=false:=by rw [zdL,if_neg (by omega),if_neg h2,if_neg h3]
  refine gGw ?_
  refine br_n (br_f rfl ?_)
  refine gGw ?_
  refine fin1 rfl rfl (fun w' hm=>⟨?_,hm.fr⟩)
  rw [hO];rfl
def zcH (e:En):Int:=if e.kind=2 then e.place+2 else if e.kind=3 then e.place*65536+e.len*4+3 else e.kind
theorem zeu:Eng.Enters Tryz.prog 133:=zab fun _ _=>by kernel_rfl
theorem zis:Eng.Enters Tryz.prog 93:=zab fun _ _=>by kernel_rfl
theorem zsz {e:En} {bits:Int} (h:entE e bits=0):(9≤bits∧bits≤16)∧zdL e (clus bits)=true:=by
 unfold entE at h
 split at h
 ·cases h
 ·rename_i h1
  refine⟨by omega,?_⟩
  cases ho:zdL e (clus bits)
  ·rw [ho] at h;simp at h
  ·rfl
theorem zqf (e:En) (bits:Int):entE e bits=0∨entE e bits=2:=by
 unfold entE;split
 ·exact .inr rfl
 ·split<;>simp
theorem zen {e:En} {c:Int} (hc:512≤c∧c≤65536) (h:zdL e c=true):((e.kind=0∨e.kind=1)∧e.place=0∧e.len=0)∨(e.kind=2∧e.len=0∧0<e.place∧e.place≤268435456∧e.place.tmod c=0)∨(e.kind=3∧1≤e.len∧e.len<c∧e.len≤16383∧c≤e.place∧e.place≤268435456-e.len∧e.place.tdiv c=(e.place+e.len-1).tdiv c):=by
 unfold zdL at h
 split at h
 ·rename_i hk
  simp only [Bool.and_eq_true,decide_eq_true_eq] at h
  exact .inl ⟨hk,h⟩
 ·split at h
  ·rename_i hk
   simp only [Bool.and_eq_true,decide_eq_true_eq] at h
   exact .inr (.inl ⟨hk,h.1.1.1,h.1.1.2,h.1.2,h.2⟩)
  ·split at h
   ·rename_i hk
    simp only [Bool.and_eq_true,decide_eq_true_eq] at h
    exact .inr (.inr ⟨hk,h.1.1.1.1.1,h.1.1.1.1.2,h.1.1.1.2,h.1.1.2,h.1.2,h.2⟩)
   ·cases h
theorem mod_8 {bits x:Int} (hb:9≤bits∧bits≤16) (h0:0≤x) (h:x.tmod (clus bits)=0):x%8=0:=by
 rw [Int.tmod_eq_emod_of_nonneg h0] at h
 rcases zg0 hb with ⟨_,e⟩|⟨_,e⟩|⟨_,e⟩|⟨_,e⟩|⟨_,e⟩|⟨_,e⟩|⟨_,e⟩|⟨_,e⟩<;>rw [e] at h<;>omega
theorem zxM {x:Int} (h0:0<x) (h1:x≤268435456) (h:x%8=0):Go.bits .or .u64 2 x=x+2:=by
 rw [bits_join_low .u64 64 (by decide) wraps_u64 2 2 x (by omega) (by omega) (by omega) (by omega) (by omega) (by omega)];omega
theorem zuJ {l x:Int} (hl:1≤l∧l≤16383) (hx:0≤x∧x≤268435456):Go.bits .or .u64 3 (Go.bits .or .u64 (IntKind.u64.wrap (l*2 ^ Int.toNat 2)) (IntKind.u64.wrap (x*2 ^ Int.toNat 16)))=x*65536+l*4+3:=by
 rw [show (2:Int) ^ Int.toNat 2=4 from by decide,show (2:Int) ^ Int.toNat 16=65536 from by decide,wraps_u64 (l*4) (by omega) (by omega),wraps_u64 (x*65536) (by omega) (by omega)]
 rw [bits_join_low .u64 64 (by decide) wraps_u64 16 (l*4) (x*65536) (by omega) (by omega) (by omega) (by omega) (by omega) (by omega)]
 rw [bits_join_low .u64 64 (by decide) wraps_u64 2 3 (l*4+x*65536) (by omega) (by omega) (by omega) (by omega) (by omega) (by omega)]
 omega
theorem zfX (e:En) (bits:Int) (w:World) (hp:-9223372036854775808≤e.place∧e.place≤9223372036854775807) (hl:-9223372036854775808≤e.len∧e.len≤9223372036854775807) :
  Calls Tryz.prog 133 #[e.val,.int .i64 bits] w fun e' w'=>e'=.returned (.tuple #[.int .u64 (if entE e bits=0 then zcH e else 0),.int .i64 (entE e bits)])∧Fr (fun _=>False) w w':=by
 refine enter (cx:=CX 37 [] w) [(0,e.val),(1,.int .i64 bits)] zaa Tryz.func133 rfl rfl rfl rfl (MemOk.nil w _) ?_
 conv=>whnf
 intro b
 refine gGw ?_
 refine⟨ziO,zae _ (fun w' _=>zmq e bits w' hp hl) ?_⟩
 refine gGw ?_
 refine br_n (br_d (fun hok=>?_) (fun hno=>?_))
 ·obtain ⟨hb,hk⟩:=zsz hok
  have hcb:=znH hb
  rw [hok]
  rcases zen ⟨hcb.1,hcb.2.1⟩ hk with ⟨hk,hpl,hln⟩|⟨hk,hln,hp0,hp1,hpm⟩|⟨hk,hl0,hl1,hl2,hp0,hp1,_⟩
  ·refine gGw ?_
   refine br_f (decide_eq_false (by omega)) ?_
   refine gGw ?_
   refine br_f (decide_eq_false (by omega)) ?_
   refine gGw ?_
   refine fin2 rfl rfl rfl (fun w' hm=>⟨?_,hm.fr⟩)
   rw [if_pos rfl,zcH,if_neg (by omega),if_neg (by omega)]
  ·refine gGw ?_
   refine br_t (decide_eq_true hk) ?_
   refine gGw ?_
   refine fin2 rfl rfl rfl (fun w' hm=>⟨?_,hm.fr⟩)
   rw [if_pos rfl,zcH,if_pos hk,hk,zxM hp0 hp1 (mod_8 hb (by omega) hpm)]
  ·refine gGw ?_
   refine br_f (decide_eq_false (by omega)) ?_
   refine gGw ?_
   refine br_t (decide_eq_true hk) ?_
   refine gGw ?_
   refine fin2 rfl rfl rfl (fun w' hm=>⟨?_,hm.fr⟩)
   rw [if_pos rfl,zcH,if_neg (by omega),if_pos hk,hk,zuJ (by omega) (by omega)]
 ·have h2:=(zqf e bits).resolve_left hno
  refine gGw ?_
  refine fin2 rfl rfl rfl (fun w' hm=>⟨?_,hm.fr⟩)
  rw [if_neg hno,h2]
theorem zyn (x:Nat) (h:x<18446744073709551616):x &&& 18446744073709551612=x/4*4:=by
 have e1:x/4*4=(x >>> 2) <<< 2:=by rw [Nat.shiftLeft_eq,Nat.shiftRight_eq_div_pow]
 have e2:(18446744073709551612:Nat)=2 ^ 64-(3+1):=by decide
 rw [e1,e2]
 apply Nat.eq_of_testBit_eq
 intro i
 rw [Nat.testBit_and,Nat.testBit_two_pow_sub_succ (by decide),Nat.testBit_shiftLeft,Nat.testBit_shiftRight]
 by_cases hi:i<2
 ·have:i=0∨i=1:=by omega
  rcases this with rfl|rfl<;>simp [Nat.testBit]
 ·have h3:Nat.testBit 3 i=false:=Nat.testBit_lt_two_pow (by
   have:2 ^ 2≤2 ^ i:=Nat.pow_le_pow_right (by omega) (by omega)
   omega)
  by_cases h64:i<64
  ·rw [h3,show 2+(i-2)=i by omega];simp [h64];omega
  ·have hx:Nat.testBit x i=false:=Nat.testBit_lt_two_pow (by
    have:2 ^ 64≤2 ^ i:=Nat.pow_le_pow_right (by omega) (by omega)
    omega)
   rw [show 2+(i-2)=i by omega,hx];simp
theorem zxp {x:Int} (hx:0≤x∧x<18446744073709551616):Go.bits .andNot .u64 x 3=x-x%4:=by
 rw [u64_andNot x 3 hx.1 hx.2 (by omega) (by omega),show 18446744073709551615-(3:Int).toNat=18446744073709551612 from by decide,zyn _ (by omega)]
 omega
theorem and3 {x:Int} (hx:0≤x∧x<18446744073709551616):Go.bits .and .u64 x 3=x%4:=by
 have:=bits_mask .u64 64 (by decide) wraps_u64 2 (by decide) x hx.1 (by omega)
 simpa using this
theorem and14 {x:Int} (hx:0≤x∧x<18446744073709551616):Go.bits .and .u64 x 16383=x%16384:=by
 have:=bits_mask .u64 64 (by decide) wraps_u64 14 (by decide) x hx.1 (by omega)
 simpa using this
def ofW (w:Int):En:=if w%4=2 then ⟨2,IntKind.i64.wrap (w-w%4),0⟩ else if w%4=3 then ⟨3,w/65536,w/4%16384⟩ else ⟨w%4,0,0⟩
def ofE (w bits:Int):En × Int:=if bits<9∨16<bits then (⟨0,0,0⟩,2) else if entE (ofW w) bits=0∧zcH (ofW w)=w then (ofW w,0) else (⟨0,0,0⟩,190)
set_option maxHeartbeats 2000000 in
theorem zrJ (x bits:Int) (w:World) (hx:0≤x∧x<18446744073709551616) :
  Calls Tryz.prog 93 #[.int .u64 x,.int .i64 bits] w fun e' w'=>e'=.returned (.tuple #[(ofE x bits).1.val,.int .i64 (ofE x bits).2])∧Fr (fun _=>False) w w':=by
 refine enter (cx:=CX 54 [26] w) [(0,.int .u64 x),(1,.int .i64 bits)] zaa Tryz.func93 rfl rfl rfl rfl (MemOk.nil w _) ?_
 conv=>whnf
 intro rB
 refine gGw ?_
 refine br (fun h=>?_) (fun h=>?_)
 ·refine gGw ?_
  simp only [Bool.or_eq_true,decide_eq_true_eq] at h
  refine zbV rfl rfl (ldN zaa (by repeat constructor) rfl rfl rfl rfl) rfl (fun w' hm=>⟨?_,hm.fr⟩)
  rw [ofE,if_pos h];rfl
 ·simp only [Bool.or_eq_false_iff,decide_eq_false_iff_not] at h
  have hbits:9≤bits∧bits≤16:=by omega
  conv=>whnf
  rw [and3 hx]
  have hm4:0≤x%4∧x%4<4:=by omega
  refine gG0 ?_;(repeat ((first|refine .mk fun Ap capp=>?_|intro _);(conv=>whnf);refine gG0 ?_))
  refine br_d (fun h2=>?_) (fun h2=>?_)
  ·have eW:ofW x=⟨x%4,IntKind.i64.wrap (x-x%4),0⟩:=by rw [ofW,if_pos h2,h2]
   have hwr:-9223372036854775808≤IntKind.i64.wrap (x-x%4)∧IntKind.i64.wrap (x-x%4)≤9223372036854775807:=by rw [IntKind.wrap_i64];omega
   conv=>whnf
   rw [zxp hx]
   refine gG0 ?_
   refine⟨zeu,zae _ (fun w' _=>zfX ⟨x%4,IntKind.i64.wrap (x-x%4),0⟩ bits w' (by simp only;omega) (by simp only;omega)) ?_⟩
   rw [← eW]
   refine gGw ?_
   refine br (fun hb=>?_) (fun hb=>?_)
   ·have hno:¬ (entE (ofW x) bits=0∧zcH (ofW x)=x):=by
     rintro ⟨q1,q2⟩
     rw [q1,if_pos rfl,q2] at hb
     simp at hb
    refine gGw ?_
    refine zbV rfl rfl (ldN zaa (by repeat constructor) rfl rfl rfl rfl) rfl (fun w' hm=>⟨?_,hm.fr⟩)
    rw [ofE,if_neg (by omega),if_neg hno];rfl
   ·have hyes:entE (ofW x) bits=0∧zcH (ofW x)=x:=by
     rw [Bool.or_eq_false_iff] at hb
     have q1:entE (ofW x) bits=0:=by simpa using hb.1
     rw [q1,if_pos rfl] at hb
     exact⟨q1,by simpa using hb.2⟩
    refine gGw ?_
    refine zbV rfl rfl (ldN zaa (by repeat constructor) rfl rfl rfl rfl) rfl (fun w' hm=>⟨?_,hm.fr⟩)
    rw [ofE,if_neg (by omega),if_pos hyes,eW];rfl
  ·refine gGw ?_
   refine br_d (fun h3=>?_) (fun h3=>?_)
   ·have eW:ofW x=⟨x%4,x/65536,x/4%16384⟩:=by rw [ofW,if_neg h2,if_pos h3,h3]
    refine gGw ?_
    rw [show (2:Int) ^ Int.toNat 16=65536 from by decide]
    refine gG0 ?_
    rw [show (2:Int) ^ Int.toNat 2=4 from by decide,and14 (by omega)]
    refine gG0 ?_
    refine⟨zeu,zae _ (fun w' _=>zfX ⟨x%4,x/65536,x/4%16384⟩ bits w' (by simp only;omega) (by simp only;omega)) ?_⟩
    rw [← eW]
    refine gGw ?_
    refine br (fun hb=>?_) (fun hb=>?_)
    ·have hno:¬ (entE (ofW x) bits=0∧zcH (ofW x)=x):=by
      rintro ⟨q1,q2⟩
      rw [q1,if_pos rfl,q2] at hb
      simp at hb
     refine gGw ?_
     refine zbV rfl rfl (ldN zaa (by repeat constructor) rfl rfl rfl rfl) rfl (fun w' hm=>⟨?_,hm.fr⟩)
     rw [ofE,if_neg (by omega),if_neg hno];rfl
    ·have hyes:entE (ofW x) bits=0∧zcH (ofW x)=x:=by
      rw [Bool.or_eq_false_iff] at hb
      have q1:entE (ofW x) bits=0:=by simpa using hb.1
      rw [q1,if_pos rfl] at hb
      exact⟨q1,by simpa using hb.2⟩
     refine gGw ?_
     refine zbV rfl rfl (ldN zaa (by repeat constructor) rfl rfl rfl rfl) rfl (fun w' hm=>⟨?_,hm.fr⟩)
     rw [ofE,if_neg (by omega),if_pos hyes,eW];rfl
   ·have eW:ofW x=⟨x%4,0,0⟩:=by rw [ofW,if_neg h2,if_neg h3]
    refine gGw ?_
    refine⟨zeu,zae _ (fun w' _=>zfX ⟨x%4,0,0⟩ bits w' (by simp only;omega) (by simp only;omega)) ?_⟩
    rw [← eW]
    refine gGw ?_
    refine br (fun hb=>?_) (fun hb=>?_)
    ·have hno:¬ (entE (ofW x) bits=0∧zcH (ofW x)=x):=by
      rintro ⟨q1,q2⟩
      rw [q1,if_pos rfl,q2] at hb
      simp at hb
     refine gGw ?_
     refine zbV rfl rfl (ldN zaa (by repeat constructor) rfl rfl rfl rfl) rfl (fun w' hm=>⟨?_,hm.fr⟩)
     rw [ofE,if_neg (by omega),if_neg hno];rfl
    ·have hyes:entE (ofW x) bits=0∧zcH (ofW x)=x:=by
      rw [Bool.or_eq_false_iff] at hb
      have q1:entE (ofW x) bits=0:=by simpa using hb.1
      rw [q1,if_pos rfl] at hb
      exact⟨q1,by simpa using hb.2⟩
     refine gGw ?_
     refine zbV rfl rfl (ldN zaa (by repeat constructor) rfl rfl rfl rfl) rfl (fun w' hm=>⟨?_,hm.fr⟩)
     rw [ofE,if_neg (by omega),if_pos hyes,eW];rfl
end
section
def zlf (U:List UInt8→Int→Bool):Prop:=∀ (A:Option Addr) (c:Nat) (bs:List UInt8) (most:Int) (w:World),BytsIn w A bs→bs.length≤20000000→0≤most∧most≤1048576 →
 Ctr Tryz.prog 95 [.slice A bs.length c,.int .i64 most] [] (fun e m'=>(∃ rA rl rc k no,e=.returned (.tuple #[.slice rA rl rc,.int .i64 k,.int .i64 no])∧U bs most=(!decide (no=0)||!decide (((rl:Nat):Int)=most)))∧m'=[]) w
theorem IntsIn.sub {k:IntKind} {w:World} {A:Option Addr} {xs:List Int} (h:IntsIn k w A xs) (cap lo n:Nat) (hn:lo+n≤xs.length) (hc:xs.length≤cap):IntsIn k w (cutA A cap lo 1) ((xs.drop lo).take n):=by
 intro h0
 rw [List.length_take,List.length_drop] at h0
 obtain ⟨b,o,rfl,hi⟩:=h (by omega)
 have hcut:cutA (some ⟨b,o,none⟩) cap lo 1=some ⟨b,o+lo,none⟩:=by
  unfold cutA
  rw [if_neg (by omega)];rfl
 refine⟨b,o+lo,hcut,fun i hi2=>?_⟩
 rw [List.length_take,List.length_drop] at hi2
 have:=hi (lo+i) (by omega)
 rw [Nat.add_assoc,this]
 congr 2
 rw [List.getD,List.getD,List.getElem?_take,if_pos (by omega),List.getElem?_drop]
theorem BytsIn.sub {w:World} {A:Option Addr} {bs:List UInt8} (h:BytsIn w A bs) (cap lo n:Nat) (hn:lo+n≤bs.length) (hc:bs.length≤cap):BytsIn w (cutA A cap lo 1) ((bs.drop lo).take n):=by
 have:=IntsIn.sub h cap lo n (by rw [zaf];exact hn) (by rw [zaf];exact hc)
 unfold BytsIn
 rw [show zag ((bs.drop lo).take n)=((zag bs).drop lo).take n from by simp [zag,List.map_take,List.map_drop]]
 exact this
def inc (x:Int):Int:=IntKind.i64.wrap (x+1)
def pkB (p:WP) (e:En):List UInt8:=(p.bs.drop e.place.toNat).take e.len.toNat
def zd4 (U:List UInt8→Int→Bool) (p:WP) (s:WS) (at_:Int) (e:En):WS :=
 if e.kind=2 then
  if (runF p s e.place p.c at_ 2).2 then { (runF p s e.place p.c at_ 2).1 with data:=inc (runF p s e.place p.c at_ 2).1.data } else (runF p s e.place p.c at_ 2).1
 else if e.kind=3 then
  if (runF p s (e.place.tdiv p.c*p.c) p.c at_ 3).2 then
   if U (pkB p e) p.c then zcs { (runF p s (e.place.tdiv p.c*p.c) p.c at_ 3).1 with packed:=inc (runF p s (e.place.tdiv p.c*p.c) p.c at_ 3).1.packed } ⟨5,at_,0,0⟩
   else { (runF p s (e.place.tdiv p.c*p.c) p.c at_ 3).1 with packed:=inc (runF p s (e.place.tdiv p.c*p.c) p.c at_ 3).1.packed }
  else (runF p s (e.place.tdiv p.c*p.c) p.c at_ 3).1
 else if e.kind=1 then { s with zero:=inc s.zero } else s
attribute [local irreducible] Br Rn RnU Cl RdG CpG Ld Rd Lp Dr Oth Cut fin Fits Eng.Enters Md NA
theorem zj1:Eng.Enters Tryz.prog 95:=zab fun _ _=>by kernel_rfl
theorem zje:Eng.Enters Tryz.prog 60:=zab fun _ _=>by kernel_rfl
set_option maxHeartbeats 1000000 in
theorem znv (U:List UInt8→Int→Bool) (hU:zlf U) (p:WP) (s:WS) (g:MG) (at_:Int) (e:En) (w:World) (hp:p.Ok) (hcap:p.bs.length≤p.cap) (hg:WOk s g) (hb:BIn p w) (he:zdL e p.c=true) (hm:MemOk w (Foot (WM p s g)) (WM p s g) w) :
  Ctr Tryz.prog 60 [.pointer (some ⟨p.wB,0,none⟩),.int .i64 at_,e.val] (WM p s g) (WR p (.tuple #[]) (zd4 U p s at_ e)) w:=by
 refine enter (cx:=CXS 108 [27,58,104] w (Foot (WM p s g))) [(0,.pointer (some ⟨p.wB,0,none⟩)),(1,.int .i64 at_),(2,e.val)] zaa Tryz.func60 rfl rfl rfl rfl hm ?_
 have hc0:=hp.c0
 have hc1:=hp.c1
 have hlen:=hp.len
 have hef:=zen ⟨hc0,hc1⟩ he
 have hpb:0≤e.place∧e.place≤268435456:=by omega
 conv=>whnf
 intro eB
 refine gGw ?_
 refine br_d (fun h2=>?_) (fun h2=>?_)
 ·have eF:zd4 U p s at_ e=if (runF p s e.place p.c at_ 2).2 then { (runF p s e.place p.c at_ 2).1 with data:=inc (runF p s e.place p.c at_ 2).1.data } else (runF p s e.place p.c at_ 2).1:=by rw [zd4,if_pos h2]
  rw [eF]
  conv=>whnf
  refine za5 (γ:=MG) (Tr.hs [0,1,2,3,4,5,6,7] (.sq [8] .done)) [.blk eB (.cells e.cells.toArray 163),.blk p.wB (.cells (za4 p s).toArray 68)] zaa mixed (by kernel_rfl) rfl (fun g2=>WOk (runF p s e.place p.c at_ 2).1 g2)
   (fun _=>[(21,.bool (runF p s e.place p.c at_ 2).2),(0,.pointer (some ⟨p.wB,0,none⟩))]) (fun g2=>WM p (runF p s e.place p.c at_ 2).1 g2) SubM.sl ?_ ?_
  ·refine gGw ?_
   refine⟨zce,zac (m1:=WM p s g) (by repeat constructor) (fun w' hm'=>zeG p s g e.place p.c at_ 2 w' hp hg (by omega) (by omega) hm'.part) ?_⟩
   rintro e' m' ⟨rfl,g2,hg2,rfl⟩
   conv=>whnf
   refine And.intro (by rw [← zhO p s e.place p.c at_ 2];exact SubM.sl) ?_
   exact⟨g2,hg2,⟨rfl,rfl,trivial⟩,SubM.sl⟩
  ·intro g2 hg2
   conv=>whnf
   refine br (fun hok=>?_) (fun hok=>?_)
   ·rw [if_pos hok]
    refine gGw ?_
    exact fin0 rfl (fun w' hm=>⟨_,⟨rfl,g2,⟨hg2.h,hg2.f⟩,rfl⟩,hm.sl⟩) (.inr rfl)
   ·rw [if_neg (by rw [hok];decide)]
    refine gGw ?_
    exact fin0 rfl (fun w' hm=>⟨_,⟨rfl,g2,hg2,rfl⟩,hm.sl⟩) (.inr rfl)
 refine gGw ?_
 refine br_d (fun h3=>?_) (fun h3=>?_)
 ·obtain ⟨hl1,hl2,hl3,hp0,hp1,hsame⟩:1≤e.len∧e.len<p.c∧e.len≤16383∧p.c≤e.place∧e.place≤268435456-e.len∧e.place.tdiv p.c=(e.place+e.len-1).tdiv p.c:=by
   rcases hef with ⟨hk,_⟩|⟨hk,_⟩|⟨_,h⟩
   ·omega
   ·omega
   ·exact h
  have d1:=zed hc0 (a:=e.place) (by omega)
  have e1:IntKind.i64.wrap (e.place.tdiv p.c)=e.place.tdiv p.c:=IntWalk.i64_in _ (by omega)
  have q0:0≤e.place.tdiv p.c*p.c∧e.place.tdiv p.c*p.c≤e.place∧e.place+e.len≤e.place.tdiv p.c*p.c+p.c:=by
   have h1:e.place.tdiv p.c=e.place/p.c:=Int.tdiv_eq_ediv_of_nonneg (by omega)
   have h2:(e.place+e.len-1).tdiv p.c=(e.place+e.len-1)/p.c:=Int.tdiv_eq_ediv_of_nonneg (by omega)
   have h3:=Int.mul_ediv_add_emod e.place p.c
   have h4:=Int.emod_nonneg e.place (show p.c≠0 by omega)
   have h5:=Int.mul_ediv_add_emod (e.place+e.len-1) p.c
   have h6:=Int.emod_lt_of_pos (e.place+e.len-1) (show 0<p.c by omega)
   have h7:=Int.ediv_nonneg (show 0≤e.place by omega) (show 0≤p.c by omega)
   rw [h1,h2] at hsame
   rw [← hsame] at h5
   rw [h1,Int.mul_comm]
   have h8:=Int.mul_nonneg (show 0≤p.c by omega) h7
   omega
  obtain ⟨Q,hQ⟩:∃ Q,Q=e.place.tdiv p.c*p.c:=⟨_,rfl⟩
  have eF:zd4 U p s at_ e=if (runF p s Q p.c at_ 3).2 then
    if U (pkB p e) p.c then zcs { (runF p s Q p.c at_ 3).1 with packed:=inc (runF p s Q p.c at_ 3).1.packed } ⟨5,at_,0,0⟩
    else { (runF p s Q p.c at_ 3).1 with packed:=inc (runF p s Q p.c at_ 3).1.packed }
   else (runF p s Q p.c at_ 3).1:=by rw [zd4,if_neg h2,if_pos h3,hQ]
  rw [eF]
  rw [← hQ] at q0
  conv=>whnf
  refine za5 (γ:=MG) (Tr.hs [0,1,2,3,4,5,6,7,8,9,10,11,12,13,14,15,16,17] (.sq [18] (.hs [19] .done))) [.blk eB (.cells e.cells.toArray 163),.blk p.wB (.cells (za4 p s).toArray 68)] zaa mixed (by kernel_rfl) rfl (fun g2=>WOk (runF p s Q p.c at_ 3).1 g2)
   (fun _=>[(52,.bool (!(runF p s Q p.c at_ 3).2)),(0,.pointer (some ⟨p.wB,0,none⟩)),(1,.int .i64 at_),(5,.pointer (some ⟨eB,0,none⟩)),(10,.int .i64 e.kind)]) (fun g2=>.blk eB (.cells e.cells.toArray 163)::WM p (runF p s Q p.c at_ 3).1 g2) SubM.sl ?_ ?_
  ·conv=>whnf
   (repeat ((first|refine And.intro (zaB (by rw [e1];omega)) ?_|refine gG1 ?_|refine .mk fun Ap capp=>?_|intro _);conv=>whnf))
   rw [e1,← hQ]
   refine⟨zce,zac (m1:=WM p s g) (by repeat constructor) (fun w' hm'=>zeG p s g Q p.c at_ 3 w' hp hg (by omega) (by omega) hm'.part) ?_⟩
   rintro e' m' ⟨rfl,g2,hg2,rfl⟩
   conv=>whnf
   refine And.intro (by rw [← zhO p s Q p.c at_ 3];exact SubM.sl) ?_
   refine gGw ?_
   exact⟨g2,hg2,⟨rfl,rfl,rfl,rfl,rfl,trivial⟩,SubM.sl⟩
  ·intro g2 hg2
   have hsn:=zeg p s Q p.c at_ 3
   generalize runF p s Q p.c at_ 3=r at hg2 hsn ⊢
   obtain ⟨s1,ok⟩:=r
   simp only at hg2 hsn ⊢
   conv=>whnf
   refine br_n (br (fun hok=>?_) (fun hok=>?_))
   ·have hle:=zaF hp (hsn.symm.trans hok)
    rw [if_pos hok]
    refine gGw ?_
    have hpk:(pkB p e).length=e.len.toNat:=by unfold pkB;rw [List.length_take,List.length_drop];omega
    have hpl:Pl p.A:=(BytsIn.byts (cx:=CX 0 [] w) (m:=[]) (hb w (Fr.refl _ _)) (fun _ h=>h)).plain (by omega)
    refine za5 (γ:=Option Addr × Nat × Nat × Int) (Tr.hs [0,1,2,3,4,5,6,7,8,9,10,11,12,13,14,15] (.sq [16] (.hs [17,18,19,20,21,22,23] .done))) [.blk eB (.cells e.cells.toArray 163),.blk p.wB (.cells (za4 p { s1 with packed:=inc s1.packed }).toArray 68)] zaa mixed (by kernel_rfl) rfl
     (fun r=>U (pkB p e) p.c=(!decide (r.2.2.2=0)||!decide (((r.2.1:Nat):Int)=p.c)))
     (fun r=>[(6,.slice r.1 r.2.1 r.2.2.1),(8,.int .i64 r.2.2.2),(0,.pointer (some ⟨p.wB,0,none⟩)),(1,.int .i64 at_)]) (fun _=>WM p { s1 with packed:=inc s1.packed } g2) SubM.sl ?_ ?_
    ·refine gGw ?_
     refine And.intro ⟨by omega,by omega,by omega,.inr hpl⟩ ?_
     refine gGw ?_
     rw [show (e.place+e.len).toNat-e.place.toNat=(pkB p e).length by omega]
     refine⟨zj1,zac (m1:=[]) .nil (fun w' hm'=>hU _ _ (pkB p e) p.c w' ?_ (by omega) (by omega)) ?_⟩
     ·exact BytsIn.sub (hb w' (by rw [zbZ] at hm';exact hm'.fr)) p.cap e.place.toNat e.len.toNat (by omega) hcap
     rintro e' m' ⟨⟨rA,rl,rc,kk,no,rfl,hbad⟩,rfl⟩
     refine gGt ?_
     exact⟨(rA,rl,rc,no),hbad,⟨rfl,rfl,rfl,rfl,trivial⟩,SubM.sl⟩
    ·rintro ⟨rA,rl,rc,no⟩ hbad
     simp only at hbad
     refine gGw ?_
     refine br (fun hbd=>?_) (fun hbd=>?_)
     ·rw [if_pos (hbad.trans hbd)]
      refine gGw ?_
      refine⟨zdj,zac (m1:=WM p { s1 with packed:=inc s1.packed } g2) (by repeat constructor) (fun w' hm'=>zgt p _ g2 5 at_ w' ⟨hg2.h,hg2.f⟩ hm'.part) ?_⟩
      rintro e' m' ⟨rfl,g3,hg3,rfl⟩
      refine gGw ?_
      exact fin0 rfl (fun w' hm=>⟨_,⟨rfl,g3,hg3,rfl⟩,hm.sl⟩) (.inr rfl)
     ·rw [if_neg (by rw [hbad,hbd];decide)]
      refine gGw ?_
      exact fin0 rfl (fun w' hm=>⟨_,⟨rfl,g2,⟨hg2.h,hg2.f⟩,rfl⟩,hm.sl⟩) (.inr rfl)
   ·rw [if_neg (by rw [hok];decide)]
    refine gGw ?_
    exact fin0 rfl (fun w' hm=>⟨_,⟨rfl,g2,hg2,rfl⟩,hm.sl⟩) (.inl rfl)
 refine gGw ?_
 refine br_d (fun h1=>?_) (fun h1=>?_)
 ·have eF:zd4 U p s at_ e={ s with zero:=inc s.zero }:=by rw [zd4,if_neg h2,if_neg h3,if_pos h1]
  rw [eF]
  refine gGw ?_
  exact fin0 rfl (fun w' hm=>⟨_,⟨rfl,g,⟨hg.h,hg.f⟩,rfl⟩,hm.sl⟩) (.inr rfl)
 ·have eF:zd4 U p s at_ e=s:=by rw [zd4,if_neg h2,if_neg h3,if_neg h1]
  rw [eF]
  refine gGw ?_
  exact fin0 rfl (fun w' hm=>⟨_,⟨rfl,g,hg,rfl⟩,hm.sl⟩) (.inr rfl)
end
section
theorem zrM {x bits:Int} (h:(ofE x bits).2=0):zdL (ofE x bits).1 (clus bits)=true:=by
 unfold ofE at h ⊢
 split at h
 ·cases h
 ·rename_i h1
  split at h
  ·rename_i h2
   rw [if_neg h1,if_pos h2]
   exact (zsz h2.1).2
  ·cases h
def zjQ (U:List UInt8→Int→Bool) (p:WP) (s:WS) (at_:Int):WS :=
 if (ofE (zaz p at_) p.h.bits).2=0 then zd4 U p s at_ (ofE (zaz p at_) p.h.bits).1 else zcs s ⟨2,at_,0,0⟩
def l2F (U:List UInt8→Int→Bool) (p:WP) (s:WS) (t:Int):Nat→WS
 | 0=>s
 | k+1=>zjQ U p (l2F U p s t k) (t+8*k)
def l1F (U:List UInt8→Int→Bool) (p:WP) (s:WS) (at_:Int):WS :=
 if zaz p at_=0 then s
 else if (runF p s (zaY (zaz p at_)) p.c at_ 1).2 then l2F U p (runF p s (zaY (zaz p at_)) p.c at_ 1).1 (zaY (zaz p at_)) (p.c/8).toNat
 else (runF p s (zaY (zaz p at_)) p.c at_ 1).1
def zdo (U:List UInt8→Int→Bool) (p:WP) (s:WS) (l1:Int):Nat→WS
 | 0=>s
 | i+1=>l1F U p (zdo U p s l1 i) (l1+8*i)
def zi1 (U:List UInt8→Int→Bool) (p:WP) (s:WS) (l1 long stands:Int):WS :=
 if long=0 then s
 else if (runF p s l1 (8*long) stands 0).2 then zdo U p (runF p s l1 (8*long) stands 0).1 l1 long.toNat
 else (runF p s l1 (8*long) stands 0).1
abbrev zr3 (p:WP):Value:=.func (.func 60) #[.pointer (some ⟨p.wB,0,none⟩)] #[]
attribute [local irreducible] Br Rn RnU Cl RdG CpG Ld Rd Lp Dr Oth Cut fin Fits Eng.Enters Md NA
theorem zhW:Eng.Enters Tryz.prog 59:=zab fun _ _=>by kernel_rfl
set_option maxHeartbeats 2000000 in
theorem zn0 (U:List UInt8→Int→Bool) (hU:zlf U) (p:WP) (s:WS) (g:MG) (l1 long stands:Int) (w:World) (hp:p.Ok) (hbits:9≤p.h.bits∧p.h.bits≤16) (hcb:p.c=clus p.h.bits) (hcap:p.bs.length≤p.cap) (hg:WOk s g) (hb:BIn p w)
  (h1:0≤l1∧l1≤4611686018427387904) (h2:0≤long∧long≤4611686018427387) (hm:MemOk w (Foot (WM p s g)) (WM p s g) w) :
  Ctr Tryz.prog 59 [.pointer (some ⟨p.wB,0,none⟩),.int .i64 l1,.int .i64 long,.int .i64 stands,zr3 p] (WM p s g) (WR p (.tuple #[]) (zi1 U p s l1 long stands)) w:=by
 refine enter (cx:=CXS 92 [] w (Foot (WM p s g))) [(0,.pointer (some ⟨p.wB,0,none⟩)),(1,.int .i64 l1),(2,.int .i64 long),(3,.int .i64 stands),(4,zr3 p)] zaa Tryz.func59 rfl rfl rfl rfl hm ?_
 have hc0:=hp.c0
 have hc1:=hp.c1
 have hc8:=hp.c8
 have hlen:=hp.len
 conv=>whnf
 refine zdd zaa ?_
 refine gGw ?_
 refine br_d (fun hz=>?_) (fun hnz=>?_)
 ·refine gGw ?_
  refine br_t rfl ?_
  refine gGw ?_
  rw [show zi1 U p s l1 long stands=s from by rw [zi1,if_pos hz]]
  exact fin0 rfl (fun w' hm=>⟨_,⟨rfl,g,hg,rfl⟩,hm⟩) (by first|exact .inl rfl|exact .inr rfl)
 have eT:zi1 U p s l1 long stands=if (runF p s l1 (8*long) stands 0).2 then zdo U p (runF p s l1 (8*long) stands 0).1 l1 long.toNat else (runF p s l1 (8*long) stands 0).1:=by rw [zi1,if_neg hnz]
 rw [eT]
 clear eT
 refine gGw ?_
 refine⟨zce,zac (m1:=WM p s g) (by repeat constructor) (fun w' hm'=>zeG p s g l1 (8*long) stands 0 w' hp hg (by omega) (by omega) hm'.part) ?_⟩
 have hsn:=zeg p s l1 (8*long) stands 0
 generalize runF p s l1 (8*long) stands 0=r at hsn ⊢
 obtain ⟨s1,ok⟩:=r
 rintro e m' ⟨rfl,g1,hg1,rfl⟩
 simp only at hg1 hsn ⊢
 refine gGw ?_
 refine br_n (br (fun hok=>?_) (fun hok=>?_))
 ·have hle:=zaF hp (hsn.symm.trans hok)
  rw [if_pos hok]
  refine gGw ?_
  refine lp zaa (γ:=Nat × MG) (fun q=>(q.1:Int)≤long∧WOk (zdo U p s1 l1 q.1) q.2)
   (fun q=>[(29,.int .i64 (q.1:Int)),(28,.int .i64 long),(0,.pointer (some ⟨p.wB,0,none⟩)),(1,.int .i64 l1),(4,zr3 p)]) (fun q=>WM p (zdo U p s1 l1 q.1) q.2) (fun q=>long.toNat-q.1) (0,g1) ⟨by simp only;omega,hg1⟩ ⟨rfl,rfl,rfl,rfl,rfl,trivial⟩ SubM.sl ?_
  rintro ⟨i,g2⟩ ⟨hi,hg2⟩
  simp only at hi hg2
  dsimp only
  conv=>whnf
  refine br_d (fun hlt=>?_) (fun hge=>?_)
  ·refine gGw ?_
   refine⟨zc9,zac (m1:=WM p (zdo U p s1 l1 i) g2) (by repeat constructor) (fun w' hm'=>zf0 p _ g2 (l1+8*i) w' hp (hb.fr (by rw [zbZ] at hm';exact hm'.fr)) (by omega) hm'.part) ?_⟩
   rintro e m' ⟨rfl,rfl⟩
   have ew:((getV p.bs (l1+8*(i:Int)).toNat 8:Nat):Int)=zaz p (l1+8*i):=rfl
   rw [ew]
   have hwb:=zd8 p (l1+8*i)
   have hpb:=zir hwb.1
   refine gGw ?_
   refine br_d (fun hz=>?_) (fun hnz=>?_)
   ·have e:zdo U p s1 l1 (i+1)=zdo U p s1 l1 i:=by show l1F U p _ _=_;rw [l1F,if_pos hz]
    refine gGw ?_
    refine⟨(i+1,g2),⟨by simp only;omega,?_⟩,by simp only;omega,⟨rfl,rfl,rfl,rfl,rfl,trivial⟩,?_⟩
    ·show WOk (zdo U p s1 l1 (i+1)) g2
     rw [e];exact hg2
    ·show SubM _ _ (WM p (zdo U p s1 l1 (i+1)) g2)
     rw [e];exact SubM.sl
   ·refine gGw ?_
    refine⟨zeM,zae _ (fun w' hm'=>ziq _ w' hwb.1) ?_⟩
    refine gGw ?_
    obtain ⟨t,ht⟩:∃ t,t=zaY (zaz p (l1+8*(i:Int))):=⟨_,rfl⟩
    have e:zdo U p s1 l1 (i+1)=if (runF p (zdo U p s1 l1 i) t p.c (l1+8*i) 1).2 then l2F U p (runF p (zdo U p s1 l1 i) t p.c (l1+8*i) 1).1 t (p.c/8).toNat else (runF p (zdo U p s1 l1 i) t p.c (l1+8*i) 1).1:=by
     show l1F U p _ _=_
     rw [l1F,if_neg hnz,ht]
    rw [← ht] at hpb ⊢
    clear ht
    refine⟨zce,zac (m1:=WM p (zdo U p s1 l1 i) g2) (by repeat constructor) (fun w' hm'=>zeG p _ g2 t p.c (l1+8*i) 1 w' hp hg2 (by omega) (by omega) hm'.part) ?_⟩
    have hsn2:=zeg p (zdo U p s1 l1 i) t p.c (l1+8*i) 1
    generalize runF p (zdo U p s1 l1 i) t p.c (l1+8*i) 1=r2 at hsn2 e ⊢
    obtain ⟨s2,ok2⟩:=r2
    rintro e' m' ⟨rfl,g3,hg3,rfl⟩
    simp only at hg3 hsn2 e ⊢
    refine gGw ?_
    refine br_n (br (fun hok2=>?_) (fun hok2=>?_))
    ·have hle2:=zaF hp (hsn2.symm.trans hok2)
     rw [if_pos hok2] at e
     have ec8:IntKind.i64.wrap (p.c.tdiv 8)=p.c/8:=by rw [Int.tdiv_eq_ediv_of_nonneg (by omega)];exact IntWalk.i64_in _ (by omega)
     refine gGw ?_
     rw [ec8]
     refine lp zaa (γ:=Nat × MG) (fun q=>(q.1:Int)≤p.c/8∧WOk (l2F U p s2 t q.1) q.2)
      (fun q=>[(57,.int .i64 (q.1:Int)),(56,.int .i64 (p.c/8)),(13,.int .i64 t),(29,.int .i64 (i:Int)),(28,.int .i64 long),(0,.pointer (some ⟨p.wB,0,none⟩)),(1,.int .i64 l1),(4,zr3 p)]) (fun q=>WM p (l2F U p s2 t q.1) q.2) (fun q=>(p.c/8).toNat-q.1) (0,g3) ⟨by simp only;omega,hg3⟩ ⟨rfl,rfl,rfl,rfl,rfl,rfl,rfl,rfl,trivial⟩ SubM.sl ?_
     rintro ⟨k,g4⟩ ⟨hk,hg4⟩
     simp only at hk hg4
     dsimp only
     conv=>whnf
     refine br_d (fun hlt2=>?_) (fun hge2=>?_)
     ·refine gGw ?_
      have hwb2:=zd8 p (t+8*k)
      have eN:l2F U p s2 t (k+1)=zjQ U p (l2F U p s2 t k) (t+8*k):=rfl
      refine za5 (γ:=Nat) (Tr.hs [0,1,2,3,4,6,7,8,9,10] (.alts 5 (.alts 11 (.hs [12,13,14] (.sq [15,16] (.hs [17] .done))) (.alts 15 (.sq [11] (.hs [12,13,14] (.sq [16] (.hs [17] .done)))) .stop)) (.alts 15 (.sq [5,11] (.hs [12,13,14] (.sq [16] (.hs [17] .done)))) .stop))) [.blk p.wB (.cells (za4 p (l2F U p s2 t k)).toArray 68)] zaa mixed (by kernel_rfl) rfl (fun _=>True)
       (fun eB=>[(15,.pointer (some ⟨eB,0,none⟩)),(16,.int .i64 (ofE (zaz p (t+8*k)) p.h.bits).2),(14,.int .i64 (k:Int)),(57,.int .i64 (k:Int)),(56,.int .i64 (p.c/8)),(13,.int .i64 t),(29,.int .i64 (i:Int)),(28,.int .i64 long),(0,.pointer (some ⟨p.wB,0,none⟩)),(1,.int .i64 l1),(4,zr3 p)])
       (fun eB=>.blk eB (.cells (ofE (zaz p (t+8*k)) p.h.bits).1.cells.toArray 163)::WM p (l2F U p s2 t k) g4) SubM.sl ?_ ?_
      ·refine gGw ?_
       refine⟨?_,?_⟩
       ·skip
        refine⟨zc9,zac (m1:=WM p (l2F U p s2 t k) g4) (by repeat constructor) (fun w' hm'=>zf0 p _ g4 (t+8*k) w' hp (hb.fr (by rw [zbZ] at hm';exact hm'.fr)) (by omega) hm'.part) ?_⟩
        rintro e' m' ⟨rfl,rfl⟩
        rw [show ((getV p.bs (t+8*(k:Int)).toNat 8:Nat):Int)=zaz p (t+8*k) from rfl]
        refine gGt ?_
        refine⟨?_,?_⟩
        ·skip
         refine⟨zis,zae _ (fun w' _=>zrJ (zaz p (t+8*k)) p.h.bits w' hwb2) ?_⟩
         refine gGt ?_;(repeat ((first|refine .mk fun Ap capp=>?_|intro _);(conv=>whnf);refine gGS ?_))
         exact⟨_,trivial,⟨rfl,rfl,rfl,rfl,rfl,rfl,rfl,rfl,rfl,rfl,rfl,trivial⟩,SubM.sl⟩
        conv=>whnf
        refine⟨?_,trivial⟩
        intro eB
        refine gGt ?_
        refine⟨zis,zae _ (fun w' _=>zrJ (zaz p (t+8*k)) p.h.bits w' hwb2) ?_⟩
        refine gGt ?_
        exact⟨_,trivial,⟨rfl,rfl,rfl,rfl,rfl,rfl,rfl,rfl,rfl,rfl,rfl,trivial⟩,SubM.sl⟩
       conv=>whnf
       refine⟨?_,trivial⟩
       intro eB
       refine gGt ?_
       refine⟨zc9,zac (m1:=WM p (l2F U p s2 t k) g4) (by repeat constructor) (fun w' hm'=>zf0 p _ g4 (t+8*k) w' hp (hb.fr (by rw [zbZ] at hm';exact hm'.fr)) (by omega) hm'.part) ?_⟩
       rintro e' m' ⟨rfl,rfl⟩
       rw [show ((getV p.bs (t+8*(k:Int)).toNat 8:Nat):Int)=zaz p (t+8*k) from rfl]
       refine gGt ?_
       refine⟨zis,zae _ (fun w' _=>zrJ (zaz p (t+8*k)) p.h.bits w' hwb2) ?_⟩
       refine gGt ?_
       exact⟨_,trivial,⟨rfl,rfl,rfl,rfl,rfl,rfl,rfl,rfl,rfl,rfl,rfl,trivial⟩,SubM.sl⟩
      ·intro eB _
       refine gGw ?_
       refine br_n (br_d (fun ho=>?_) (fun hno=>?_))
       ·have eE:l2F U p s2 t (k+1)=zd4 U p (l2F U p s2 t k) (t+8*k) (ofE (zaz p (t+8*k)) p.h.bits).1:=by rw [eN,zjQ,if_pos ho]
        refine gGw ?_
        refine⟨zje,zac (m1:=WM p (l2F U p s2 t k) g4) (by repeat constructor) (fun w' hm'=>znv U hU p _ g4 (t+8*k) _ w' hp hcap hg4 (hb.fr (by rw [zbZ] at hm';exact hm'.fr)) (by rw [hcb];exact zrM ho) hm'.part) ?_⟩
        rintro e' m' ⟨rfl,g5,hg5,rfl⟩
        refine gGw ?_
        refine⟨(k+1,g5),⟨by simp only;omega,?_⟩,by simp only;omega,⟨rfl,rfl,rfl,rfl,rfl,rfl,rfl,rfl,trivial⟩,?_⟩
        ·show WOk (l2F U p s2 t (k+1)) g5
         rw [eE];exact hg5
        ·show SubM _ _ (WM p (l2F U p s2 t (k+1)) g5)
         rw [eE];exact SubM.sl
       ·have eE:l2F U p s2 t (k+1)=zcs (l2F U p s2 t k) ⟨2,t+8*k,0,0⟩:=by rw [eN,zjQ,if_neg hno]
        refine gGw ?_
        refine⟨zdj,zac (m1:=WM p (l2F U p s2 t k) g4) (by repeat constructor) (fun w' hm'=>zgt p _ g4 2 (t+8*k) w' hg4 hm'.part) ?_⟩
        rintro e' m' ⟨rfl,g5,hg5,rfl⟩
        refine gGw ?_
        refine⟨(k+1,g5),⟨by simp only;omega,?_⟩,by simp only;omega,⟨rfl,rfl,rfl,rfl,rfl,rfl,rfl,rfl,trivial⟩,?_⟩
        ·show WOk (l2F U p s2 t (k+1)) g5
         rw [eE];exact hg5
        ·show SubM _ _ (WM p (l2F U p s2 t (k+1)) g5)
         rw [eE];exact SubM.sl
     ·have hke:k=(p.c/8).toNat:=by omega
      subst hke
      refine gGw ?_
      refine⟨(i+1,g4),⟨by simp only;omega,?_⟩,by simp only;omega,⟨rfl,rfl,rfl,rfl,rfl,trivial⟩,?_⟩
      ·show WOk (zdo U p s1 l1 (i+1)) g4
       rw [e];exact hg4
      ·show SubM _ _ (WM p (zdo U p s1 l1 (i+1)) g4)
       rw [e];exact SubM.sl
    ·rw [if_neg (by rw [hok2];decide)] at e
     refine gGw ?_
     refine⟨(i+1,g3),⟨by simp only;omega,?_⟩,by simp only;omega,⟨rfl,rfl,rfl,rfl,rfl,trivial⟩,?_⟩
     ·show WOk (zdo U p s1 l1 (i+1)) g3
      rw [e];exact hg3
     ·show SubM _ _ (WM p (zdo U p s1 l1 (i+1)) g3)
      rw [e];exact SubM.sl
  ·have hie:i=long.toNat:=by omega
   subst hie
   refine gGw ?_
   exact fin0 rfl (fun w' hm=>⟨_,⟨rfl,g2,hg2,rfl⟩,hm⟩) (by first|exact .inl rfl|exact .inr rfl)
 ·rw [if_neg (by rw [hok];decide)]
  refine gGw ?_
  exact fin0 rfl (fun w' hm=>⟨_,⟨rfl,g1,hg1,rfl⟩,hm.sl⟩) (by first|exact .inl rfl|exact .inr rfl)
end
section
structure Snp where
 name:ByteArray
 l1:Int
 l1len:Int
 size:Int
structure Rwp where
 name:ByteArray
 gran:Int
 flags:Int
 at_:Int
 len:Int
def Snp.cells (x:Snp):List Value:=[.string x.name,.int .i64 x.l1,.int .i64 x.l1len,.int .i64 x.size]
def Rwp.cells (x:Rwp):List Value:=[.string x.name,.int .i64 x.gran,.int .i64 x.flags,.int .i64 x.at_,.int .i64 x.len]
theorem zem {α:Type} {f:α→List Value} {n:Nat} (hf:∀ x,(f x).length=n):∀ {L:List α} {i:Nat} {x:α},L[i]?=some x→∀ {j:Nat} {v:Value},(f x)[j]?=some v→(L.flatMap f)[i*n+j]?=some v
 | [],_,_,h,_,_,_=>by simp at h
 | y::L,0,x,h,j,v,hv=>by
  simp only [List.getElem?_cons_zero,Option.some.injEq] at h
  subst h
  have hj:=(List.getElem?_eq_some_iff.1 hv).1
  rw [List.flatMap_cons,Nat.zero_mul,Nat.zero_add,List.getElem?_append_left hj,hv]
 | y::L,i+1,x,h,j,v,hv=>by
  have h1:=zem hf (L:=L) (i:=i) (by simpa using h) hv
  have h2:(i+1)*n+j=(f y).length+(i*n+j):=by rw [hf,Nat.succ_mul];omega
  rw [List.flatMap_cons,h2,List.getElem?_append_right (by omega),Nat.add_sub_cancel_left]
  exact h1
theorem zrY {cx:Cx} (ht:TabOk cx.P cx.tab) {m:Mem} {A:Option Addr} {cap n t:Nat} {ti:TyI} {fs:List (Nat × Nat)} {α:Type} {f:α→List Value} {k:Nat} {L:List α} (hh:Has m (.row A cap n t k (L.flatMap f))) (h0:0<k) (hf:∀ x,(f x).length=k) (hi:cx.tab.get t=some ti) (hk:ti.kind=.struct fs) (hc:ti.cells=k) {i:Nat} {x:α} (hx:L[i]?=some x) :
  Ld cx m t (.pointer (pl A (mulC i k))) (.agg (f x).toArray):=by
 intro w hm
 have hr:=hm.ok _ hh.mem
 have hex:∃ b,A=some ⟨b,0,none⟩:=by
  obtain ⟨b,e,_⟩:=zaQ hr (zem hf hx (List.getElem?_eq_getElem (show 0<(f x).length by rw [hf];exact h0)))
  exact⟨b,e⟩
 obtain ⟨b,rfl⟩:=hex
 refine zh9 (ht _ _ hi) hk (by rw [hf,hc]) fun j v hj=>?_
 obtain ⟨b',e,hcell⟩:=zaQ hr (zem hf hx hj)
 injection e with e;injection e with e;subst e
 rw [Addr.add_lit,zcp]
 simpa using hcell
theorem Eng.Ctr.ex {P:Program} {f:Nat} {args:List Value} {m:Mem} {R:Ending→Mem→Prop} {w:World} (h:Ctr P f args m R w):Ctr P f args m (fun e m'=>R e m'∧∃ w',∀ r∈m',r.ok w') w :=
 Calls.mono h fun _ w' ⟨m',hr,hm⟩=>⟨m',⟨hr,w',hm.ok⟩,hm⟩
theorem zft {A:Option Addr} {cap n t size:Nat} {xs:List Value} {w:World} (h:(Res.row A cap n t size xs).ok w) (hn:0<xs.length):Pl A:=by
 obtain ⟨b,rfl,_⟩:=zaQ h (List.getElem?_eq_getElem hn)
 exact Pl.mk _ _
theorem zhI {α:Type} {f:α→List Value} {n:Nat} (hf:∀ x,(f x).length=n):∀ L:List α,(L.flatMap f).length=L.length*n
 | []=>by simp
 | x::L=>by rw [List.flatMap_cons,List.length_append,zhI hf L,hf,List.length_cons,Nat.succ_mul];omega
structure Snp.Ok (x:Snp):Prop where
 l1:0≤x.l1∧x.l1≤4611686018427387904
 ln:0≤x.l1len∧x.l1len≤1048576
structure Rwp.Ok (x:Rwp):Prop where
 at_:0≤x.at_∧x.at_≤4611686018427387904
 ln:0≤x.len∧x.len≤16777216
def zvV (S:Int→List UInt8→Int→Option (List Snp)):Prop:=∀ (A:Option Addr) (c:Nat) (bs:List UInt8) (bits n:Int) (w:World),BytsIn w A bs→bs.length≤20000000→bs.length≤c→9≤bits∧bits≤16→0≤n∧n≤64 →
 (∀ l,S bits bs n=some l→(∀ x∈l,x.Ok)∧l.length≤64) ∧
 Ctr Tryz.prog 97 [.int .i64 bits,.slice A bs.length c,.int .i64 n] [] (fun e m'=>(S bits bs n=none∧(∃ no,no≠0∧e=.returned (.tuple #[.slice none 0 0,.int .i64 no]))∧m'=[]) ∨
  ∃ l lA lc,S bits bs n=some l∧e=.returned (.tuple #[.slice lA l.length lc,.int .i64 0])∧m'=[.row lA lc l.length 175 4 (l.flatMap Snp.cells)]) w
def zys (S:Int→List UInt8→Int→Option (List Rwp)):Prop:=∀ (A:Option Addr) (c:Nat) (bs:List UInt8) (bits n:Int) (w:World),BytsIn w A bs→bs.length≤20000000→bs.length≤c→9≤bits∧bits≤16→0≤n∧n≤64 →
 (∀ l,S bits bs n=some l→(∀ x∈l,x.Ok)∧l.length≤64) ∧
 Ctr Tryz.prog 98 [.int .i64 bits,.slice A bs.length c,.int .i64 n] [] (fun e m'=>(S bits bs n=none∧(∃ no,no≠0∧e=.returned (.tuple #[.slice none 0 0,.int .i64 no]))∧m'=[]) ∨
  ∃ l lA lc,S bits bs n=some l∧e=.returned (.tuple #[.slice lA l.length lc,.int .i64 0])∧m'=[.row lA lc l.length 180 5 (l.flatMap Rwp.cells)]) w
def liB (p:WP) (at_ long:Int):List UInt8:=(p.bs.drop at_.toNat).take long.toNat
attribute [local irreducible] Br Rn RnU Cl RdG CpG Ld Rd Lp Dr Oth Cut fin Fits Eng.Enters Md NA
theorem ziz:Eng.Enters Tryz.prog 96:=zab fun _ _=>by kernel_rfl
theorem zoC (p:WP) (s:WS) (g:MG) (at_ long stands:Int) (w:World) (hp:p.Ok) (hcap:p.bs.length≤p.cap) (hg:WOk s g) (hb:BIn p w) (ha:0≤at_∧at_≤4611686018427387904) (hl:0≤long∧long≤65536) (hm:MemOk w (Foot (WM p s g)) (WM p s g) w) :
  Ctr Tryz.prog 96 [.pointer (some ⟨p.wB,0,none⟩),.int .i64 at_,.int .i64 long,.int .i64 stands] (WM p s g)
   (fun e m'=>(((runF p s at_ long stands 0).2=false∧e=.returned (.tuple #[.slice none 0 0,.bool false]))∨((runF p s at_ long stands 0).2=true∧e=.returned (.tuple #[.slice (cutA p.A p.cap at_.toNat 1) (liB p at_ long).length (p.cap-at_.toNat),.bool true])))∧∃ g',WOk (runF p s at_ long stands 0).1 g'∧m'=WM p (runF p s at_ long stands 0).1 g') w:=by
 refine enter (cx:=CXS 25 [] w (Foot (WM p s g))) [(0,.pointer (some ⟨p.wB,0,none⟩)),(1,.int .i64 at_),(2,.int .i64 long),(3,.int .i64 stands)] zaa Tryz.func96 rfl rfl rfl rfl hm ?_
 have hlen:=hp.len
 have hc0:=hp.c0
 refine gGw ?_
 refine⟨zce,zac (m1:=WM p s g) (by repeat constructor) (fun w' hm'=>zeG p s g at_ long stands 0 w' hp hg (by omega) (by omega) hm'.part) ?_⟩
 have hsn:=zeg p s at_ long stands 0
 generalize runF p s at_ long stands 0=r at hsn ⊢
 obtain ⟨s1,ok⟩:=r
 rintro e m' ⟨rfl,g1,hg1,rfl⟩
 simp only at hg1 hsn ⊢
 refine gGw ?_
 refine br_n (br (fun hok=>?_) (fun hok=>?_))
 ·have hle:=zaF hp (hsn.symm.trans hok)
  have hpl:Pl p.A:=(BytsIn.byts (cx:=CX 0 [] w) (m:=[]) (hb w (Fr.refl _ _)) (fun _ h=>h)).plain (by omega)
  have hlb:(liB p at_ long).length=long.toNat:=by unfold liB;rw [List.length_take,List.length_drop];omega
  refine gGw ?_
  refine And.intro ⟨by omega,by omega,by omega,.inr hpl⟩ ?_
  refine gGw ?_
  rw [show (at_+long).toNat-at_.toNat=(liB p at_ long).length by omega]
  exact fin2 rfl rfl rfl (fun w' hm=>⟨_,⟨.inr ⟨hok,rfl⟩,g1,hg1,rfl⟩,hm.sl⟩)
 ·refine gGw ?_
  exact fin2 rfl rfl rfl (fun w' hm=>⟨_,⟨.inl ⟨hok,rfl⟩,g1,hg1,rfl⟩,hm.sl⟩)
end
section
structure HL (h:Hd):Prop where
 sn:0≤h.snaps∧h.snaps≤64
 sa:0≤h.snapsAt∧h.snapsAt≤268435456
 sl:0≤h.snapsLen∧h.snapsLen≤65536
 bn:0≤h.bitmaps∧h.bitmaps≤64
 ba:0≤h.bitmapsAt∧h.bitmapsAt≤268435456
 bl:0≤h.bitmapsLen∧h.bitmapsLen≤65536
def zeC (U:List UInt8→Int→Bool) (p:WP) (s:WS) (l:List Snp):WS:=l.foldl (fun s x=>zi1 U p s x.l1 x.l1len p.h.snapsAt) s
def zhg (U:List UInt8→Int→Bool) (S:Int→List UInt8→Int→Option (List Snp)) (p:WP) (s:WS):WS :=
 if p.h.snaps=0 then s
 else if (runF p s p.h.snapsAt p.h.snapsLen 56 0).2 then
  match S p.h.bits (liB p p.h.snapsAt p.h.snapsLen) p.h.snaps with
  | none=>zcs (runF p s p.h.snapsAt p.h.snapsLen 56 0).1 ⟨3,p.h.snapsAt,0,0⟩
  | some l=>{ zeC U p (runF p s p.h.snapsAt p.h.snapsLen 56 0).1 l with data:=(runF p s p.h.snapsAt p.h.snapsLen 56 0).1.data,packed:=(runF p s p.h.snapsAt p.h.snapsLen 56 0).1.packed,zero:=(runF p s p.h.snapsAt p.h.snapsLen 56 0).1.zero }
 else (runF p s p.h.snapsAt p.h.snapsLen 56 0).1
attribute [local irreducible] Br Rn RnU Cl RdG CpG Ld Rd Lp Dr Oth Cut fin Fits Eng.Enters Md NA
theorem zly:Eng.Enters Tryz.prog 61:=zab fun _ _=>by kernel_rfl
theorem zes:Eng.Enters Tryz.prog 97:=zab fun _ _=>by kernel_rfl
set_option maxHeartbeats 2000000 in
theorem zrd (U:List UInt8→Int→Bool) (hU:zlf U) (S:Int→List UInt8→Int→Option (List Snp)) (hS:zvV S) (p:WP) (s:WS) (g:MG) (w:World) (hp:p.Ok) (hh:HL p.h) (hbits:9≤p.h.bits∧p.h.bits≤16) (hcb:p.c=clus p.h.bits) (hcap:p.bs.length≤p.cap) (hg:WOk s g) (hb:BIn p w)
  (hm:MemOk w (Foot (WM p s g)) (WM p s g) w) :
  Ctr Tryz.prog 61 [.pointer (some ⟨p.wB,0,none⟩)] (WM p s g) (WR p (.tuple #[]) (zhg U S p s)) w:=by
 refine enter (cx:=CXS 84 [] w (Foot (WM p s g))) [(0,.pointer (some ⟨p.wB,0,none⟩))] zaa Tryz.func61 rfl rfl rfl rfl hm ?_
 have hc0:=hp.c0
 have hlen:=hp.len
 have hsa:=hh.sa
 have hsl:=hh.sl
 have hsn:=hh.sn
 refine gGw ?_
 refine br_d (fun hz=>?_) (fun hnz=>?_)
 ·refine gGw ?_
  rw [show zhg U S p s=s from by rw [zhg,if_pos hz]]
  exact fin0 rfl (fun w' hm=>⟨_,⟨rfl,g,hg,rfl⟩,hm⟩) (by first|exact .inl rfl|exact .inr rfl)
 have eT:zhg U S p s=if (runF p s p.h.snapsAt p.h.snapsLen 56 0).2 then
  match S p.h.bits (liB p p.h.snapsAt p.h.snapsLen) p.h.snaps with
  | none=>zcs (runF p s p.h.snapsAt p.h.snapsLen 56 0).1 ⟨3,p.h.snapsAt,0,0⟩
  | some l=>{ zeC U p (runF p s p.h.snapsAt p.h.snapsLen 56 0).1 l with data:=(runF p s p.h.snapsAt p.h.snapsLen 56 0).1.data,packed:=(runF p s p.h.snapsAt p.h.snapsLen 56 0).1.packed,zero:=(runF p s p.h.snapsAt p.h.snapsLen 56 0).1.zero }
  else (runF p s p.h.snapsAt p.h.snapsLen 56 0).1:=by rw [zhg,if_neg hnz]
 rw [eT]
 clear eT
 conv=>whnf
 refine za5 (γ:=MG) (Tr.hs [0,1,2,3,4,5,6,7,8,9,10] (.sq [11] (.hs [12,13,14,15,16] .done))) [.blk p.wB (.cells (za4 p s).toArray 68)] zaa mixed (by kernel_rfl) rfl (fun g2=>WOk (runF p s p.h.snapsAt p.h.snapsLen 56 0).1 g2)
  (fun _=>[(2,if (runF p s p.h.snapsAt p.h.snapsLen 56 0).2 then .slice (cutA p.A p.cap p.h.snapsAt.toNat 1) (liB p p.h.snapsAt p.h.snapsLen).length (p.cap-p.h.snapsAt.toNat) else .slice none 0 0),(3,.bool (runF p s p.h.snapsAt p.h.snapsLen 56 0).2),(0,.pointer (some ⟨p.wB,0,none⟩))])
  (fun g2=>WM p (runF p s p.h.snapsAt p.h.snapsLen 56 0).1 g2) SubM.sl ?_ ?_
 ·refine gGw ?_
  refine⟨ziz,zac (m1:=WM p s g) (by repeat constructor) (fun w' hm'=>zoC p s g p.h.snapsAt p.h.snapsLen 56 w' hp hcap hg (hb.fr (by rw [zbZ] at hm';exact hm'.fr)) (by omega) (by omega) hm'.part) ?_⟩
  rintro e m' ⟨⟨hok,rfl⟩|⟨hok,rfl⟩,g2,hg2,rfl⟩
  ·rw [hok]
   conv=>whnf
   refine And.intro (zll (zhO ..)) ?_
   refine gGw ?_
   exact⟨g2,hg2,⟨rfl,rfl,rfl,trivial⟩,SubM.sl⟩
  ·rw [hok]
   conv=>whnf
   refine And.intro (zll (zhO ..)) ?_
   refine gGw ?_
   exact⟨g2,hg2,⟨rfl,rfl,rfl,trivial⟩,SubM.sl⟩
 ·intro g2 hg2
  have hwi:=zeg p s p.h.snapsAt p.h.snapsLen 56 0
  generalize runF p s p.h.snapsAt p.h.snapsLen 56 0=r at hg2 hwi ⊢
  obtain ⟨s1,ok⟩:=r
  simp only at hg2 hwi ⊢
  refine gGw ?_
  refine br_n (br (fun hok=>?_) (fun hok=>?_))
  ·subst hok
   have hle:=zaF hp hwi.symm
   have hlb:(liB p p.h.snapsAt p.h.snapsLen).length=p.h.snapsLen.toNat:=by unfold liB;rw [List.length_take,List.length_drop];omega
   simp only [if_true]
   conv=>whnf
   have hsub:∀ w',Fr (FW p) w w'→BytsIn w' (cutA p.A p.cap p.h.snapsAt.toNat 1) (liB p p.h.snapsAt p.h.snapsLen):=fun w' hf=>BytsIn.sub (hb w' hf) p.cap p.h.snapsAt.toNat p.h.snapsLen.toNat (by omega) hcap
   have hSw:=fun w' hf=>hS (cutA p.A p.cap p.h.snapsAt.toNat 1) (p.cap-p.h.snapsAt.toNat) (liB p p.h.snapsAt p.h.snapsLen) p.h.bits p.h.snaps w' (hsub w' hf) (by omega) (by omega) hbits hsn
   have hSl:=(hSw w (Fr.refl _ _)).1
   cases hq:S p.h.bits (liB p p.h.snapsAt p.h.snapsLen) p.h.snaps with
   | none =>
    refine za5 (γ:=Int) (Tr.hs [0,1,2,3,4,5,6,7,8,9,10] (.sq [11] (.hs [12,13,14,15,16] .done))) [.blk p.wB (.cells (za4 p s1).toArray 68)] zaa mixed (by kernel_rfl) rfl (fun no=>no≠0)
     (fun no=>[(5,.int .i64 no),(0,.pointer (some ⟨p.wB,0,none⟩))]) (fun _=>WM p s1 g2) SubM.sl ?_ ?_
    ·refine gGw ?_
     refine⟨zes,zac (m1:=[]) .nil (fun w' hm'=>(hSw w' (by rw [zbZ] at hm';exact hm'.fr)).2) ?_⟩
     rintro e m' (⟨_,⟨no,hno,rfl⟩,rfl⟩|⟨l,lA,lc,h,_,_⟩)
     ·refine gGt ?_
      exact⟨no,hno,⟨rfl,rfl,trivial⟩,SubM.sl⟩
     ·rw [hq] at h;cases h
    ·intro no hno
     refine gGw ?_
     refine br_n (br_f (decide_eq_false hno) ?_)
     refine gGw ?_
     refine⟨zdj,zac (m1:=WM p s1 g2) (by repeat constructor) (fun w' hm'=>zgt p _ g2 3 p.h.snapsAt w' hg2 hm'.part) ?_⟩
     rintro e' m' ⟨rfl,g5,hg5,rfl⟩
     refine gGw ?_
     exact fin0 rfl (fun w' hm=>⟨_,⟨rfl,g5,hg5,rfl⟩,hm.sl⟩) (by first|exact .inl rfl|exact .inr rfl)
   | some l =>
    obtain ⟨hlok,hll⟩:=hSl l hq
    refine za5 (γ:=Option Addr × Nat) (Tr.hs [0,1,2,3,4,5,6,7,8,9,10] (.sq [11] (.hs [12,13,14,15,16] .done))) [.blk p.wB (.cells (za4 p s1).toArray 68)] zaa mixed (by kernel_rfl) rfl (fun r=>0<l.length→Pl r.1)
     (fun r=>[(4,.slice r.1 l.length r.2),(5,.int .i64 0),(0,.pointer (some ⟨p.wB,0,none⟩))]) (fun r=>.row r.1 r.2 l.length 175 4 (l.flatMap Snp.cells)::WM p s1 g2) SubM.sl ?_ ?_
    ·refine gGw ?_
     refine⟨zes,zac (m1:=[]) .nil (fun w' hm'=>(hSw w' (by rw [zbZ] at hm';exact hm'.fr)).2.ex) ?_⟩
     rintro e m' ⟨⟨h,_,_⟩|⟨l',lA,lc,h,rfl,rfl⟩,wx,hwx⟩
     ·rw [hq] at h;cases h
     ·rw [hq] at h
      cases h
      refine gGt ?_
      exact⟨(lA,lc),fun hn=>zft (hwx _ (List.mem_cons_self ..)) (by rw [zhI (n:=4) (fun _=>rfl)];omega),⟨rfl,rfl,rfl,trivial⟩,SubM.sl⟩
    ·rintro ⟨lA,lc⟩ hplA
     simp only at hplA
     refine gGw ?_
     refine br_f (by rfl) ?_
     refine gGw ?_;(repeat ((first|refine .mk fun Ap capp=>?_|intro _);(conv=>whnf);refine gG0 ?_))
     rename_i rB
     refine lp zaa (γ:=Nat × MG) (fun q=>q.1≤l.length∧WOk (zeC U p s1 (l.take q.1)) q.2)
      (fun q=>[(62,.int .i64 (q.1:Int)),(61,.int .i64 (l.length:Int)),(60,.slice lA l.length lc),(0,.pointer (some ⟨p.wB,0,none⟩)),(6,.pointer (some ⟨rB,0,none⟩))])
      (fun q=>.blk rB (.cells [.slice none 0 0,.bool false,.int .i64 p.n,.int .i64 0,.int .i64 s1.data,.int .i64 s1.packed,.int .i64 s1.zero].toArray 27)::.row lA lc l.length 175 4 (l.flatMap Snp.cells)::WM p (zeC U p s1 (l.take q.1)) q.2) (fun q=>l.length-q.1) (0,g2) ⟨by simp only;omega,hg2⟩ ⟨rfl,rfl,rfl,rfl,rfl,trivial⟩ SubM.sl ?_
     rintro ⟨i,g3⟩ ⟨hi,hg3⟩
     simp only at hi hg3
     dsimp only
     conv=>whnf
     refine br_d (fun hlt=>?_) (fun hge=>?_)
     ·have hlt':i<l.length:=by omega
      have hx:=List.getElem?_eq_getElem hlt'
      have hxo:=hlok _ (List.getElem_mem hlt')
      have et:zeC U p s1 (l.take (i+1))=zi1 U p (zeC U p s1 (l.take i)) l[i].l1 l[i].l1len p.h.snapsAt:=by
       unfold zeC;rw [List.take_add_one,hx,List.foldl_append];rfl
      generalize l[i]=x at hx hxo et
      have hx1:=hxo.l1
      have hx2:=hxo.ln
      refine gGw ?_
      refine And.intro ⟨by omega,by omega,hplA (by omega)⟩ ?_
      conv=>whnf
      refine zai (zrY (f:=Snp.cells) (k:=4) zaa (by repeat constructor) (by decide) (fun _=>rfl) rfl rfl rfl hx) ?_
      refine gGw ?_;(repeat ((first|refine .mk fun Ap capp=>?_|intro _);(conv=>whnf);refine gG0 ?_))
      refine zcD 12 zaa mixed (by kernel_rfl) rfl rfl ?_
      refine gGw ?_
      refine⟨zhW,zac (m1:=WM p (zeC U p s1 (l.take i)) g3) (by repeat constructor) (fun w' hm'=>zn0 U hU p _ g3 x.l1 x.l1len p.h.snapsAt w' hp hbits hcb hcap hg3 (hb.fr (by rw [zbZ] at hm';exact hm'.fr)) hx1 (by omega) hm'.part) ?_⟩
      rintro e' m' ⟨rfl,g5,hg5,rfl⟩
      refine gGw ?_
      refine⟨(i+1,g5),⟨by simp only;omega,?_⟩,by simp only;omega,⟨rfl,rfl,rfl,rfl,rfl,trivial⟩,?_⟩
      ·show WOk (zeC U p s1 (l.take (i+1))) g5
       rw [et];exact hg5
      ·show SubM _ _ (_::_::WM p (zeC U p s1 (l.take (i+1))) g5)
       rw [et];exact SubM.sl
     ·have hie:l.take i=l:=List.take_of_length_le (by omega)
      rw [hie] at hg3 ⊢
      refine gGw ?_
      exact fin0 rfl (fun w' hm=>⟨_,⟨rfl,g3,⟨hg3.h,hg3.f⟩,rfl⟩,hm.sl⟩) (by first|exact .inl rfl|exact .inr rfl)
  ·subst hok
   refine gGw ?_
   exact fin0 rfl (fun w' hm=>⟨_,⟨rfl,g2,hg2,rfl⟩,hm⟩) (by first|exact .inl rfl|exact .inr rfl)
end
section
def zfP (p:WP) (s:WS) (l:List Rwp):WS:=l.foldl (fun s x=>if 0<x.len then (runF p s x.at_ x.len p.h.bitmapsAt 0).1 else s) s
def zlT (S:Int→List UInt8→Int→Option (List Rwp)) (p:WP) (s:WS):WS :=
 if p.h.bitmaps=0 then s
 else if (runF p s p.h.bitmapsAt p.h.bitmapsLen 72 0).2 then
  match S p.h.bits (liB p p.h.bitmapsAt p.h.bitmapsLen) p.h.bitmaps with
  | none=>zcs (runF p s p.h.bitmapsAt p.h.bitmapsLen 72 0).1 ⟨3,p.h.bitmapsAt,0,0⟩
  | some l=>zfP p (runF p s p.h.bitmapsAt p.h.bitmapsLen 72 0).1 l
 else (runF p s p.h.bitmapsAt p.h.bitmapsLen 72 0).1
attribute [local irreducible] Br Rn RnU Cl RdG CpG Ld Rd Lp Dr Oth Cut fin Fits Eng.Enters Md NA
theorem zm1:Eng.Enters Tryz.prog 62:=zab fun _ _=>by kernel_rfl
theorem zeL:Eng.Enters Tryz.prog 98:=zab fun _ _=>by kernel_rfl
set_option maxHeartbeats 2000000 in
theorem zup (S:Int→List UInt8→Int→Option (List Rwp)) (hS:zys S) (p:WP) (s:WS) (g:MG) (w:World) (hp:p.Ok) (hh:HL p.h) (hbits:9≤p.h.bits∧p.h.bits≤16) (hcap:p.bs.length≤p.cap) (hg:WOk s g) (hb:BIn p w)
  (hm:MemOk w (Foot (WM p s g)) (WM p s g) w) :
  Ctr Tryz.prog 62 [.pointer (some ⟨p.wB,0,none⟩)] (WM p s g) (WR p (.tuple #[]) (zlT S p s)) w:=by
 refine enter (cx:=CXS 76 [] w (Foot (WM p s g))) [(0,.pointer (some ⟨p.wB,0,none⟩))] zaa Tryz.func62 rfl rfl rfl rfl hm ?_
 have hc0:=hp.c0
 have hlen:=hp.len
 have hsa:=hh.ba
 have hsl:=hh.bl
 have hsn:=hh.bn
 refine gGw ?_
 refine br_d (fun hz=>?_) (fun hnz=>?_)
 ·refine gGw ?_
  rw [show zlT S p s=s from by rw [zlT,if_pos hz]]
  exact fin0 rfl (fun w' hm=>⟨_,⟨rfl,g,hg,rfl⟩,hm⟩) (by first|exact .inl rfl|exact .inr rfl)
 have eT:zlT S p s=if (runF p s p.h.bitmapsAt p.h.bitmapsLen 72 0).2 then
  match S p.h.bits (liB p p.h.bitmapsAt p.h.bitmapsLen) p.h.bitmaps with
  | none=>zcs (runF p s p.h.bitmapsAt p.h.bitmapsLen 72 0).1 ⟨3,p.h.bitmapsAt,0,0⟩
  | some l=>zfP p (runF p s p.h.bitmapsAt p.h.bitmapsLen 72 0).1 l
  else (runF p s p.h.bitmapsAt p.h.bitmapsLen 72 0).1:=by rw [zlT,if_neg hnz]
 rw [eT]
 clear eT
 conv=>whnf
 refine za5 (γ:=MG) (Tr.hs [0,1,2,3,4,5,6,7,8,9,10] (.sq [11] (.hs [12,13,14,15,16] .done))) [.blk p.wB (.cells (za4 p s).toArray 68)] zaa mixed (by kernel_rfl) rfl (fun g2=>WOk (runF p s p.h.bitmapsAt p.h.bitmapsLen 72 0).1 g2)
  (fun _=>[(2,if (runF p s p.h.bitmapsAt p.h.bitmapsLen 72 0).2 then .slice (cutA p.A p.cap p.h.bitmapsAt.toNat 1) (liB p p.h.bitmapsAt p.h.bitmapsLen).length (p.cap-p.h.bitmapsAt.toNat) else .slice none 0 0),(3,.bool (runF p s p.h.bitmapsAt p.h.bitmapsLen 72 0).2),(0,.pointer (some ⟨p.wB,0,none⟩))])
  (fun g2=>WM p (runF p s p.h.bitmapsAt p.h.bitmapsLen 72 0).1 g2) SubM.sl ?_ ?_
 ·refine gGw ?_
  refine⟨ziz,zac (m1:=WM p s g) (by repeat constructor) (fun w' hm'=>zoC p s g p.h.bitmapsAt p.h.bitmapsLen 72 w' hp hcap hg (hb.fr (by rw [zbZ] at hm';exact hm'.fr)) (by omega) (by omega) hm'.part) ?_⟩
  rintro e m' ⟨⟨hok,rfl⟩|⟨hok,rfl⟩,g2,hg2,rfl⟩
  ·rw [hok]
   conv=>whnf
   refine And.intro (zll (zhO ..)) ?_
   refine gGw ?_
   exact⟨g2,hg2,⟨rfl,rfl,rfl,trivial⟩,SubM.sl⟩
  ·rw [hok]
   conv=>whnf
   refine And.intro (zll (zhO ..)) ?_
   refine gGw ?_
   exact⟨g2,hg2,⟨rfl,rfl,rfl,trivial⟩,SubM.sl⟩
 ·intro g2 hg2
  have hwi:=zeg p s p.h.bitmapsAt p.h.bitmapsLen 72 0
  generalize runF p s p.h.bitmapsAt p.h.bitmapsLen 72 0=r at hg2 hwi ⊢
  obtain ⟨s1,ok⟩:=r
  simp only at hg2 hwi ⊢
  refine gGw ?_
  refine br_n (br (fun hok=>?_) (fun hok=>?_))
  ·subst hok
   have hle:=zaF hp hwi.symm
   have hlb:(liB p p.h.bitmapsAt p.h.bitmapsLen).length=p.h.bitmapsLen.toNat:=by unfold liB;rw [List.length_take,List.length_drop];omega
   simp only [if_true]
   conv=>whnf
   have hsub:∀ w',Fr (FW p) w w'→BytsIn w' (cutA p.A p.cap p.h.bitmapsAt.toNat 1) (liB p p.h.bitmapsAt p.h.bitmapsLen):=fun w' hf=>BytsIn.sub (hb w' hf) p.cap p.h.bitmapsAt.toNat p.h.bitmapsLen.toNat (by omega) hcap
   have hSw:=fun w' hf=>hS (cutA p.A p.cap p.h.bitmapsAt.toNat 1) (p.cap-p.h.bitmapsAt.toNat) (liB p p.h.bitmapsAt p.h.bitmapsLen) p.h.bits p.h.bitmaps w' (hsub w' hf) (by omega) (by omega) hbits hsn
   have hSl:=(hSw w (Fr.refl _ _)).1
   cases hq:S p.h.bits (liB p p.h.bitmapsAt p.h.bitmapsLen) p.h.bitmaps with
   | none =>
    refine za5 (γ:=Int) (Tr.hs [0,1,2,3,4,5,6,7,8,9,10] (.sq [11] (.hs [12,13,14,15,16] .done))) [.blk p.wB (.cells (za4 p s1).toArray 68)] zaa mixed (by kernel_rfl) rfl (fun no=>no≠0)
     (fun no=>[(5,.int .i64 no),(0,.pointer (some ⟨p.wB,0,none⟩))]) (fun _=>WM p s1 g2) SubM.sl ?_ ?_
    ·refine gGw ?_
     refine⟨zeL,zac (m1:=[]) .nil (fun w' hm'=>(hSw w' (by rw [zbZ] at hm';exact hm'.fr)).2) ?_⟩
     rintro e m' (⟨_,⟨no,hno,rfl⟩,rfl⟩|⟨l,lA,lc,h,_,_⟩)
     ·refine gGt ?_
      exact⟨no,hno,⟨rfl,rfl,trivial⟩,SubM.sl⟩
     ·rw [hq] at h;cases h
    ·intro no hno
     refine gGw ?_
     refine br_n (br_f (decide_eq_false hno) ?_)
     refine gGw ?_
     refine⟨zdj,zac (m1:=WM p s1 g2) (by repeat constructor) (fun w' hm'=>zgt p _ g2 3 p.h.bitmapsAt w' hg2 hm'.part) ?_⟩
     rintro e' m' ⟨rfl,g5,hg5,rfl⟩
     refine gGw ?_
     exact fin0 rfl (fun w' hm=>⟨_,⟨rfl,g5,hg5,rfl⟩,hm.sl⟩) (by first|exact .inl rfl|exact .inr rfl)
   | some l =>
    obtain ⟨hlok,hll⟩:=hSl l hq
    refine za5 (γ:=Option Addr × Nat) (Tr.hs [0,1,2,3,4,5,6,7,8,9,10] (.sq [11] (.hs [12,13,14,15,16] .done))) [.blk p.wB (.cells (za4 p s1).toArray 68)] zaa mixed (by kernel_rfl) rfl (fun r=>0<l.length→Pl r.1)
     (fun r=>[(4,.slice r.1 l.length r.2),(5,.int .i64 0),(0,.pointer (some ⟨p.wB,0,none⟩))]) (fun r=>.row r.1 r.2 l.length 180 5 (l.flatMap Rwp.cells)::WM p s1 g2) SubM.sl ?_ ?_
    ·refine gGw ?_
     refine⟨zeL,zac (m1:=[]) .nil (fun w' hm'=>(hSw w' (by rw [zbZ] at hm';exact hm'.fr)).2.ex) ?_⟩
     rintro e m' ⟨⟨h,_,_⟩|⟨l',lA,lc,h,rfl,rfl⟩,wx,hwx⟩
     ·rw [hq] at h;cases h
     ·rw [hq] at h
      cases h
      refine gGt ?_
      exact⟨(lA,lc),fun hn=>zft (hwx _ (List.mem_cons_self ..)) (by rw [zhI (n:=5) (fun _=>rfl)];omega),⟨rfl,rfl,rfl,trivial⟩,SubM.sl⟩
    ·rintro ⟨lA,lc⟩ hplA
     simp only at hplA
     refine gGw ?_
     refine br_f (by rfl) ?_
     refine gGw ?_
     refine lp zaa (γ:=Nat × MG) (fun q=>q.1≤l.length∧WOk (zfP p s1 (l.take q.1)) q.2)
      (fun q=>[(57,.int .i64 (q.1:Int)),(56,.int .i64 (l.length:Int)),(55,.slice lA l.length lc),(0,.pointer (some ⟨p.wB,0,none⟩))])
      (fun q=>.row lA lc l.length 180 5 (l.flatMap Rwp.cells)::WM p (zfP p s1 (l.take q.1)) q.2) (fun q=>l.length-q.1) (0,g2) ⟨by simp only;omega,hg2⟩ ⟨rfl,rfl,rfl,rfl,trivial⟩ SubM.sl ?_
     rintro ⟨i,g3⟩ ⟨hi,hg3⟩
     simp only at hi hg3
     dsimp only
     conv=>whnf
     refine br_d (fun hlt=>?_) (fun hge=>?_)
     ·have hlt':i<l.length:=by omega
      have hx:=List.getElem?_eq_getElem hlt'
      have hxo:=hlok _ (List.getElem_mem hlt')
      have et:zfP p s1 (l.take (i+1))=if 0<l[i].len then (runF p (zfP p s1 (l.take i)) l[i].at_ l[i].len p.h.bitmapsAt 0).1 else zfP p s1 (l.take i):=by
       unfold zfP;rw [List.take_add_one,hx,List.foldl_append];rfl
      generalize l[i]=x at hx hxo et
      have hx1:=hxo.at_
      have hx2:=hxo.ln
      refine gGw ?_
      refine And.intro ⟨by omega,by omega,hplA (by omega)⟩ ?_
      conv=>whnf
      refine zai (zrY (f:=Rwp.cells) (k:=5) zaa (by repeat constructor) (by decide) (fun _=>rfl) rfl rfl rfl hx) ?_
      refine gGw ?_;(repeat ((first|refine .mk fun Ap capp=>?_|intro _);(conv=>whnf);refine gG0 ?_))
      refine br_d (fun hpos=>?_) (fun hpos=>?_)
      ·rw [if_pos hpos] at et
       conv=>whnf
       refine zcD 10 zaa mixed (by kernel_rfl) rfl rfl ?_
       refine gGw ?_
       refine⟨zce,zac (m1:=WM p (zfP p s1 (l.take i)) g3) (by repeat constructor) (fun w' hm'=>zeG p _ g3 x.at_ x.len p.h.bitmapsAt 0 w' hp hg3 (by omega) (by omega) hm'.part) ?_⟩
       rintro e' m' ⟨rfl,g5,hg5,rfl⟩
       refine gGw ?_
       refine⟨(i+1,g5),⟨by simp only;omega,?_⟩,by simp only;omega,⟨rfl,rfl,rfl,rfl,trivial⟩,?_⟩
       ·show WOk (zfP p s1 (l.take (i+1))) g5
        rw [et];exact hg5
       ·show SubM _ _ (_::WM p (zfP p s1 (l.take (i+1))) g5)
        rw [et];exact SubM.sl
      ·rw [if_neg hpos] at et
       refine gGw ?_
       refine⟨(i+1,g3),⟨by simp only;omega,?_⟩,by simp only;omega,⟨rfl,rfl,rfl,rfl,trivial⟩,?_⟩
       ·show WOk (zfP p s1 (l.take (i+1))) g3
        rw [et];exact hg3
       ·show SubM _ _ (_::WM p (zfP p s1 (l.take (i+1))) g3)
        rw [et];exact SubM.sl
     ·have hie:l.take i=l:=List.take_of_length_le (by omega)
      rw [hie] at hg3 ⊢
      refine gGw ?_
      exact fin0 rfl (fun w' hm=>⟨_,⟨rfl,g3,hg3,rfl⟩,hm.sl⟩) (by first|exact .inl rfl|exact .inr rfl)
  ·subst hok
   refine gGw ?_
   exact fin0 rfl (fun w' hm=>⟨_,⟨rfl,g2,hg2,rfl⟩,hm⟩) (by first|exact .inl rfl|exact .inr rfl)
end
inductive Ev where
 | hold (cl k:Int)
 | find (x:Fi)
 | data
 | packed
 | zero
def Ev.count:Ev→Bool
 | .data|.packed|.zero=>true
 | _=>false
def appS (s:WS):Ev→WS
 | .hold cl k=>zkP s cl k
 | .find x=>zcs s x
 | .data=>{ s with data:=inc s.data }
 | .packed=>{ s with packed:=inc s.packed }
 | .zero=>{ s with zero:=inc s.zero }
def appL (s:WS) (l:List Ev):WS:=l.foldl appS s
theorem zbs (s:WS) (l k:List Ev):appL s (l++k)=appL (appL s l) k:=List.foldl_append
def rng {α:Type} (n:Nat) (f:Nat→List α):List α:=(List.range n).flatMap f
theorem zuq {α:Type} (f:Nat→List α):rng 0 f=[]:=rfl
theorem zb7 {α:Type} (n:Nat) (f:Nat→List α):rng (n+1) f=rng n f++f n:=by
 unfold rng;rw [List.range_succ,List.flatMap_append];simp
theorem mem_rng {α:Type} {n:Nat} {f:Nat→List α} {x:α}:x∈rng n f↔∃ i,i<n∧x∈f i:=by
 unfold rng;simp [List.mem_flatMap]
theorem zih {α:Type} {n:Nat} {f g:Nat→List α} (h:∀ i,i<n→f i=g i):rng n f=rng n g:=by
 induction n with
 | zero=>rfl
 | succ n ih=>rw [zb7,zb7,ih (fun i hi=>h i (by omega)),h n (by omega)]
/-! ## The walk -/
def upC (p:WP) (long:Int):Nat:=((long+p.c-1).tdiv p.c).toNat
def tRun (p:WP) (at_ long stands k:Int):List Ev:=if zau p at_ long then rng (upC p long) fun i=>[.hold (at_.tdiv p.c+i) k] else [.find ⟨1,stands,0,0⟩]
def zbo (p:WP) (at_:Int):List Ev:=if zaz p at_=0 then [] else tRun p (zaY (zaz p at_)) p.c at_ 0
def zbk (p:WP):List Ev :=
 tRun p p.h.counts (p.h.countsLen*p.c) 40 0++if zau p p.h.counts (p.h.countsLen*p.c) then rng (p.h.countsLen*p.c/8).toNat fun i=>zbo p (p.h.counts+8*i) else []
def zcu (U:List UInt8→Int→Bool) (p:WP) (at_:Int) (e:En):List Ev :=
 if e.kind=2 then tRun p e.place p.c at_ 2++if zau p e.place p.c then [.data] else []
 else if e.kind=3 then tRun p (e.place.tdiv p.c*p.c) p.c at_ 3++if zau p (e.place.tdiv p.c*p.c) p.c then .packed::(if U (pkB p e) p.c then [.find ⟨5,at_,0,0⟩] else []) else []
 else if e.kind=1 then [.zero] else []
def tEnt (U:List UInt8→Int→Bool) (p:WP) (at_:Int):List Ev :=
 if (ofE (zaz p at_) p.h.bits).2=0 then zcu U p at_ (ofE (zaz p at_) p.h.bits).1 else [.find ⟨2,at_,0,0⟩]
def tL2 (U:List UInt8→Int→Bool) (p:WP) (t:Int):List Ev:=rng (p.c/8).toNat fun k=>tEnt U p (t+8*k)
def tL1 (U:List UInt8→Int→Bool) (p:WP) (at_:Int):List Ev :=
 if zaz p at_=0 then [] else tRun p (zaY (zaz p at_)) p.c at_ 1++if zau p (zaY (zaz p at_)) p.c then tL2 U p (zaY (zaz p at_)) else []
def zby (U:List UInt8→Int→Bool) (p:WP) (l1 long stands:Int):List Ev :=
 if long=0 then [] else tRun p l1 (8*long) stands 0++if zau p l1 (8*long) then rng long.toNat fun i=>tL1 U p (l1+8*i) else []
def zek (l:List Ev):List Ev:=l.filter fun e=>!e.count
def zbA (U:List UInt8→Int→Bool) (S:Int→List UInt8→Int→Option (List Snp)) (p:WP):List Ev :=
 if p.h.snaps=0 then []
 else tRun p p.h.snapsAt p.h.snapsLen 56 0++if zau p p.h.snapsAt p.h.snapsLen then
  match S p.h.bits (liB p p.h.snapsAt p.h.snapsLen) p.h.snaps with
  | none=>[.find ⟨3,p.h.snapsAt,0,0⟩]
  | some l=>zek (l.flatMap fun x=>zby U p x.l1 x.l1len p.h.snapsAt)
 else []
def zdQ (R:Int→List UInt8→Int→Option (List Rwp)) (p:WP):List Ev :=
 if p.h.bitmaps=0 then []
 else tRun p p.h.bitmapsAt p.h.bitmapsLen 72 0++if zau p p.h.bitmapsAt p.h.bitmapsLen then
  match R p.h.bits (liB p p.h.bitmapsAt p.h.bitmapsLen) p.h.bitmaps with
  | none=>[.find ⟨3,p.h.bitmapsAt,0,0⟩]
  | some l=>l.flatMap fun x=>if 0<x.len then tRun p x.at_ x.len p.h.bitmapsAt 0 else []
 else []
def zfn (U:List UInt8→Int→Bool) (S:Int→List UInt8→Int→Option (List Snp)) (R:Int→List UInt8→Int→Option (List Rwp)) (p:WP):List Ev :=
 .hold 0 0::(zbk p++(zby U p p.h.l1 p.h.l1len 24++(zbA U S p++zdQ R p)))
/-! ## The program's state is that list, put into maps -/
theorem zjI (s:WS) (a k:Int):∀ n,zgq s a k n=appL s (rng n fun i=>[.hold (a+i) k])
 | 0=>rfl
 | n+1=>by rw [zb7,zbs,← zjI s a k n];rfl
theorem zdt (p:WP) (s:WS) (a l t k:Int):runF p s a l t k=(appL s (tRun p a l t k),zau p a l):=by
 unfold runF tRun
 split
 ·rename_i h
  rw [zjI,h];rfl
 ·rename_i h
  rw [Bool.not_eq_true] at h
  rw [h];rfl
theorem zqo (p:WP) (s:WS) (a:Int):zgu p s a=appL s (zbo p a):=by
 unfold zgu zbo
 split
 ·rfl
 ·rw [zdt]
theorem ziS (p:WP) (s:WS) (a:Int):∀ n,zbK p s a n=appL s (rng n fun i=>zbo p (a+8*i))
 | 0=>rfl
 | n+1=>by rw [zb7,zbs,← ziS p s a n];exact zqo _ _ _
theorem znD (p:WP) (s:WS):zgY p s=appL s (zbk p):=by
 unfold zgY zbk
 rw [zdt]
 simp only
 split
 ·rw [zbs,ziS]
 ·rw [List.append_nil]
theorem zqd (U:List UInt8→Int→Bool) (p:WP) (s:WS) (a:Int) (e:En):zd4 U p s a e=appL s (zcu U p a e):=by
 unfold zd4 zcu
 simp only [zdt]
 split
 ·split
  ·rw [zbs];rfl
  ·rw [List.append_nil]
 ·split
  ·split
   ·rw [zbs]
    split<;>rfl
   ·rw [List.append_nil]
  ·split<;>rfl
theorem zqg (U:List UInt8→Int→Bool) (p:WP) (s:WS) (a:Int):zjQ U p s a=appL s (tEnt U p a):=by
 unfold zjQ tEnt
 split
 ·exact zqd ..
 ·rfl
theorem zr1 (U:List UInt8→Int→Bool) (p:WP) (s:WS) (t:Int):∀ n,l2F U p s t n=appL s (rng n fun k=>tEnt U p (t+8*k))
 | 0=>rfl
 | n+1=>by rw [zb7,zbs,← zr1 U p s t n];exact zqg ..
theorem zwV (U:List UInt8→Int→Bool) (p:WP) (s:WS) (a:Int):l1F U p s a=appL s (tL1 U p a):=by
 unfold l1F tL1
 simp only [zdt]
 split
 ·rfl
 ·split
  ·rw [zbs,zr1];rfl
  ·rw [List.append_nil]
theorem zlu (U:List UInt8→Int→Bool) (p:WP) (s:WS) (l1:Int):∀ n,zdo U p s l1 n=appL s (rng n fun i=>tL1 U p (l1+8*i))
 | 0=>rfl
 | n+1=>by rw [zb7,zbs,← zlu U p s l1 n];exact zwV ..
theorem zlv (U:List UInt8→Int→Bool) (p:WP) (s:WS) (l1 long stands:Int):zi1 U p s l1 long stands=appL s (zby U p l1 long stands):=by
 unfold zi1 zby
 simp only [zdt]
 split
 ·rfl
 ·split
  ·rw [zbs,zlu]
  ·rw [List.append_nil]
theorem zps (U:List UInt8→Int→Bool) (p:WP) (l:List Snp):∀ s:WS,zeC U p s l=appL s (l.flatMap fun x=>zby U p x.l1 x.l1len p.h.snapsAt):=by
 induction l with
 | nil=>intro s;rfl
 | cons x r ih =>
  intro s
  rw [List.flatMap_cons,zbs,← zlv]
  exact ih _
theorem zng (l:List Ev):∀ (s:WS) (d k z:Int),{ appL s l with data:=d,packed:=k,zero:=z }=appL { s with data:=d,packed:=k,zero:=z } (zek l):=by
 induction l with
 | nil=>intro s d k z;rfl
 | cons e r ih =>
  intro s d k z
  cases e<;>exact ih _ d k z
theorem zpt (U:List UInt8→Int→Bool) (S:Int→List UInt8→Int→Option (List Snp)) (p:WP) (s:WS):zhg U S p s=appL s (zbA U S p):=by
 unfold zhg zbA
 simp only [zdt]
 split
 ·rfl
 ·split
  ·rw [zbs]
   cases hS:S p.h.bits (liB p p.h.snapsAt p.h.snapsLen) p.h.snaps with
   | none=>rfl
   | some l =>
    simp only
    rw [zps,zng]
  ·rw [List.append_nil]
theorem zrq (p:WP) (l:List Rwp):∀ s:WS,zfP p s l=appL s (l.flatMap fun x=>if 0<x.len then tRun p x.at_ x.len p.h.bitmapsAt 0 else []):=by
 induction l with
 | nil=>intro s;rfl
 | cons x r ih =>
  intro s
  rw [List.flatMap_cons,zbs,← ih]
  show zfP p (if 0<x.len then (runF p s x.at_ x.len p.h.bitmapsAt 0).1 else s) r=_
  congr 1
  split
  ·rw [zdt]
  ·rfl
theorem zrr (R:Int→List UInt8→Int→Option (List Rwp)) (p:WP) (s:WS):zlT R p s=appL s (zdQ R p):=by
 unfold zlT zdQ
 simp only [zdt]
 split
 ·rfl
 ·split
  ·rw [zbs]
   cases hR:R p.h.bits (liB p p.h.bitmapsAt p.h.bitmapsLen) p.h.bitmaps with
   | none=>rfl
   | some l=>exact zrq ..
  ·rw [List.append_nil]
/-! ## It hangs on few bytes -/
structure zfZ (p p':WP) (D:Int→Prop):Prop where
 h:p'.h=p.h
 c:p'.c=p.c
 n:p'.n=p.n
 l:p'.bs.length=p.bs.length
 b:∀ i:Nat,¬ D ((i:Int)/p.c)→p'.bs.getD i 0=p.bs.getD i 0
def Shy (D:Int→Prop) (l:List Ev):Prop:=∀ cl k,Ev.hold cl k∈l→k≠2→¬ D cl
theorem Shy.app {D:Int→Prop} {l k:List Ev} (h:Shy D (l++k)):Shy D l∧Shy D k:=⟨fun c x hx=>h c x (List.mem_append_left _ hx),fun c x hx=>h c x (List.mem_append_right _ hx)⟩
theorem Shy.rng {D:Int→Prop} {n:Nat} {f:Nat→List Ev} (h:Shy D (rng n f)) {i:Nat} (hi:i<n):Shy D (f i):=fun c x hx=>h c x (mem_rng.2 ⟨i,hi,hx⟩)
theorem zbL {p p':WP} {D:Int→Prop} (ha:zfZ p p' D) (a l:Int):zau p' a l=zau p a l:=by unfold zau;rw [ha.c,ha.n]
theorem zcU {p p':WP} {D:Int→Prop} (ha:zfZ p p' D) (a l t k:Int):tRun p' a l t k=tRun p a l t k:=by
 unfold tRun upC;rw [zbL ha,ha.c]
theorem znQ {p p':WP} {D:Int→Prop} (ha:zfZ p p' D) (a n:Nat) (h:∀ i,a≤i→i<a+n→i<p.bs.length→¬ D ((i:Int)/p.c)):(p'.bs.drop a).take n=(p.bs.drop a).take n:=by
 apply List.ext_getElem?
 intro i
 rw [List.getElem?_take,List.getElem?_take]
 split
 ·rename_i hi
  rw [List.getElem?_drop,List.getElem?_drop]
  by_cases hl:a+i<p.bs.length
  ·have:=ha.b (a+i) (h _ (by omega) (by omega) hl)
   rw [List.getD_eq_getElem?_getD,List.getD_eq_getElem?_getD,List.getElem?_eq_getElem hl,List.getElem?_eq_getElem (by rw [ha.l];exact hl)] at this
   rw [List.getElem?_eq_getElem hl,List.getElem?_eq_getElem (by rw [ha.l];exact hl)]
   exact congrArg some this
  ·rw [List.getElem?_eq_none (by rw [ha.l];omega),List.getElem?_eq_none (by omega)]
 ·rfl
theorem zlL {p:WP} (hp:p.Ok) {a l t k:Int} (h:zau p a l=true) {i:Int} (hi:a≤i∧i<a+l):Ev.hold (i/p.c) k∈tRun p a l t k:=by
 obtain ⟨h1,h2,h3,h4⟩:=withinF_iff.1 h
 have hc:=hp.c0
 rw [Int.tmod_eq_emod_of_nonneg (by omega)] at h2
 rw [tRun,if_pos h,mem_rng]
 have e1:a.tdiv p.c=a/p.c:=Int.tdiv_eq_ediv_of_nonneg (by omega)
 have e2:(l+p.c-1).tdiv p.c=(l+p.c-1)/p.c:=Int.tdiv_eq_ediv_of_nonneg (by omega)
 obtain ⟨q,hq⟩:∃ q,a=p.c*q:=⟨a/p.c,by have:=Int.mul_ediv_add_emod a p.c;omega⟩
 have hq0:0≤q:=by
  rcases Int.lt_or_le q 0 with h|h
  ·have:p.c*q<0:=Int.mul_neg_of_pos_of_neg (by omega) h
   omega
  ·exact h
 have e3:a/p.c=q:=by rw [hq];exact Int.mul_ediv_cancel_left _ (by omega)
 have e4:i/p.c=q+(i-a)/p.c:=by
  have h9:i/p.c=((i-a)+p.c*q)/p.c:=by congr 1;omega
  rw [h9,Int.add_mul_ediv_left _ _ (by omega),Int.add_comm]
 have h5:0≤(i-a)/p.c:=Int.ediv_nonneg (by omega) (by omega)
 have h6:(i-a)/p.c<(l+p.c-1)/p.c:=by
  have h7:(i-a)/p.c≤(l-1)/p.c:=Int.ediv_le_ediv (by omega) (by omega)
  have h8:(l+p.c-1)/p.c=(l-1)/p.c+1:=by
   have:l+p.c-1=(l-1)+p.c*1:=by omega
   rw [this,Int.add_mul_ediv_left _ _ (by omega)]
  omega
 refine⟨((i-a)/p.c).toNat,by unfold upC;rw [e2];omega,?_⟩
 rw [e1,e3,Int.toNat_of_nonneg h5,← e4]
 exact List.mem_singleton.2 rfl
theorem zdn {p p':WP} {D:Int→Prop} (hp:p.Ok) (ha:zfZ p p' D) {a l t k:Int} (hk:k≠2) (h:zau p a l=true) (hs:Shy D (tRun p a l t k)) {x n:Nat} (hx:a≤x) (hn:(x:Int)+n≤a+l) :
  (p'.bs.drop x).take n=(p.bs.drop x).take n :=
 znQ ha x n fun i h1 h2 _=>hs _ _ (zlL hp h (i:=i) (by omega)) hk
theorem zg3 {p p':WP} {D:Int→Prop} (hp:p.Ok) (ha:zfZ p p' D) {a l t k:Int} (hk:k≠2) (h:zau p a l=true) (hs:Shy D (tRun p a l t k)) {x:Int} (hx:a≤x) (hn:x+8≤a+l):zaz p' x=zaz p x:=by
 have:=(withinF_iff.1 h).1
 unfold zaz getV
 rw [zdn hp ha hk h hs (x:=x.toNat) (n:=8) (by omega) (by omega)]
theorem zmA {p p':WP} {D:Int→Prop} (hp:p.Ok) (ha:zfZ p p' D) (hs:Shy D (tRun p p.h.counts (p.h.countsLen*p.c) 40 0)):zbk p'=zbk p:=by
 unfold zbk
 rw [ha.h,ha.c,zcU ha,zbL ha]
 congr 1
 split
 ·rename_i h
  refine zih fun i hi=>?_
  have hw:zaz p' (p.h.counts+8*i)=zaz p (p.h.counts+8*i):=zg3 hp ha (k:=0) (by decide) h hs (by omega) (by omega)
  unfold zbo
  rw [hw,ha.c,zcU ha]
 ·rfl
theorem zsW {U:List UInt8→Int→Bool} {p p':WP} {D:Int→Prop} (hp:p.Ok) (hcb:p.c=clus p.h.bits) (ha:zfZ p p' D) {x:Int} (hw:zaz p' x=zaz p x) (hs:Shy D (tEnt U p x)):tEnt U p' x=tEnt U p x:=by
 unfold tEnt at hs ⊢
 rw [hw,ha.h]
 split
 ·rename_i ho
  rw [if_pos ho] at hs
  have hok:=zrM ho
  generalize (ofE (zaz p x) p.h.bits).1=e at hs hok ⊢
  unfold zcu at hs ⊢
  rw [ha.c]
  simp only [zcU ha,zbL ha]
  split
  ·rfl
  ·rename_i h2
   split
   ·rename_i h3
    rw [if_neg h2,if_pos h3] at hs
    congr 1
    split
    ·rename_i hwi
     have hc0:=hp.c0
     have hc1:=hp.c1
     have hf:=zen (c:=p.c) ⟨hc0,hc1⟩ (by rw [hcb];exact hok)
     have hpk:pkB p' e=pkB p e:=by
      unfold pkB
      have hd:0≤e.place:=by omega
      rw [Int.tdiv_eq_ediv_of_nonneg hd] at hwi hs
      have h5:=Int.mul_ediv_add_emod e.place p.c
      have h6:=Int.emod_nonneg e.place (show p.c≠0 by omega)
      rw [Int.mul_comm] at h5
      refine zdn hp ha (k:=3) (by decide) hwi hs.app.1 (by omega) ?_
      have hf3:1≤e.len∧e.place.tdiv p.c=(e.place+e.len-1).tdiv p.c:=by
       rcases hf with hf|hf|hf
       ·omega
       ·omega
       ·exact⟨hf.2.1,hf.2.2.2.2.2.2⟩
      obtain ⟨hl1,hdd⟩:=hf3
      rw [Int.tdiv_eq_ediv_of_nonneg hd,Int.tdiv_eq_ediv_of_nonneg (by omega)] at hdd
      have h7:=Int.lt_ediv_add_one_mul_self (e.place+e.len-1) (show 0<p.c by omega)
      rw [← hdd,Int.add_mul,Int.one_mul] at h7
      omega
     rw [hpk]
    ·rfl
   ·rfl
 ·rfl
theorem zjW {U:List UInt8→Int→Bool} {p p':WP} {D:Int→Prop} (hp:p.Ok) (hcb:p.c=clus p.h.bits) (ha:zfZ p p' D) {l1 long stands:Int} (hs:Shy D (zby U p l1 long stands)):zby U p' l1 long stands=zby U p l1 long stands:=by
 unfold zby at hs ⊢
 split
 ·rfl
 ·rename_i h0
  rw [if_neg h0] at hs
  rw [zcU ha,zbL ha]
  congr 1
  split
  ·rename_i h
   rw [if_pos h] at hs
   refine zih fun i hi=>?_
   have hsi:=hs.app.2.rng hi
   have hw:zaz p' (l1+8*i)=zaz p (l1+8*i):=zg3 hp ha (k:=0) (by decide) h hs.app.1 (by omega) (by omega)
   unfold tL1 at hsi ⊢
   rw [hw,ha.c]
   split
   ·rfl
   ·rename_i hn0
    rw [if_neg hn0] at hsi
    rw [zcU ha,zbL ha]
    congr 1
    split
    ·rename_i hwi
     rw [if_pos hwi] at hsi
     unfold tL2 at hsi ⊢
     rw [ha.c]
     refine zih fun k hk=>?_
     have hc8:=hp.c8
     have hc0:=hp.c0
     exact zsW hp hcb ha (zg3 hp ha (k:=1) (by decide) hwi hsi.app.1 (by omega) (by omega)) (hsi.app.2.rng hk)
    ·rfl
  ·rfl
theorem zmR {D:Int→Prop} {l:List Ev} (h:Shy D (zek l)):Shy D l:=fun c k hx=>h c k (List.mem_filter.2 ⟨hx,rfl⟩)
theorem zo3 {p p':WP} {D:Int→Prop} (hp:p.Ok) (ha:zfZ p p' D) {a l t:Int} (h:zau p a l=true) (hs:Shy D (tRun p a l t 0)):liB p' a l=liB p a l:=by
 have:=withinF_iff.1 h
 unfold liB
 exact zdn hp ha (k:=0) (by decide) h hs (by omega) (by omega)
theorem zjM {α β:Type} {f g:α→List β}:∀ {l:List α},(∀ x∈l,f x=g x)→l.flatMap f=l.flatMap g
 | [],_=>rfl
 | x::r,h=>by rw [List.flatMap_cons,List.flatMap_cons,h x (List.mem_cons_self ..),zjM fun y hy=>h y (List.mem_cons_of_mem _ hy)]
theorem Shy.flat {D:Int→Prop} {α:Type} {f:α→List Ev} {l:List α} (h:Shy D (l.flatMap f)) {x:α} (hx:x∈l):Shy D (f x):=fun c k he=>h c k (List.mem_flatMap.2 ⟨x,hx,he⟩)
theorem zqA {U:List UInt8→Int→Bool} {p p':WP} {D:Int→Prop} (hp:p.Ok) (hcb:p.c=clus p.h.bits) (ha:zfZ p p' D) (st:Int) (l:List Snp) (hs:Shy D (l.flatMap fun x=>zby U p x.l1 x.l1len st)):(l.flatMap fun x=>zby U p' x.l1 x.l1len st)=l.flatMap fun x=>zby U p x.l1 x.l1len st :=
 zjM fun x hx=>zjW hp hcb ha (hs.flat hx)
theorem znP {U:List UInt8→Int→Bool} {S:Int→List UInt8→Int→Option (List Snp)} {p p':WP} {D:Int→Prop} (hp:p.Ok) (hcb:p.c=clus p.h.bits) (ha:zfZ p p' D) (hs:Shy D (zbA U S p)):zbA U S p'=zbA U S p:=by
 unfold zbA at hs ⊢
 rw [ha.h]
 by_cases h0:p.h.snaps=0
 ·rw [if_pos h0,if_pos h0]
 ·rw [if_neg h0] at hs
  rw [if_neg h0,if_neg h0,zcU ha,zbL ha]
  by_cases h:zau p p.h.snapsAt p.h.snapsLen=true
  ·rw [if_pos h] at hs
   rw [if_pos h,if_pos h,zo3 hp ha h hs.app.1]
   have hs2:=hs.app.2
   cases hS:S p.h.bits (liB p p.h.snapsAt p.h.snapsLen) p.h.snaps with
   | none=>rfl
   | some l =>
    rw [hS] at hs2
    simp only at hs2 ⊢
    rw [zqA hp hcb ha _ l (zmR hs2)]
  ·rw [if_neg h,if_neg h]
theorem zqz {R:Int→List UInt8→Int→Option (List Rwp)} {p p':WP} {D:Int→Prop} (hp:p.Ok) (ha:zfZ p p' D) (hs:Shy D (zdQ R p)):zdQ R p'=zdQ R p:=by
 unfold zdQ at hs ⊢
 rw [ha.h]
 split
 ·rfl
 ·rename_i h0
  rw [if_neg h0] at hs
  rw [zcU ha,zbL ha]
  congr 1
  split
  ·rename_i h
   rw [if_pos h] at hs
   rw [zo3 hp ha h hs.app.1]
   simp only [zcU ha]
  ·rfl
def zt6 (U:List UInt8→Int→Bool) (S:Int→List UInt8→Int→Option (List Snp)) (R:Int→List UInt8→Int→Option (List Rwp)) (p:WP):List Ev :=
 tRun p p.h.counts (p.h.countsLen*p.c) 40 0++(zby U p p.h.l1 p.h.l1len 24++(zbA U S p++zdQ R p))
theorem zqy {U:List UInt8→Int→Bool} {S:Int→List UInt8→Int→Option (List Snp)} {R:Int→List UInt8→Int→Option (List Rwp)} {p p':WP} {D:Int→Prop} (hp:p.Ok) (hcb:p.c=clus p.h.bits) (ha:zfZ p p' D) (hs:Shy D (zt6 U S R p)):zfn U S R p'=zfn U S R p:=by
 unfold zt6 at hs
 unfold zfn
 rw [zmA hp ha hs.app.1,ha.h,zjW hp hcb ha hs.app.2.app.1,znP hp hcb ha hs.app.2.app.2.app.1,zqz hp ha hs.app.2.app.2.app.2]
section
theorem zib {P:Program} {w:World} (base:Nat) (t ty e:TypeId) (i:TypeInfo) (size:Nat) (ht:P.underlying t=some (.slice e)) (hi:P.info? e=some i)
  (v:Value) (n:Nat) (xs:List Value) (hown:w.ownsRow base e size v n xs) (p:Option Addr) (c:Nat) :
  (Builtin.append_ #[t,t] ty #[v,.slice p 0 c]).run P w=.ok v w:=by
 rcases hown.2 with ⟨rfl,rfl⟩|⟨g,cap,cur,rfl,_,_,hnc,_⟩
 ·cases p<;>simp [Builtin.append_,run_underlying ht,sizeOf,typeInfo,hi,Builtin.lenOf,Builtin.firstCells,loadCells,loadCellsFrom]
 ·cases p<;>simp [Builtin.append_,run_underlying ht,sizeOf,typeInfo,hi,Builtin.lenOf,Builtin.firstCells,hnc,storeCells,loadCells,loadCellsFrom]
theorem zbn (k:IntKind):∀ ys:List Int,zfH (ys.map (.int k))=true
 | []=>rfl
 | _::r=>zbn k r
section
variable {cx:Cx}
theorem zfQ {m m1:Mem} {I:Sem Value} {K:Value→Mem→Prop} (h:SubM cx m m1) (hr:Rn cx m1 I K):Rn cx m I K:=fun w hm=>hr w (h w hm)
theorem zgO (ht:TabOk cx.P cx.tab) {m m':Mem} {t e ty:Nat} {i ti:TyI} {A:Option Addr} {cap n:Nat} {xs:List Value} {p:Option Addr} {c:Nat} {k:IntKind} {ys:List Int} {K:Value→Mem→Prop}
  (hi:cx.tab.get t=some i) (hk:i.kind=.slice e) (hti:cx.tab.get e=some ti) (hz:ti.zero.length=ti.cells) (hs:ti.cells=1) (hp:(Nat.ble 1 ti.cells&&Nat.ble ti.bytes 4096)=true)
  (hu:Out m (.row A cap n e 1 xs) m') (hy:∀ w,MemOk cx.w0 cx.S m w→IntsIn k w p ys)
  (hb:n+ys.length≤34359738368) (hK:∀ A' cap',K (.slice A' (n+ys.length) cap') (.row A' cap' (n+ys.length) e 1 (xs++ys.map (.int k))::m')) :
  Rn cx m (Builtin.append_ #[t,t] ty #[.slice A n cap,.slice p ys.length c]) K:=by
 by_cases h0:ys=[]
 ·subst h0
  intro w hm
  obtain ⟨inf,z,g1,g2,g3,g4,g5⟩:=TyI.zeroOf (ht _ _ hti)
  have hm1:=hm.perm hu.perm
  have hown:w.ownsRow 0 e 1 (.slice A n cap) n xs:=hm1.ok _ (List.mem_cons_self ..)
  have hr:=zib (P:=cx.P) 0 t ty e inf 1 (TyI.sliceOf (ht _ _ hi) hk) g1 _ n xs hown p c
  have:=hK A cap
  simp only [List.length_nil,Nat.add_zero,List.map_nil,List.append_nil] at this
  exact⟨_,w,_,hr,hm1,this⟩
 ·intro w hm
  have hpos:0<ys.length:=List.length_pos_iff.2 h0
  obtain ⟨b,o,rfl,_⟩:=hy w hm hpos
  refine zvD (cx:=cx) (news:=ys.map (.int k)) (a:=⟨b,o,none⟩) (k:=ys.length) (size:=1) ht hi hk hti hz hs hp hu (by simp) (fun w' hm' j u hj=>?_) ?_ hb hK w hm
  ·obtain ⟨b',o',hbo,hc⟩:=hy w' hm' hpos
   injection hbo with hbo;injection hbo with e1 e2;subst e1 e2
   rw [List.getElem?_map] at hj
   cases hys:ys[j]? with
   | none=>rw [hys] at hj;cases hj
   | some y =>
    rw [hys] at hj
    injection hj with hj
    subst hj
    have hjl:j<ys.length:=(List.getElem?_eq_some_iff.1 hys).1
    have:=hc j hjl
    rw [List.getD,hys] at this
    rw [Addr.add_lit]
    exact this
  ·exact zbn k ys
end
end
section
def zaG (order:Int):Int:=if order<0∨7≤order then 0 else [1,2,4,8,16,32,64].getD order.toNat 0
attribute [local irreducible] Br Rn RnU Cl RdG CpG Ld Rd Lp Dr Oth Cut fin Fits Eng.Enters Md NA
theorem zg8:Eng.Enters Tryz.prog 145:=zab fun _ _=>by kernel_rfl
theorem zix:Eng.Enters Tryz.prog 100:=zab fun _ _=>by kernel_rfl
theorem znI:Eng.Enters Tryz.prog 148:=zab fun _ _=>by kernel_rfl
theorem zlm (order:Int) (w:World):Calls Tryz.prog 145 #[.int .i64 order] w fun e w'=>e=.returned (.int .i64 (zaG order))∧Fr (fun _=>False) w w':=by
 refine enter (cx:=CX 14 [] w) [(0,.int .i64 order)] zaa Tryz.func145 rfl rfl rfl rfl (MemOk.nil w _) ?_
 conv=>whnf
 intro wB
 refine gGw ?_
 refine br (fun h=>?_) (fun h=>?_)
 ·refine gGw ?_
  simp only [Bool.or_eq_true,decide_eq_true_eq] at h
  refine fin1 rfl rfl (fun w' hm=>⟨?_,hm.fr⟩)
  rw [zaG,if_pos h]
 ·simp only [Bool.or_eq_false_iff,decide_eq_false_iff_not] at h
  have hc:order=0∨order=1∨order=2∨order=3∨order=4∨order=5∨order=6:=by omega
  conv=>whnf
  refine And.intro ⟨by omega,show order<(7:Int) by omega,Pl.mk _ _⟩ ?_
  conv=>whnf
  refine zai (v:=.int .i64 (zaG order)) (ld1 (cs:=[.int .i64 1,.int .i64 2,.int .i64 4,.int .i64 8,.int .i64 16,.int .i64 32,.int .i64 64]) (off:=0+mulC order.toNat 1) zaa .here rfl rfl ?_) ?_
  ·rcases hc with rfl|rfl|rfl|rfl|rfl|rfl|rfl<;>rfl
  refine gGw ?_
  exact fin1 rfl rfl (fun w' hm=>⟨rfl,hm.fr⟩)
theorem zcd (order:Int):zaG order=0∨zaG order=1∨zaG order=2∨zaG order=4∨zaG order=8∨zaG order=16∨zaG order=32∨zaG order=64:=by
 by_cases h:order<0∨7≤order
 ·rw [zaG,if_pos h];simp
 ·have hc:order=0∨order=1∨order=2∨order=3∨order=4∨order=5∨order=6:=by omega
  rcases hc with rfl|rfl|rfl|rfl|rfl|rfl|rfl<;>decide
def zpS (len:Nat) (order:Int):Int × Int:=if zaG order=0 then (0,2) else (8*(len:Int)/zaG order,0)
theorem zoz (A:Option Addr) (l c:Nat) (order:Int) (w:World) (hl:l≤140737488355328):Calls Tryz.prog 100 #[.slice A l c,.int .i64 order] w fun e w'=>e=.returned (.tuple #[.int .i64 (zpS l order).1,.int .i64 (zpS l order).2])∧Fr (fun _=>False) w w':=by
 refine enter (cx:=CX 16 [] w) [(0,.slice A l c),(1,.int .i64 order)] zaa Tryz.func100 rfl rfl rfl rfl (MemOk.nil w _) ?_
 have hwc:=zcd order
 refine gGw ?_
 refine⟨zg8,zae _ (fun w' _=>zlm order w') ?_⟩
 refine gGw ?_
 refine br_d (fun h=>?_) (fun h=>?_)
 ·refine gGw ?_
  refine fin2 rfl rfl rfl (fun w' hm=>⟨?_,hm.fr⟩)
  rw [zpS,if_pos h]
 ·have e1:IntKind.i64.wrap ((8*(l:Int)).tdiv (zaG order))=8*(l:Int)/zaG order:=by
   rw [Int.tdiv_eq_ediv_of_nonneg (by omega)]
   refine IntWalk.i64_in _ ?_
   have h1:=Int.ediv_nonneg (show 0≤8*(l:Int) by omega) (show 0≤zaG order by omega)
   have h2:=Int.ediv_le_self (zaG order) (show 0≤8*(l:Int) by omega)
   omega
  refine gGw ?_
  refine fin2 rfl rfl rfl (fun w' hm=>⟨?_,hm.fr⟩)
  rw [zpS,if_neg h,e1]
def zsJ (bs:List UInt8) (w i:Nat):Nat:=if w<8 then (bs.getD (i*w/8) 0).toNat/2 ^ (i*w%8)%2 ^ w else getV bs (i*w/8) (w/8)
theorem zxQ {x:Int} (w:Nat) (hw:w=1∨w=2∨w=4) (hx:0≤x∧x<18446744073709551616):Go.bits .and .u64 x (IntKind.u64.wrap (1*2 ^ Int.toNat (w:Int))-1)=x%2 ^ w:=by
 have h:=bits_mask .u64 64 (by decide) wraps_u64 w (by omega) x hx.1 (by omega)
 have e:IntKind.u64.wrap (1*2 ^ Int.toNat (w:Int))-1=2 ^ w-1:=by
  rcases hw with rfl|rfl|rfl<;>decide
 rw [e];exact h
theorem zvk (bs:List UInt8) (A:Option Addr) (c k i:Nat) (w:World) (hb:BytsIn w A bs) (hl:bs.length≤20000000) (hk:k=1∨k=2∨k=4∨k=8∨k=16∨k=32∨k=64) (hi:i*k+k≤8*bs.length) :
  Calls Tryz.prog 148 #[.slice A bs.length c,.int .i64 k,.int .i64 i] w fun e w'=>e=.returned (.int .u64 (zsJ bs k i))∧Fr (fun _=>False) w w':=by
 refine enter (cx:=CX 50 [] w) [(0,.slice A bs.length c),(1,.int .i64 k),(2,.int .i64 i)] zaa Tryz.func148 rfl rfl rfl rfl (MemOk.nil w _) ?_
 have h1:=fun m=>BytsIn.byts (cx:=CX 50 [] w) (m:=m) hb (fun _ h=>h)
 have hpl:Pl A:=(h1 []).plain (by omega)
 have hik:((i:Int)*(k:Int))=((i*k:Nat):Int):=by push_cast;rfl
 obtain ⟨q,hq⟩:∃ q,q=i*k:=⟨_,rfl⟩
 rw [← hq] at hik hi
 have ed:IntKind.i64.wrap ((q:Int).tdiv 8)=((q/8:Nat):Int):=by
  rw [Int.tdiv_eq_ediv_of_nonneg (by omega)];exact (IntWalk.i64_in _ (by omega)).trans (by omega)
 have em:(q:Int).tmod 8=((q%8:Nat):Int):=by rw [Int.tmod_eq_emod_of_nonneg (by omega)];omega
 refine gGw ?_
 refine br_d (fun hlt=>?_) (fun hge=>?_)
 ·have hk3:k=1∨k=2∨k=4:=by omega
  have hbd:=(bs.getD (q/8) 0).toNat_lt
  conv=>whnf
  refine zao zaa mixed (by kernel_rfl) rfl ?_
  conv=>whnf
  rw [hik]
  refine gG0 ?_
  rw [ed]
  refine And.intro ⟨by omega,by omega,hpl⟩ ?_
  conv=>whnf
  refine⟨_,((h1 _).ld zaa rfl rfl (j:=q/8) (by omega)).g,?_⟩
  refine gGw ?_
  rw [hik,em]
  refine And.intro ⟨by omega,show ((q%8:Nat):Int)≤(64:Int) by omega⟩ ?_
  refine gGw ?_
  refine And.intro ⟨by omega,show (k:Int)≤(64:Int) by omega⟩ ?_
  conv=>whnf
  refine And.intro (by rcases hk3 with rfl|rfl|rfl<;>exact zbr (by decide)) ?_
  refine gGw ?_
  refine fin1 rfl rfl (fun w' hm=>⟨?_,hm.fr⟩)
  have hx:0≤((bs.getD (q/8) 0).toNat:Int)/2 ^ Int.toNat ((q%8:Nat):Int)∧((bs.getD (q/8) 0).toNat:Int)/2 ^ Int.toNat ((q%8:Nat):Int)<18446744073709551616:=by
   have hp:(0:Int)<2 ^ Int.toNat ((q%8:Nat):Int):=Int.pow_pos (by omega)
   have h2:=Int.ediv_nonneg (show 0≤((bs.getD (q/8) 0).toNat:Int) by omega) (Int.le_of_lt hp)
   have h3:=Int.ediv_le_self (2 ^ Int.toNat ((q%8:Nat):Int)) (show 0≤((bs.getD (q/8) 0).toNat:Int) by omega)
   omega
  rw [zxQ k hk3 hx,zsJ,if_pos (by omega),← hq,Int.toNat_natCast]
  push_cast
  rfl
 ·have hk4:k=8∨k=16∨k=32∨k=64:=by omega
  have ek:IntKind.i64.wrap ((k:Int).tdiv 8)=((k/8:Nat):Int):=by
   rw [Int.tdiv_eq_ediv_of_nonneg (by omega)];exact (IntWalk.i64_in _ (by omega)).trans (by omega)
  have hq8:8*(q/8)=q:=by
   have:q%8=0:=by rw [hq];rcases hk4 with rfl|rfl|rfl|rfl<;>omega
   omega
  obtain ⟨n,hn⟩:∃ n,n=k/8:=⟨_,rfl⟩
  have hn1:1≤n∧n≤8:=by omega
  obtain ⟨a,ha⟩:∃ a,a=q/8:=⟨_,rfl⟩
  rw [← hn] at ek
  rw [← ha] at ed
  have hal:a+n≤bs.length:=by omega
  conv=>whnf
  rw [ek]
  refine gG0 ?_
  refine lp zaa (γ:=Int) (fun j=>-1≤j∧j≤n-1) (fun j=>[(8,.int .i64 j),(7,.int .u64 (getV bs (a+j+1).toNat (n-1-j).toNat)),(0,.slice A bs.length c),(1,.int .i64 k),(2,.int .i64 i)]) (fun _=>[]) (fun j=>(j+1).toNat) (n-1) (by omega)
   ⟨rfl,by rw [show ((n:Int)-1-(n-1)).toNat=0 by omega];rfl,rfl,rfl,rfl,trivial⟩ (SubM.refl _ _) ?_
  rintro j ⟨hj1,hj2⟩
  dsimp only
  refine gGw ?_
  refine br_d (fun hge=>?_) (fun hlt=>?_)
  ·have hv:=zhH bs ((a:Int)+j+1).toNat (k:=((n:Int)-1-j).toNat) (by omega)
   have hs:=zgr (bs:=bs) (j:=((a:Int)+j).toNat) (k:=((n:Int)-1-j).toNat) (by omega)
   rw [show ((a:Int)+j).toNat+1=((a:Int)+j+1).toNat by omega,show ((n:Int)-1-j).toNat+1=((n:Int)-j).toNat by omega] at hs
   have hb8:=(bs.getD ((a:Int)+j).toNat 0).toNat_lt
   refine gGw ?_
   rw [hik]
   refine gG0 ?_
   rw [ed]
   refine gG0 ?_
   refine And.intro ⟨by omega,by omega,hpl⟩ ?_
   conv=>whnf
   refine zai ((h1 _).ld zaa rfl rfl (j:=((a:Int)+j).toNat) (by omega)) ?_
   refine gGw ?_
   refine⟨j-1,by omega,by omega,⟨rfl,?_,rfl,rfl,rfl,trivial⟩,SubM.refl _ _⟩
   refine congrArg (fun x=>some (Value.int .u64 x)) ?_
   rw [show ((a:Int)+(j-1)+1).toNat=((a:Int)+j).toNat by omega,show ((n:Int)-1-(j-1)).toNat=((n:Int)-j).toNat by omega,hs]
   exact or8 hv hb8
  ·have hj:j=-1:=by omega
   subst hj
   refine gGw ?_
   refine fin1 rfl rfl (fun w' hm=>⟨?_,hm.fr⟩)
   rw [zsJ,if_neg (by omega),← hq,← ha,← hn,show ((a:Int)+-1+1).toNat=a by omega,show ((n:Int)-1 - -1).toNat=n by omega]
end
section
theorem zam:∀ b,¬ Foot [] b:=fun _ ⟨_,h,_⟩=>by cases h
theorem zk9:Eng.Enters Tryz.prog 146:=zab fun _ _=>by kernel_rfl
theorem zgv:Eng.Enters Tryz.prog 219:=zab fun _ _=>by kernel_rfl
theorem zx8 (t n c:Nat) (w:World):(zdK .eql 22 (.tmp t) (.const (.slice none 0 0)) (.slice none n c) (.slice none 0 0)).run Tryz.prog w=.ok (.bool true) w:=by kernel_rfl
theorem zxd (t n c:Nat) (a:Addr) (w:World):(zdK .eql 22 (.tmp t) (.const (.slice none 0 0)) (.slice (some a) n c) (.slice none 0 0)).run Tryz.prog w=.ok (.bool false) w:=by kernel_rfl
theorem zx7 (t n c:Nat) (w:World):(zdK .eql 23 (.tmp t) (.const (.slice none 0 0)) (.slice none n c) (.slice none 0 0)).run Tryz.prog w=.ok (.bool true) w:=by kernel_rfl
theorem zxa (t n c:Nat) (a:Addr) (w:World):(zdK .eql 23 (.tmp t) (.const (.slice none 0 0)) (.slice (some a) n c) (.slice none 0 0)).run Tryz.prog w=.ok (.bool false) w:=by kernel_rfl
attribute [local irreducible] Br Rn RnU Cl RdG CpG Ld Rd Lp Dr Oth Cut fin Fits Eng.Enters Md NA
theorem zjR (A:Option Addr) (c:Nat) (xs:List Int) (w:World) (hb:IntsIn .i64 w A xs) (hn:xs.length≤34359738368) :
  Ctr Tryz.prog 219 [.slice A xs.length c] [] (fun e m'=>∃ A' c',e=.returned (.slice A' xs.length c')∧m'=[.row A' c' xs.length 3 1 (xs.map (.int .i64))]) w:=by
 have hF:∀ w',Fr (Foot []) w w'→IntsIn .i64 w' A xs:=fun w' hf hn=>let ⟨b,o,e,hc⟩:=hb hn;⟨b,o,e,fun i hi=>(World.cell?_of_block (hf.block b (World.block_lt_of_cell? w ⟨b,o+i,none⟩ (hc i hi)) (zam _))).trans (hc i hi)⟩
 cases A with
 | none =>
  have h0:xs=[]:=by
   cases xs with
   | nil=>rfl
   | cons x r=>obtain ⟨b,o,e,_⟩:=hb (by simp);cases e
  subst h0
  refine enter (cx:=CXS 8 [] w (Foot [])) [(0,.slice none 0 c)] zaa Tryz.func219 rfl rfl rfl rfl (MemOk.nil w _) ?_
  refine gGw ?_
  refine Rd.n (zcl fun w=>zx7 _ _ _ w) ?_
  conv=>whnf
  refine br_t rfl ?_
  conv=>whnf
  exact fin1 rfl rfl (fun w' hm=>⟨_,⟨_,_,rfl,rfl⟩,hm.nilRow 3 1⟩)
 | some a =>
  refine enter (cx:=CXS 8 [] w (Foot [])) [(0,.slice (some a) xs.length c)] zaa Tryz.func219 rfl rfl rfl rfl (MemOk.nil w _) ?_
  refine gGw ?_
  refine Rd.n (zcl fun w=>zxa _ _ _ _ w) ?_
  conv=>whnf
  refine br_f rfl ?_
  conv=>whnf
  intro zB
  conv=>whnf
  refine zfQ (SubM.torow (xs:=[]) (n:=0) (b:=zB) (by repeat constructor) rfl rfl) ?_
  refine zgO (k:=.i64) zaa rfl rfl rfl rfl rfl rfl .here (fun w' hm=>hF w' hm.fr) (by omega) (fun A1 c1=>?_)
  conv=>whnf
  refine fin1 rfl rfl (fun w' hm=>⟨_,⟨A1,c1,by rw [Nat.zero_add],by rw [Nat.zero_add];rfl⟩,hm⟩)
theorem zqq (A:Option Addr) (c:Nat) (xs:List Int) (w:World) (hb:IntsIn .u8 w A xs) (hn:xs.length≤34359738368) :
  Ctr Tryz.prog 146 [.slice A xs.length c] [] (fun e m'=>∃ A' c',e=.returned (.slice A' xs.length c')∧m'=[.row A' c' xs.length 5 1 (xs.map (.int .u8))]) w:=by
 have hF:∀ w',Fr (Foot []) w w'→IntsIn .u8 w' A xs:=fun w' hf hn=>let ⟨b,o,e,hc⟩:=hb hn;⟨b,o,e,fun i hi=>(World.cell?_of_block (hf.block b (World.block_lt_of_cell? w ⟨b,o+i,none⟩ (hc i hi)) (zam _))).trans (hc i hi)⟩
 cases A with
 | none =>
  have h0:xs=[]:=by
   cases xs with
   | nil=>rfl
   | cons x r=>obtain ⟨b,o,e,_⟩:=hb (by simp);cases e
  subst h0
  refine enter (cx:=CXS 8 [] w (Foot [])) [(0,.slice none 0 c)] zaa Tryz.func146 rfl rfl rfl rfl (MemOk.nil w _) ?_
  refine gGw ?_
  refine Rd.n (zcl fun w=>zx8 _ _ _ w) ?_
  conv=>whnf
  refine br_t rfl ?_
  conv=>whnf
  exact fin1 rfl rfl (fun w' hm=>⟨_,⟨_,_,rfl,rfl⟩,hm.nilRow 5 1⟩)
 | some a =>
  refine enter (cx:=CXS 8 [] w (Foot [])) [(0,.slice (some a) xs.length c)] zaa Tryz.func146 rfl rfl rfl rfl (MemOk.nil w _) ?_
  refine gGw ?_
  refine Rd.n (zcl fun w=>zxd _ _ _ _ w) ?_
  conv=>whnf
  refine br_f rfl ?_
  conv=>whnf
  intro zB
  conv=>whnf
  refine zfQ (SubM.torow (xs:=[]) (n:=0) (b:=zB) (by repeat constructor) rfl rfl) ?_
  refine zgO (k:=.u8) zaa rfl rfl rfl rfl rfl rfl .here (fun w' hm=>hF w' hm.fr) (by omega) (fun A1 c1=>?_)
  conv=>whnf
  refine fin1 rfl rfl (fun w' hm=>⟨_,⟨A1,c1,by rw [Nat.zero_add],by rw [Nat.zero_add];rfl⟩,hm⟩)
theorem zqr (A:Option Addr) (c:Nat) (bs:List UInt8) (w:World) (hb:BytsIn w A bs) (hn:bs.length≤34359738368) :
  Ctr Tryz.prog 146 [.slice A bs.length c] [] (fun e m'=>∃ A' c',e=.returned (.slice A' bs.length c')∧m'=[.row A' c' bs.length 5 1 ((zag bs).map (.int .u8))]) w:=by
 have:=zqq A c (zag bs) w hb (by rw [zaf];exact hn)
 rwa [zaf] at this
theorem zqx:Eng.Enters Tryz.prog 101:=zab fun _ _=>by kernel_rfl
abbrev AlM (bB oB:Nat) (A:Option Addr) (c:Nat) (bs:List UInt8) (order:Int):Mem:=[.blk bB (.cells [.slice A bs.length c].toArray 22),.blk oB (.cells [.int .i64 order].toArray 3),.row A c bs.length 5 1 ((zag bs).map (.int .u8))]
theorem zxq (A:Option Addr) (c:Nat) (bs:List UInt8) (order:Int) (w:World) (hb:BytsIn w A bs) (hn:bs.length≤20000000) :
  Ctr Tryz.prog 101 [.slice A bs.length c,.int .i64 order] [] (fun e m'=>∃ bB oB A' c',e=.returned (.func (.func 147) #[] #[.pointer (some ⟨bB,0,none⟩),.pointer (some ⟨oB,0,none⟩)])∧m'=AlM bB oB A' c' bs order) w:=by
 have hF:∀ w',Fr (Foot []) w w'→BytsIn w' A bs:=fun w' hf=>Byts.in_ (BytsIn.byts (cx:=CX 0 [] w) (m:=[]) hb (fun _ h=>h)) ((MemOk.nil w _).same (hf.mono (fun k _ ⟨r,hr,_⟩=>by cases hr)))
 refine enter (cx:=CXS 8 [] w (Foot [])) [(0,.slice A bs.length c),(1,.int .i64 order)] zaa Tryz.func101 rfl rfl rfl rfl (MemOk.nil w _) ?_
 conv=>whnf
 intro bB
 conv=>whnf
 intro oB
 refine gGw ?_
 refine⟨zk9,zac (m1:=[]) .nil (fun w' hm'=>zqr A c bs w' (hF w' hm'.fr) (by omega)) ?_⟩
 rintro e m' ⟨A',c',rfl,rfl⟩
 refine gGw ?_
 exact fin1 rfl rfl (fun w' hm=>⟨_,⟨bB,oB,A',c',rfl,rfl⟩,hm.sl⟩)
end
section
section
variable {cx:Cx} {r:Option Nat} {n:Nat} {ops:Array Oper} {Q:Exit→Go.Act→World→Prop} {a:Go.Act} {w:World} {e:Env} {m m':Mem}
theorem onIn {F:Fence} {P:Program} {o:Oper} {rest:List Oper} (hw:Region.wanted o (yielded ops a.tmps)=true) (h:o.wpIn F n P a w (wpListIn F n P ops Q rest) Q):wpListIn F n P ops Q (o::rest) a w:=by
 rw [wpListIn,if_pos hw];exact h
theorem zf7 {o:Oper} {rest:List Oper} {V:Value} (ht:TabOk cx.P cx.tab) (he:EnvOk cx.n cx.df e a) (hm:MemOk cx.w0 cx.S m w) (hw:Region.wanted o (yielded ops a.tmps)=true) (hd:∀ c,o.op≠.defer c) (hds:o.dst.all (fun i=>decide (i<cx.n))=true)
  (hx:XO cx o.dst o.op o.type e m (fun v m1=>v=V∧m1=m') (fun _ _=>False)) (hk:∀ a' w',EnvOk cx.n cx.df (e.putD o.dst V) a'→MemOk cx.w0 cx.S m' w'→wpListIn (wr r) n cx.P ops Q rest a' w'):wpListIn (wr r) n cx.P ops Q (o::rest) a w :=
 onIn hw (zxN hd (fun _ _ h=>h) (zsZ ht he hm hx (fun v m1 w' hm' ⟨hv,hm1⟩=>by subst hv hm1;exact hk _ w' (he.put hds _) hm') (fun _ _ _ _ h=>h.elim)))
theorem zlz {cx:Cx} {o:Oper} {rest:List Oper} (he:EnvOk cx.n cx.df e a) (hw:Region.wanted o (yielded ops a.tmps)=false) (hds:o.dst.all (fun i=>decide (i<cx.n))=true)
  (hk:∀ a',EnvOk cx.n cx.df (e.putD o.dst undef) a'→wpListIn (wr r) n cx.P ops Q rest a' w):wpListIn (wr r) n cx.P ops Q (o::rest) a w:=by
 rw [wpListIn,if_neg (by rw [hw];exact Bool.false_ne_true)]
 exact⟨fun _ _=>trivial,hk _ (he.put hds _)⟩
theorem zv1 {P:Program} {D:List Deferred} {nn:Nat} {o:Oper} {rest:List Oper} {l:Nat} {f:Operand} {args:Array Operand} {tys:Array Nat} {vs:List Value} {R:Ending→World→Prop} (he:EnvOk nn D e a) (hw:Region.wanted o (yielded ops a.tmps)=true)
  (ho:o.op=.call ⟨.value f,args,tys⟩) (hf:e.ev f=some (.func (.yield l) #[] #[])) (ha:Env.evs e args.toList=some vs) (hY:YieldAt Fence.wide 0 P l vs.toArray w R) (hds:o.dst.all (fun i=>decide (i<nn))=true) (hk:∀ en w',R en w'→∃ v,en=.returned v∧∀ a',EnvOk nn D (e.putD o.dst v) a'→wpListIn (wr none) 1 P ops Q rest a' w'):wpListIn (wr none) 1 P ops Q (o::rest) a w:=by
 obtain ⟨fn,tmps,assign,body,hy,hR⟩:=hY
 refine onIn hw ⟨fun _ _=>trivial,?_⟩
 rw [show (wr none).round=none from rfl,Oper.semAt_eq _ _ _ (by intro c h;rw [ho] at h;cases h),zqc he ho hf ha hy]
 refine⟨fun h=>(by cases h),hR.mono ?_⟩
 intro e w' h
 obtain ⟨v,rfl,hk⟩:=hk _ w' h
 exact hk _ (he.put hds _)
end
end
end Go.Proofs.YtlmgelmloddfgaaGreat
