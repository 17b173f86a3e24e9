/- Part of a proof: contracts of the functions that the law reaches. No statement of the seat is proved here. -/
import Derived.Test.YtlmgelmloddfgaaGreatCdM7
import Derived.Lib.AppendStr
set_option linter.unusedVariables false
set_option linter.unusedSimpArgs false
set_option linter.unusedSectionVars false
set_option maxRecDepth 100000
namespace Go.Proofs.YtlmgelmloddfgaaGreat
open Go Go.RowKit Eng
theorem zuG {e:En} {bits:Int} (h:zfq e bits=true):(0≤e.place∧e.place≤268435456)∧(0≤e.len∧e.len≤16383)∧((e.kind=0∨e.kind=1)∧e.place=0∧e.len=0∨e.kind=2∧e.len=0∨e.kind=3):=by
 unfold zfq at h
 split at h
 ·cases h
 ·rename_i hb
  have hcb:=zc4 (bits:=bits) (by omega)
  split at h
  ·simp only [Bool.and_eq_true,decide_eq_true_eq] at h;omega
  ·split at h
   ·simp only [Bool.and_eq_true,decide_eq_true_eq,zgQ] at h;omega
   ·split at h
    ·simp only [Bool.and_eq_true,decide_eq_true_eq] at h;omega
    ·cases h
attribute [local irreducible] Br Rn RnU Cl RdG CpG Ld Rd Lp Dr Oth Cut fin Fits Eng.Enters Md NA
theorem zgK (e:En) (bits:Int) (w:World) (hm:zfq e bits=true) :
  Calls Tryz.prog 187 #[e.val] w fun e' w'=>e'=.returned (.int .u64 (zcL e))∧Fr (fun _=>False) w w':=by
 obtain ⟨h1,h2,h3⟩:=zuG hm
 refine enter (cx:=CX 23 [] w) [(0,e.val)] zaa Tryz.func187 rfl rfl rfl rfl (MemOk.nil w _) ?_
 refine gGw ?_;(repeat ((first|refine .mk fun Ap capp=>?_|intro _);(conv=>whnf);refine gG0 ?_))
 refine br_d (fun h=>?_) (fun h=>?_)
 ·have ew:zcL e=e.place+2:=if_pos h
  rw [ew]
  refine gGw ?_
  exact fin1 rfl rfl (fun w' hm=>⟨rfl,hm.fr⟩)
 ·have ew:zcL e=e.place*65536+4*e.len+e.kind:=by
   unfold zcL
   rw [if_neg h]
   split<;>omega
  have hk:0≤e.kind∧e.kind≤3:=by omega
  rw [ew]
  refine gGw ?_
  exact fin1 rfl rfl (fun w' hm=>⟨rfl,hm.fr⟩)
def ofRw (x:Int):En:=if x%4=2 then ⟨2,(x-2)%9223372036854775808,0⟩ else if x%4=3 then ⟨3,x/65536,x%65536/4⟩ else ⟨x%4,0,0⟩
def ofR (x bits:Int):Option En:=if zfq (ofRw x) bits=true∧zcL (ofRw x)=x then some (ofRw x) else none
theorem zrF (x:Int):(ofRw x).kind=x%4:=by
 unfold ofRw
 split
 ·rename_i h;exact h.symm
 ·split
  ·rename_i h;exact h.symm
  ·rfl
theorem zue (x bits:Int) (w:World) (hx:0≤x∧x<18446744073709551616) :
  Calls Tryz.prog 155 #[.int .u64 x,.int .i64 bits] w fun e' w'=>e'=.returned (match ofR x bits with
   | none=>.tuple #[(⟨0,0,0⟩:En).val,.bool false]
   | some e=>.tuple #[e.val,.bool true])∧Fr (fun _=>False) w w':=by
 refine enter (cx:=⟨Tryz.prog,45,w,fun _=>False,tab,[],[187],[],[]⟩) [(0,.int .u64 x),(1,.int .i64 bits)] zaa Tryz.func155 rfl rfl rfl rfl (MemOk.nil w _) ?_
 have e4:x.tmod 4=x%4:=Int.tmod_eq_emod_of_nonneg hx.1
 refine gGw ?_;(repeat ((first|refine .mk fun Ap capp=>?_|intro _);(conv=>whnf);refine gG0 ?_))
 by_cases h2:x%4=2
 ·have eR:ofRw x=⟨2,(x-2)%9223372036854775808,0⟩:=if_pos h2
  have e63:(x-2).tmod 9223372036854775808=(x-2)%9223372036854775808:=Int.tmod_eq_emod_of_nonneg (by omega)
  refine br_t (decide_eq_true (e4.trans h2)) ?_
  refine gGw ?_
  rw [e63]
  refine br_f (decide_eq_false (by omega)) ?_
  refine gGw ?_
  rw [e4,h2]
  have eO:ofR x bits=if zfq ⟨2,(x-2)%9223372036854775808,0⟩ bits=true∧zcL ⟨2,(x-2)%9223372036854775808,0⟩=x then some ⟨2,(x-2)%9223372036854775808,0⟩ else none:=by unfold ofR;rw [eR]
  rw [eO]
  refine⟨zeN,zae _ (fun w' _=>zh6 ⟨2,(x-2)%9223372036854775808,0⟩ bits w' ⟨by show (-4611686018427387904:Int)≤0;decide,by show (0:Int)≤4611686018427387904;decide⟩ ⟨by show -4611686018427387904≤(x-2)%9223372036854775808;omega,by show (x-2)%9223372036854775808≤9223372036854775807;omega⟩) ?_⟩
  cases hm:zfq ⟨2,(x-2)%9223372036854775808,0⟩ bits with
  | false =>
   rw [if_neg (fun h=>absurd h.1 (by decide))]
   refine gGw ?_
   refine⟨.int .u64 0,cpg zbT (fun hg=>absurd hg (by decide)),?_⟩
   refine gGw ?_
   refine br_t rfl ?_
   refine gGw ?_
   exact zbW rfl rfl (ldN (vs:=(⟨0,0,0⟩:En).cells) zaa (by repeat constructor) rfl rfl rfl rfl) rfl (fun w' hm=>⟨rfl,hm.fr⟩)
  | true =>
   refine gGw ?_
   refine⟨_,cpg zbT (fun _ w' _=>zgK ⟨2,(x-2)%9223372036854775808,0⟩ bits w' hm),?_⟩
   refine gGw ?_
   by_cases hw:zcL ⟨2,(x-2)%9223372036854775808,0⟩=x
   ·rw [if_pos ⟨rfl,hw⟩]
    refine br_f (by rw [decide_eq_true hw];rfl) ?_
    refine gGw ?_
    exact zbW rfl rfl (ldN (vs:=(⟨2,(x-2)%9223372036854775808,0⟩:En).cells) zaa (by repeat constructor) rfl rfl rfl rfl) rfl (fun w' hm=>⟨rfl,hm.fr⟩)
   ·rw [if_neg (fun h=>hw h.2)]
    refine br_t (by rw [decide_eq_false hw];rfl) ?_
    refine gGw ?_
    exact zbW rfl rfl (ldN (vs:=(⟨0,0,0⟩:En).cells) zaa (by repeat constructor) rfl rfl rfl rfl) rfl (fun w' hm=>⟨rfl,hm.fr⟩)
 refine br_f (decide_eq_false (by omega)) ?_
 refine gGw ?_
 by_cases h3:x%4=3
 ·have eR:ofRw x=⟨3,x/65536,x%65536/4⟩:=by unfold ofRw;rw [if_neg h2,if_pos h3]
  have eq1:IntKind.u64.wrap (x.tdiv 65536)=x/65536:=by rw [Int.tdiv_eq_ediv_of_nonneg hx.1];exact IntWalk.u64_in _ (by omega)
  have eq2:IntKind.u64.wrap ((x.tmod 65536).tdiv 4)=x%65536/4:=by rw [Int.tmod_eq_emod_of_nonneg hx.1,Int.tdiv_eq_ediv_of_nonneg (by omega)];exact IntWalk.u64_in _ (by omega)
  refine br_t (decide_eq_true (e4.trans h3)) ?_
  refine gGw ?_
  rw [eq1]
  refine gG0 ?_
  rw [eq2]
  refine gG0 ?_
  rw [e4,h3]
  have eO:ofR x bits=if zfq ⟨3,x/65536,x%65536/4⟩ bits=true∧zcL ⟨3,x/65536,x%65536/4⟩=x then some ⟨3,x/65536,x%65536/4⟩ else none:=by unfold ofR;rw [eR]
  rw [eO]
  refine⟨zeN,zae _ (fun w' _=>zh6 ⟨3,x/65536,x%65536/4⟩ bits w' ⟨by show -4611686018427387904≤x%65536/4;omega,by show x%65536/4≤4611686018427387904;omega⟩ ⟨by show -4611686018427387904≤x/65536;omega,by show x/65536≤9223372036854775807;omega⟩) ?_⟩
  cases hm:zfq ⟨3,x/65536,x%65536/4⟩ bits with
  | false =>
   rw [if_neg (fun h=>absurd h.1 (by decide))]
   refine gGw ?_
   refine⟨.int .u64 0,cpg zbT (fun hg=>absurd hg (by decide)),?_⟩
   refine gGw ?_
   refine br_t rfl ?_
   refine gGw ?_
   exact zbW rfl rfl (ldN (vs:=(⟨0,0,0⟩:En).cells) zaa (by repeat constructor) rfl rfl rfl rfl) rfl (fun w' hm=>⟨rfl,hm.fr⟩)
  | true =>
   refine gGw ?_
   refine⟨_,cpg zbT (fun _ w' _=>zgK ⟨3,x/65536,x%65536/4⟩ bits w' hm),?_⟩
   refine gGw ?_
   by_cases hw:zcL ⟨3,x/65536,x%65536/4⟩=x
   ·rw [if_pos ⟨rfl,hw⟩]
    refine br_f (by rw [decide_eq_true hw];rfl) ?_
    refine gGw ?_
    exact zbW rfl rfl (ldN (vs:=(⟨3,x/65536,x%65536/4⟩:En).cells) zaa (by repeat constructor) rfl rfl rfl rfl) rfl (fun w' hm=>⟨rfl,hm.fr⟩)
   ·rw [if_neg (fun h=>hw h.2)]
    refine br_t (by rw [decide_eq_false hw];rfl) ?_
    refine gGw ?_
    exact zbW rfl rfl (ldN (vs:=(⟨0,0,0⟩:En).cells) zaa (by repeat constructor) rfl rfl rfl rfl) rfl (fun w' hm=>⟨rfl,hm.fr⟩)
 ·have eR:ofRw x=⟨x%4,0,0⟩:=by unfold ofRw;rw [if_neg h2,if_neg h3]
  refine br_f (decide_eq_false (by omega)) ?_
  refine gGw ?_
  rw [e4]
  have eO:ofR x bits=if zfq ⟨x%4,0,0⟩ bits=true∧zcL ⟨x%4,0,0⟩=x then some ⟨x%4,0,0⟩ else none:=by unfold ofR;rw [eR]
  rw [eO]
  refine⟨zeN,zae _ (fun w' _=>zh6 ⟨x%4,0,0⟩ bits w' ⟨by show (-4611686018427387904:Int)≤0;decide,by show (0:Int)≤4611686018427387904;decide⟩ ⟨by show (-4611686018427387904:Int)≤0;decide,by show (0:Int)≤9223372036854775807;decide⟩) ?_⟩
  cases hm:zfq ⟨x%4,0,0⟩ bits with
  | false =>
   rw [if_neg (fun h=>absurd h.1 (by decide))]
   refine gGw ?_
   refine⟨.int .u64 0,cpg zbT (fun hg=>absurd hg (by decide)),?_⟩
   refine gGw ?_
   refine br_t rfl ?_
   refine gGw ?_
   exact zbW rfl rfl (ldN (vs:=(⟨0,0,0⟩:En).cells) zaa (by repeat constructor) rfl rfl rfl rfl) rfl (fun w' hm=>⟨rfl,hm.fr⟩)
  | true =>
   refine gGw ?_
   refine⟨_,cpg zbT (fun _ w' _=>zgK ⟨x%4,0,0⟩ bits w' hm),?_⟩
   refine gGw ?_
   by_cases hw:zcL ⟨x%4,0,0⟩=x
   ·rw [if_pos ⟨rfl,hw⟩]
    refine br_f (by rw [decide_eq_true hw];rfl) ?_
    refine gGw ?_
    exact zbW rfl rfl (ldN (vs:=(⟨x%4,0,0⟩:En).cells) zaa (by repeat constructor) rfl rfl rfl rfl) rfl (fun w' hm=>⟨rfl,hm.fr⟩)
   ·rw [if_neg (fun h=>hw h.2)]
    refine br_t (by rw [decide_eq_false hw];rfl) ?_
    refine gGw ?_
    exact zbW rfl rfl (ldN (vs:=(⟨0,0,0⟩:En).cells) zaa (by repeat constructor) rfl rfl rfl rfl) rfl (fun w' hm=>⟨rfl,hm.fr⟩)
theorem zxK (x bits:Int) (hx:0≤x∧x<18446744073709551616):ofR x bits=if (ofE x bits).2=0 then some (ofE x bits).1 else none:=by
 unfold ofR ofE
 have hk:=zrF x
 by_cases hb:bits<9∨16<bits
 ·rw [if_pos hb,if_neg (fun h=>by rw [zfq,if_pos hb] at h;cases h.1)]
  rfl
 rw [if_neg hb,zuF _ _ (by rw [hk];omega)]
 have hcb:=zc4 (bits:=bits) (by omega)
 by_cases h2:x%4=2
 ·have eR:ofRw x=⟨2,(x-2)%9223372036854775808,0⟩:=if_pos h2
  have eW:ofW x=⟨2,IntKind.i64.wrap (x-x%4),0⟩:=if_pos h2
  by_cases hlt:x-2<9223372036854775808
  ·have e:ofRw x=ofW x:=by
    rw [eR,eW,h2,IntWalk.i64_in _ (by omega),Int.emod_eq_of_lt (by omega) hlt]
   rw [e]
   by_cases hC:entE (ofW x) bits=0∧zcL (ofW x)=x
   ·rw [if_pos hC,if_pos ⟨decide_eq_true hC.1,hC.2⟩];rfl
   ·rw [if_neg hC,if_neg (fun h=>hC ⟨of_decide_eq_true h.1,h.2⟩)];rfl
  ·have n1:¬ (decide (entE (ofRw x) bits=0)=true∧zcL (ofRw x)=x):=by
    rw [eR]
    rintro ⟨_,h⟩
    have:(x-2)%9223372036854775808+2=x:=h
    omega
   have n2:¬ (entE (ofW x) bits=0∧zcL (ofW x)=x):=by
    rw [eW,h2]
    rintro ⟨h,h'⟩
    have hw:IntKind.i64.wrap (x-2)+2=x:=h'
    rw [IntKind.wrap_i64] at hw
    omega
   rw [if_neg n1,if_neg n2];rfl
 ·have e:ofRw x=ofW x:=by
   unfold ofRw ofW
   rw [if_neg h2,if_neg h2]
   split
   ·have:x%65536/4=x/4%16384:=by omega
    rw [this]
   ·rfl
  rw [e]
  by_cases hC:entE (ofW x) bits=0∧zcL (ofW x)=x
  ·rw [if_pos hC,if_pos ⟨decide_eq_true hC.1,hC.2⟩];rfl
  ·rw [if_neg hC,if_neg (fun h=>hC ⟨of_decide_eq_true h.1,h.2⟩)];rfl
end Go.Proofs.YtlmgelmloddfgaaGreat
namespace Go.Proofs.YtlmgelmloddfgaaGreat
open Go Go.RowKit Eng
def zda (U:List UInt8→Int→Bool):Prop:=∀ (A:Option Addr) (c:Nat) (bs:List UInt8) (most:Int) (w:World),BytsIn w A bs→bs.length≤20000→0≤most∧most≤1048576 →
 Ctr Tryz.prog 188 [.slice A bs.length c,.int .i64 most] [] (fun e m'=>(∃ rA rl rc k lA ll lc no,e=.returned (.tuple #[.slice rA rl rc,.int .i64 k,.slice lA ll lc,.int .i64 no])∧U bs most=(!decide (no=0)||!decide (((rl:Nat):Int)=most)))∧m'=[]) w
theorem zxb {cx:Cx} {id:Nat} {ops:Array Oper} {k:Exit→Env→Mem→Prop} {e:Env} {m m1:Mem} (hs:SubM cx m m1) (h:Dr cx id ops k e m1):Dr cx id ops k e m:=fun a w he hm=>h a w he (hs w hm)
theorem zvt {U:List UInt8→Int→Bool} (hU:zda U) {n:Nat} (A:Option Addr) (c:Nat) (bs:List UInt8) (most:Int) (w:World) (hn:bs.length=n) (hb:BytsIn w A bs) (hl:n≤20000) (hm:0≤most∧most≤1048576) :
  Ctr Tryz.prog 188 [.slice A n c,.int .i64 most] [] (fun e m'=>(∃ rA rl rc k lA ll lc no,e=.returned (.tuple #[.slice rA rl rc,.int .i64 k,.slice lA ll lc,.int .i64 no])∧U bs most=(!decide (no=0)||!decide (((rl:Nat):Int)=most)))∧m'=[]) w:=by
 subst hn
 exact hU A c bs most w hb hl hm
def zhQ (U:List UInt8→Int→Bool) (p:WP) (at_:Int) (e:En):List Ev :=
 tRun p (e.place.tdiv p.c*p.c) p.c at_ 3++if zay p (e.place.tdiv p.c*p.c) p.c then .packed::(if U (pkB p e) p.c then [.find ⟨5,at_,0,0⟩] else []) else []
attribute [local irreducible] Br Rn RnU Cl RdG CpG Ld Rd Lp Dr Oth Cut fin Fits Eng.Enters Md NA
theorem zh0:Eng.Enters Tryz.prog 188:=zab fun _ _=>by kernel_rfl
theorem zmT:Eng.Enters Tryz.prog 156:=zab fun _ _=>by kernel_rfl
set_option maxHeartbeats 1000000 in
theorem zub (U:List UInt8→Int→Bool) (hU:zda U) (p:WP) (s:RS) (g:RG) (e:En) (t:Int) (w:World) (hp:p.Ok) (hlb:p.bs.length≤20000) (hcap:p.bs.length≤p.cap) (hbits:p.h.bits≤60) (hcb:p.c=clus p.h.bits) (hl:s.len≤15000000000) (hk:e.kind=3) (hok:zdT e p.c=true) (hb:BInR p s g w) (hm:MemOk w (Foot (rM p s g)) (rM p s g) w) :
  Ctr Tryz.prog 156 [.pointer (some ⟨p.wB,0,none⟩),e.val,.int .i64 t] (rM p s g) (RwR p (.tuple #[]) (zaw s (zhQ U p t e))) w:=by
 refine enter (cx:=⟨Tryz.prog,68,w,Foot (rM p s g),tab,[34],[71],[],[]⟩) [(0,.pointer (some ⟨p.wB,0,none⟩)),(1,e.val),(2,.int .i64 t)] zaa Tryz.func156 rfl rfl rfl rfl hm ?_
 have hc0:=hp.c0
 have hc1:=hp.c1
 have hlen:=hp.len
 unfold zdT at hok
 rw [hk,if_neg (by omega),if_neg (by omega),if_pos rfl] at hok
 simp only [Bool.and_eq_true,decide_eq_true_eq] at hok
 obtain ⟨⟨⟨⟨⟨k1,k2⟩,k3⟩,k4⟩,k5⟩,k6⟩:=hok
 have hd:e.place-e.place.tmod p.c=e.place.tdiv p.c*p.c:=by
  rw [Int.tdiv_eq_ediv_of_nonneg (by omega),Int.tmod_eq_emod_of_nonneg (by omega),Int.mul_comm]
  have:=Int.mul_ediv_add_emod e.place p.c
  omega
 have hmb:0≤e.place.tmod p.c∧e.place.tmod p.c<p.c:=by
  rw [Int.tmod_eq_emod_of_nonneg (by omega)]
  exact⟨Int.emod_nonneg _ (by omega),Int.emod_lt_of_pos _ (by omega)⟩
 refine gGw ?_;(repeat ((first|refine .mk fun Ap capp=>?_|intro _);(conv=>whnf);refine gG0 ?_))
 rename_i eB
 refine⟨zbr,zae _ (fun w' hm'=>zcJ p s g w' hbits hcb (zdB (r:=[]) (hm'.sel (by repeat constructor)))) ?_⟩
 conv=>whnf
 obtain ⟨Q,hQ⟩:∃ Q,Q=e.place.tdiv p.c*p.c:=⟨_,rfl⟩
 rw [← hQ] at hd
 have hQ1:0≤Q∧Q≤e.place∧e.place+e.len≤Q+p.c:=by
  have h1:e.place.tdiv p.c=e.place/p.c:=Int.tdiv_eq_ediv_of_nonneg (by omega)
  have h2:(e.place+e.len-1).tdiv p.c=(e.place+e.len-1)/p.c:=Int.tdiv_eq_ediv_of_nonneg (by omega)
  have h5:=Int.mul_ediv_add_emod (e.place+e.len-1) p.c
  have h6:=Int.emod_lt_of_pos (e.place+e.len-1) (show 0<p.c by omega)
  have h7:=Int.ediv_nonneg (show 0≤e.place by omega) (show 0≤p.c by omega)
  rw [h1,h2] at k6
  rw [← k6] at h5
  rw [h1,Int.mul_comm] at hQ
  have h8:=Int.mul_nonneg (show 0≤p.c by omega) h7
  omega
 have eT:zhQ U p t e=tRun p Q p.c t 3++if zay p Q p.c then .packed::(if U (pkB p e) p.c then [.find ⟨5,t,0,0⟩] else []) else []:=by unfold zhQ;rw [← hQ]
 rw [eT]
 refine zcd (γ:=RG) (Tr.hs [0,1,2,3,4,5,6,7,8,9] (.sq [10] (.hs [11] .done))) [.blk eB (.cells e.cells.toArray 163)] zaa mixed (by kernel_rfl) rfl (fun _=>True)
  (fun _=>[(24,.bool (!zay p Q p.c)),(6,.int .i64 p.c),(4,.pointer (some ⟨eB,0,none⟩)),(0,.pointer (some ⟨p.wB,0,none⟩)),(2,.int .i64 t)]) (fun g3=>.blk eB (.cells e.cells.toArray 163)::rM p (zaw s (tRun p Q p.c t 3)) g3) SubM.sl ?_ ?_
 ·refine gGw ?_
  rw [hd]
  refine⟨zaY,zac (m1:=rM p s g) (by repeat constructor) (fun w' hm'=>zbC p s g Q p.c 3 t w' hp (by omega) hbits hcb (by omega) (by omega) (by omega) (by omega) hm'.part) ?_⟩
  rintro e' m' ⟨rfl,g3,rfl⟩
  conv=>whnf
  refine gGs ?_
  refine gGw ?_
  exact⟨g3,trivial,⟨rfl,rfl,rfl,rfl,rfl,trivial⟩,SubM.sl⟩
 intro g3 _
 have hln:=za1 (tRun p Q p.c t 3) s
 have htl:=zb9 hp Q p.c t 3
 have hnb:=n_bd hp
 have eA:zaw s (tRun p Q p.c t 3++if zay p Q p.c then Ev.packed::(if U (pkB p e) p.c then [.find ⟨5,t,0,0⟩] else []) else [])=zaw (zaw s (tRun p Q p.c t 3)) (if zay p Q p.c then Ev.packed::(if U (pkB p e) p.c then [.find ⟨5,t,0,0⟩] else []) else []):=zbp ..
 rw [eA]
 clear eA eT
 generalize zaw s (tRun p Q p.c t 3)=s1 at hln ⊢
 conv=>whnf
 refine br_n (br (fun hok=>?_) (fun hok=>?_))
 ·have hle:=zaI hp hok
  rw [if_pos hok]
  have eP:zaw s1 (Ev.packed::(if U (pkB p e) p.c then [.find ⟨5,t,0,0⟩] else []))=zaw (appR s1 .packed) (if U (pkB p e) p.c then [.find ⟨5,t,0,0⟩] else []):=rfl
  rw [eP]
  have hl2:=zhD s1 .packed
  have hPl:Pl p.A:=by
   obtain ⟨b,o,h,_⟩:=hb.now (by rw [zag];omega)
   exact⟨b,o,h⟩
  refine gGw ?_
  refine br (fun ha=>?_) (fun ha=>?_)
  ·refine gGw ?_
   refine zxb (m1:=.blk eB (.cells e.cells.toArray 163)::rM p (appR s1 .packed) g3) ?_ ?_
   ·rw [show appR s1 .packed={ s1 with packed:=inc s1.packed } from if_pos ha]
    exact SubM.sl
   generalize appR s1 .packed=s2 at hl2 ⊢
   refine zcd (γ:=Option Addr × Nat × Nat × Int) (Tr.hs [0,1,2,3,4,5,6,7,8,9,10,11,12] (.sq [13] (.hs [14,15,16,17,18,19,20,21,22] .done))) (.blk eB (.cells e.cells.toArray 163)::rM p s2 g3) zaa mixed (by kernel_rfl) rfl (fun q=>U (pkB p e) p.c=(!decide (q.2.2.2=0)||!decide (((q.2.1:Nat):Int)=p.c)))
    (fun q=>[(10,.int .i64 q.2.2.2),(7,.slice q.1 q.2.1 q.2.2.1),(6,.int .i64 p.c),(0,.pointer (some ⟨p.wB,0,none⟩)),(2,.int .i64 t)]) (fun _=>rM p s2 g3) SubM.sl ?_ ?_
   ·refine gGw ?_
    refine And.intro ⟨by omega,by omega,by omega,.inr hPl⟩ ?_
    refine gGw ?_
    refine⟨zh0,zac (m1:=[]) .nil (fun w' hm'=>zvt hU _ _ (pkB p e) p.c w' (by unfold pkB;rw [List.length_take,List.length_drop];omega) (BytsIn.sub (hb w' hm'.fr) p.cap e.place.toNat e.len.toNat (by omega) hcap) (by omega) (by omega)) ?_⟩
    rintro e' m' ⟨⟨rA,rl,rc,k,lA,ll,lc,no,rfl,hno⟩,rfl⟩
    conv=>whnf
    refine gGs ?_
    refine gGw ?_
    exact⟨(rA,rl,rc,no),hno,⟨rfl,rfl,rfl,rfl,rfl,trivial⟩,SubM.sl⟩
   rintro ⟨rA,rl,rc,no⟩ hno
   simp only at hno ⊢
   refine gGw ?_
   rw [← hno]
   refine br (fun hu=>?_) (fun hu=>?_)
   ·refine gGw ?_
    refine⟨zcz,zac (m1:=rM p s2 g3) (by repeat constructor) (fun w' hm'=>zfd p s2 g3 5 t w' (by omega) hm'.part) ?_⟩
    rintro e' m' ⟨rfl,g4,rfl⟩
    refine gGw ?_
    exact fin0 rfl (fun w' hm=>⟨_,⟨rfl,g4,by rw [hu];rfl⟩,hm⟩) (by first|exact .inl rfl|exact .inr rfl)
   ·refine gGw ?_
    exact fin0 rfl (fun w' hm=>⟨rM p s2 g3,⟨rfl,g3,by rw [hu];rfl⟩,hm⟩) (by first|exact .inl rfl|exact .inr rfl)
  ·refine gGw ?_
   rw [show appR s1 .packed=s1 from if_neg (by rw [ha];decide)] at hl2 ⊢
   refine zcd (γ:=Option Addr × Nat × Nat × Int) (Tr.hs [0,1,2,3,4,5,6,7,8,9,10,11,12] (.sq [13] (.hs [14,15,16,17,18,19,20,21,22] .done))) (.blk eB (.cells e.cells.toArray 163)::rM p s1 g3) zaa mixed (by kernel_rfl) rfl (fun q=>U (pkB p e) p.c=(!decide (q.2.2.2=0)||!decide (((q.2.1:Nat):Int)=p.c)))
    (fun q=>[(10,.int .i64 q.2.2.2),(7,.slice q.1 q.2.1 q.2.2.1),(6,.int .i64 p.c),(0,.pointer (some ⟨p.wB,0,none⟩)),(2,.int .i64 t)]) (fun _=>rM p s1 g3) SubM.sl ?_ ?_
   ·refine gGw ?_
    refine And.intro ⟨by omega,by omega,by omega,.inr hPl⟩ ?_
    refine gGw ?_
    refine⟨zh0,zac (m1:=[]) .nil (fun w' hm'=>zvt hU _ _ (pkB p e) p.c w' (by unfold pkB;rw [List.length_take,List.length_drop];omega) (BytsIn.sub (hb w' hm'.fr) p.cap e.place.toNat e.len.toNat (by omega) hcap) (by omega) (by omega)) ?_⟩
    rintro e' m' ⟨⟨rA,rl,rc,k,lA,ll,lc,no,rfl,hno⟩,rfl⟩
    conv=>whnf
    refine gGs ?_
    refine gGw ?_
    exact⟨(rA,rl,rc,no),hno,⟨rfl,rfl,rfl,rfl,rfl,trivial⟩,SubM.sl⟩
   rintro ⟨rA,rl,rc,no⟩ hno
   simp only at hno ⊢
   refine gGw ?_
   rw [← hno]
   refine br (fun hu=>?_) (fun hu=>?_)
   ·refine gGw ?_
    refine⟨zcz,zac (m1:=rM p s1 g3) (by repeat constructor) (fun w' hm'=>zfd p s1 g3 5 t w' (by omega) hm'.part) ?_⟩
    rintro e' m' ⟨rfl,g4,rfl⟩
    refine gGw ?_
    exact fin0 rfl (fun w' hm=>⟨_,⟨rfl,g4,by rw [hu];rfl⟩,hm⟩) (by first|exact .inl rfl|exact .inr rfl)
   ·refine gGw ?_
    exact fin0 rfl (fun w' hm=>⟨rM p s1 g3,⟨rfl,g3,by rw [hu];rfl⟩,hm⟩) (by first|exact .inl rfl|exact .inr rfl)
 ·refine gGw ?_
  exact fin0 rfl (fun w' hm=>⟨rM p s1 g3,⟨rfl,g3,by rw [hok];rfl⟩,hm.sl⟩) (by first|exact .inl rfl|exact .inr rfl)
end Go.Proofs.YtlmgelmloddfgaaGreat
namespace Go.Proofs.YtlmgelmloddfgaaGreat
open Go Go.RowKit Eng
theorem zf6 {p:WP} (hp:p.Ok) (a t k:Int):(tRun p a p.c t k).length≤1:=by
 have hc0:=hp.c0
 unfold tRun
 split
 ·rw [zm0]
  unfold upC
  rw [Int.tdiv_eq_ediv_of_nonneg (by omega)]
  have:(p.c+p.c-1)/p.c=1:=by
   have e:p.c+p.c-1=(p.c-1)+p.c*1:=by omega
   rw [e,Int.add_mul_ediv_left _ _ (by omega),Int.ediv_eq_zero_of_lt (by omega) (by omega)];rfl
  rw [this];decide
 ·simp
theorem zn0 {U:List UInt8→Int→Bool} {p:WP} (hp:p.Ok) (a:Int):(tEnt U p a).length≤3:=by
 unfold tEnt zb2
 have h1:=fun b t k=>zf6 hp b t k
 split
 ·split
  ·rw [List.length_append]
   have:=h1 (ofE (zaC p a) p.h.bits).1.place a 2
   split<;>simp<;>omega
  ·split
   ·rw [List.length_append]
    have:=h1 ((ofE (zaC p a) p.h.bits).1.place.tdiv p.c*p.c) a 3
    split
    ·split<;>simp<;>omega
    ·simp;omega
   ·split<;>simp
 ·simp
theorem zqE {x:Int} (hx:0≤x∧x<18446744073709551616):IntKind.u64.wrap (IntKind.i64.wrap x)=x:=by
 rw [IntKind.wrap_i64]
 by_cases h:x<9223372036854775808
 ·have e:(x+9223372036854775808)%18446744073709551616-9223372036854775808=x:=by omega
  first
   | rw [e];exact IntWalk.u64_in _ (by omega)
   | (have e2:IntKind.i64.wrap x=x:=IntWalk.i64_in _ (by omega);rw [IntKind.wrap_i64] at e2;rw [e2];exact IntWalk.u64_in _ (by omega))
 ·rw [IntKind.wrap_u64]
  omega
attribute [local irreducible] Br Rn RnU Cl RdG CpG Ld Rd Lp Dr Oth Cut fin Fits Eng.Enters Md NA
theorem zmS:Eng.Enters Tryz.prog 115:=zab fun _ _=>by kernel_rfl
theorem zeM:Eng.Enters Tryz.prog 155:=zab fun _ _=>by kernel_rfl
set_option maxHeartbeats 2000000 in
theorem zua (U:List UInt8→Int→Bool) (hU:zda U) (p:WP) (s:RS) (g:RG) (t:Int) (w:World) (hp:p.Ok) (hlb:p.bs.length≤20000) (hcap:p.bs.length≤p.cap) (hbits:9≤p.h.bits∧p.h.bits≤16) (hcb:p.c=clus p.h.bits) (hl:s.len≤14000000000) (ht:0≤t∧t+p.c≤p.bs.length) (hb:BInR p s g w) (hm:MemOk w (Foot (rM p s g)) (rM p s g) w) :
  Ctr Tryz.prog 115 [.pointer (some ⟨p.wB,0,none⟩),.int .i64 t] (rM p s g) (RwR p (.tuple #[]) (zaw s (tL2 U p t))) w:=by
 refine enter (cx:=⟨Tryz.prog,84,w,Foot (rM p s g),tab,[23,50,74],[71],[],[]⟩) [(0,.pointer (some ⟨p.wB,0,none⟩)),(1,.int .i64 t)] zaa Tryz.func115 rfl rfl rfl rfl hm ?_
 have hc0:=hp.c0
 have hc1:=hp.c1
 have hc8:=hp.c8
 have hlen:=hp.len
 unfold tL2
 refine gGw ?_
 refine lp zaa (γ:=Nat × RG) (fun q=>(q.1:Int)≤p.c/8)
  (fun q=>[(4,.int .i64 (q.1:Int)),(0,.pointer (some ⟨p.wB,0,none⟩)),(1,.int .i64 t)]) (fun q=>rM p (zaw s (rng q.1 fun k=>tEnt U p (t+8*(k:Nat)))) q.2) (fun q=>(p.c/8).toNat-q.1) (0,g) (by simp only;omega) ⟨rfl,rfl,rfl,trivial⟩ SubM.sl ?_
 rintro ⟨i,g2⟩ hi
 simp only at hi
 have hln2:=za1 (rng i fun k=>tEnt U p (t+8*(k:Nat))) s
 have hln3:=zh9 (f:=fun k=>tEnt U p (t+8*(k:Nat))) (M:=3) i (fun k=>zn0 hp _)
 obtain ⟨S,hS⟩:∃ S,S=zaw s (rng i fun k=>tEnt U p (t+8*(k:Nat))):=⟨_,rfl⟩
 have hSl:S.len≤14100000000:=by rw [hS];omega
 dsimp only
 have eN:zaw s (rng (i+1) fun k=>tEnt U p (t+8*(k:Nat)))=zaw S (tEnt U p (t+8*(i:Nat))):=by rw [zbD,zbp,hS]
 rw [← hS]
 refine gGw ?_
 refine⟨zbr,zae _ (fun w' hm'=>zcJ p S g2 w' (by omega) hcb (zdB (r:=[]) hm')) ?_⟩
 refine gGw ?_
 have ew:IntKind.i64.wrap (p.c.tdiv 8)=p.c/8:=by rw [Int.tdiv_eq_ediv_of_nonneg (by omega)];exact IntWalk.i64_in _ (by omega)
 rw [ew]
 refine br_d (fun hlt=>?_) (fun hge=>?_)
 ·have hwb:=zee p (t+8*(i:Int))
  have hback:=zqE hwb
  have hofR:=zxK (zaC p (t+8*(i:Int))) p.h.bits hwb
  have hofk:=zrH (x:=zaC p (t+8*(i:Int))) (bits:=p.h.bits)
  have eE:tEnt U p (t+8*(i:Nat))=if (ofE (zaC p (t+8*(i:Int))) p.h.bits).2=0 then zb2 U p (t+8*(i:Int)) (ofE (zaC p (t+8*(i:Int))) p.h.bits).1 else [.find ⟨2,t+8*(i:Int),0,0⟩]:=rfl
  rw [eE] at eN
  clear eE
  obtain ⟨V,hV⟩:∃ V:Option En,V=ofR (zaC p (t+8*(i:Int))) p.h.bits:=⟨_,rfl⟩
  have hof:=fun w'=>zue (zaC p (t+8*(i:Int))) p.h.bits w' hwb
  rw [← hV] at hofR hof
  clear hV
  refine gGw ?_
  refine zcd (γ:=Nat) (Tr.hs [0,1,4,5,6,7,8] (.alts 13 (.sq [2] (.hs [3] (.sq [9] (.hs [10,11,12] (.sq [14] (.hs [15] .done)))))) (.alts 2 (.hs [3] (.alts 13 (.sq [9] (.hs [10,11,12] (.sq [14] (.hs [15] .done)))) (.alts 9 (.hs [10,11,12] (.sq [13] (.sq [14] (.hs [15] .done)))) .stop))) .stop))) (rM p S g2) zaa mixed (by kernel_rfl) rfl (fun _=>True)
   (fun tB=>[(7,.bool V.isSome),(6,.pointer (some ⟨tB,0,none⟩)),(5,.int .i64 (t+8*(i:Int))),(4,.int .i64 (i:Int)),(0,.pointer (some ⟨p.wB,0,none⟩)),(1,.int .i64 t)]) (fun tB=>.blk tB (.cells (V.getD ⟨0,0,0⟩).cells.toArray 163)::rM p S g2) SubM.sl ?_ ?_
  ·refine gGw ?_
   refine⟨?_,?_⟩
   ·refine gGt ?_;(repeat ((first|refine .mk fun Ap capp=>?_|intro _);(conv=>whnf);refine gGS ?_))
    refine⟨zdx,zae _ (fun w' hm'=>zke p S g2 (t+8*(i:Int)) w' hp (hb w' hm'.fr) (by omega) (zdB (r:=[]) (hm'.sel (by repeat constructor)))) ?_⟩
    conv=>whnf
    refine gGs ?_
    refine gGt ?_
    rw [hback]
    refine gGt ?_
    refine⟨zeM,zae _ (fun w' _=>hof w') ?_⟩
    clear hof hofR
    cases V with
    | none =>
     conv=>whnf
     refine gGs ?_
     refine gGt ?_
     exact⟨_,trivial,⟨rfl,rfl,rfl,rfl,rfl,rfl,trivial⟩,SubM.sl⟩
    | some e =>
     conv=>whnf
     refine gGs ?_
     refine gGt ?_
     exact⟨_,trivial,⟨rfl,rfl,rfl,rfl,rfl,rfl,trivial⟩,SubM.sl⟩
   ·refine⟨?_,trivial⟩
    refine gGt ?_
    refine⟨zdx,zae _ (fun w' hm'=>zke p S g2 (t+8*(i:Int)) w' hp (hb w' hm'.fr) (by omega) (zdB (r:=[]) (hm'.sel (by repeat constructor)))) ?_⟩
    conv=>whnf
    refine gGs ?_
    refine gGt ?_
    rw [hback]
    refine gGt ?_
    refine⟨?_,?_⟩
    ·refine gGt ?_;(repeat ((first|refine .mk fun Ap capp=>?_|intro _);(conv=>whnf);refine gGS ?_))
     refine⟨zeM,zae _ (fun w' _=>hof w') ?_⟩
     clear hof hofR
     cases V with
     | none =>
      conv=>whnf
      refine gGs ?_
      refine gGt ?_
      exact⟨_,trivial,⟨rfl,rfl,rfl,rfl,rfl,rfl,trivial⟩,SubM.sl⟩
     | some e =>
      conv=>whnf
      refine gGs ?_
      refine gGt ?_
      exact⟨_,trivial,⟨rfl,rfl,rfl,rfl,rfl,rfl,trivial⟩,SubM.sl⟩
    ·refine⟨?_,trivial⟩
     refine gGt ?_
     refine⟨zeM,zae _ (fun w' _=>hof w') ?_⟩
     clear hof hofR
     cases V with
     | none =>
      conv=>whnf
      refine gGs ?_
      refine gGt ?_;(repeat ((first|refine .mk fun Ap capp=>?_|intro _);(conv=>whnf);refine gGS ?_))
      exact⟨_,trivial,⟨rfl,rfl,rfl,rfl,rfl,rfl,trivial⟩,SubM.sl⟩
     | some e =>
      conv=>whnf
      refine gGs ?_
      refine gGt ?_;(repeat ((first|refine .mk fun Ap capp=>?_|intro _);(conv=>whnf);refine gGS ?_))
      exact⟨_,trivial,⟨rfl,rfl,rfl,rfl,rfl,rfl,trivial⟩,SubM.sl⟩
  ·intro tB _
   by_cases hok:(ofE (zaC p (t+8*(i:Int))) p.h.bits).2=0
   rotate_left
   ·rw [if_neg hok] at hofR eN
    subst hofR
    refine gGw ?_
    refine br_n (br_f rfl ?_)
    refine gGw ?_
    refine⟨zcz,zac (m1:=rM p S g2) (by repeat constructor) (fun w' hm'=>zfd p S g2 2 (t+8*(i:Int)) w' (by omega) hm'.part) ?_⟩
    rintro e' m' ⟨rfl,g4,rfl⟩
    refine gGw ?_
    change zaw s (rng (i+1) fun k=>tEnt U p (t+8*(k:Nat)))=appR S (.find ⟨2,t+8*(i:Int),0,0⟩) at eN
    refine⟨(i+1,g4),by show ((i+1:Nat):Int)≤p.c/8;omega,by show (p.c/8).toNat-(i+1)<(p.c/8).toNat-i;omega,⟨congrArg (fun x=>some (Value.int .i64 x)) (by push_cast;rfl),rfl,rfl,trivial⟩,?_⟩
    show SubM _ _ (rM p (zaw s (rng (i+1) fun k=>tEnt U p (t+8*(k:Nat)))) _)
    rw [eN]
    exact SubM.sl
   have hok2:=hofk hok
   rw [if_pos hok] at hofR eN
   generalize (ofE (zaC p (t+8*(i:Int))) p.h.bits).1=e at hofR eN hok2
   subst hofR
   rw [← hcb] at hok2
   have hef:=zes ⟨hc0,hc1⟩ hok2
   refine gGw ?_
   refine br_n (br_t rfl ?_)
   refine gGw ?_
   refine br_d (fun h1=>?_) (fun h1=>?_)
   ·replace h1:e.kind=1:=h1
    have eF:zb2 U p (t+8*(i:Int)) e=[.zero]:=by unfold zb2;rw [if_neg (by omega),if_neg (by omega),if_pos h1]
    rw [eF] at eN
    change zaw s (rng (i+1) fun k=>tEnt U p (t+8*(k:Nat)))=appR S .zero at eN
    refine gGw ?_
    refine br (fun ha=>?_) (fun ha=>?_)
    ·rw [show appR S .zero={ S with zero:=inc S.zero } from if_pos ha] at eN
     refine gGw ?_
     refine⟨(i+1,g2),by show ((i+1:Nat):Int)≤p.c/8;omega,by show (p.c/8).toNat-(i+1)<(p.c/8).toNat-i;omega,⟨congrArg (fun x=>some (Value.int .i64 x)) (by push_cast;rfl),rfl,rfl,trivial⟩,?_⟩
     show SubM _ _ (rM p (zaw s (rng (i+1) fun k=>tEnt U p (t+8*(k:Nat)))) _)
     rw [eN]
     exact SubM.sl
    ·rw [show appR S .zero=S from if_neg (by rw [ha];decide)] at eN
     refine gGw ?_
     refine⟨(i+1,g2),by show ((i+1:Nat):Int)≤p.c/8;omega,by show (p.c/8).toNat-(i+1)<(p.c/8).toNat-i;omega,⟨congrArg (fun x=>some (Value.int .i64 x)) (by push_cast;rfl),rfl,rfl,trivial⟩,?_⟩
     show SubM _ _ (rM p (zaw s (rng (i+1) fun k=>tEnt U p (t+8*(k:Nat)))) _)
     rw [eN]
     exact SubM.sl
   replace h1:¬ e.kind=1:=h1
   refine gGw ?_
   refine br_d (fun h2=>?_) (fun h2=>?_)
   ·replace h2:e.kind=2:=h2
    have eF:zb2 U p (t+8*(i:Int)) e=tRun p e.place p.c (t+8*(i:Int)) 2++if zay p e.place p.c then [.data] else []:=by unfold zb2;rw [if_pos h2]
    rw [eF,zbp] at eN
    conv=>whnf
    refine zcH 6 zaa mixed (by kernel_rfl) rfl rfl ?_
    refine gGw ?_
    refine⟨_,cpg zbr (fun _ w' hm'=>zcJ p S g2 w' (by omega) hcb (zdB (r:=[]) (hm'.sel (by repeat constructor)))),?_⟩
    refine gGw ?_
    refine⟨zaY,zac (m1:=rM p S g2) (by repeat constructor) (fun w' hm'=>zbC p S g2 e.place p.c 2 (t+8*(i:Int)) w' hp (by omega) (by omega) hcb (by omega) (by omega) (by omega) (by omega) hm'.part) ?_⟩
    rintro e' m' ⟨rfl,g4,rfl⟩
    generalize zaw S (tRun p e.place p.c (t+8*(i:Int)) 2)=S4 at eN ⊢
    refine gGw ?_
    cases hw:zay p e.place p.c with
    | false =>
     rw [hw] at eN
     change zaw s (rng (i+1) fun k=>tEnt U p (t+8*(k:Nat)))=S4 at eN
     refine br_f rfl ?_
     refine gGw ?_
     refine⟨(i+1,g4),by show ((i+1:Nat):Int)≤p.c/8;omega,by show (p.c/8).toNat-(i+1)<(p.c/8).toNat-i;omega,⟨congrArg (fun x=>some (Value.int .i64 x)) (by push_cast;rfl),rfl,rfl,trivial⟩,?_⟩
     show SubM _ _ (rM p (zaw s (rng (i+1) fun k=>tEnt U p (t+8*(k:Nat)))) _)
     rw [eN]
     exact SubM.sl
    | true =>
     rw [hw] at eN
     change zaw s (rng (i+1) fun k=>tEnt U p (t+8*(k:Nat)))=appR S4 .data at eN
     refine br (fun ha=>?_) (fun ha=>?_)
     ·replace ha:S4.active=true:=ha
      rw [show appR S4 .data={ S4 with data:=inc S4.data } from if_pos ha] at eN
      refine gGw ?_
      refine⟨(i+1,g4),by show ((i+1:Nat):Int)≤p.c/8;omega,by show (p.c/8).toNat-(i+1)<(p.c/8).toNat-i;omega,⟨congrArg (fun x=>some (Value.int .i64 x)) (by push_cast;rfl),rfl,rfl,trivial⟩,?_⟩
      show SubM _ _ (rM p (zaw s (rng (i+1) fun k=>tEnt U p (t+8*(k:Nat)))) _)
      rw [eN]
      exact SubM.sl
     ·replace ha:S4.active=false:=ha
      rw [show appR S4 .data=S4 from if_neg (by rw [ha];decide)] at eN
      refine gGw ?_
      refine⟨(i+1,g4),by show ((i+1:Nat):Int)≤p.c/8;omega,by show (p.c/8).toNat-(i+1)<(p.c/8).toNat-i;omega,⟨congrArg (fun x=>some (Value.int .i64 x)) (by push_cast;rfl),rfl,rfl,trivial⟩,?_⟩
      show SubM _ _ (rM p (zaw s (rng (i+1) fun k=>tEnt U p (t+8*(k:Nat)))) _)
      rw [eN]
      exact SubM.sl
   replace h2:¬ e.kind=2:=h2
   refine gGw ?_
   refine br_d (fun h3=>?_) (fun h3=>?_)
   ·replace h3:e.kind=3:=h3
    have eF:zb2 U p (t+8*(i:Int)) e=zhQ U p (t+8*(i:Int)) e:=by unfold zb2 zhQ;rw [if_neg h2,if_pos h3]
    rw [eF] at eN
    refine gGw ?_
    refine⟨zmT,zac (m1:=rM p S g2) (by repeat constructor) (fun w' hm'=>zub U hU p S g2 e (t+8*(i:Int)) w' hp hlb hcap (by omega) hcb (by omega) h3 hok2 (stb hm' (fun w3 h3=>hb w3 h3.fr)) hm'.part) ?_⟩
    rintro e' m' ⟨rfl,g4,rfl⟩
    refine gGw ?_
    refine⟨(i+1,g4),by show ((i+1:Nat):Int)≤p.c/8;omega,by show (p.c/8).toNat-(i+1)<(p.c/8).toNat-i;omega,⟨congrArg (fun x=>some (Value.int .i64 x)) (by push_cast;rfl),rfl,rfl,trivial⟩,?_⟩
    show SubM _ _ (rM p (zaw s (rng (i+1) fun k=>tEnt U p (t+8*(k:Nat)))) _)
    rw [eN]
    exact SubM.sl
   ·replace h3:¬ e.kind=3:=h3
    have eF:zb2 U p (t+8*(i:Int)) e=[]:=by unfold zb2;rw [if_neg h2,if_neg h3,if_neg h1]
    rw [eF] at eN
    change zaw s (rng (i+1) fun k=>tEnt U p (t+8*(k:Nat)))=S at eN
    refine gGw ?_
    refine⟨(i+1,g2),by show ((i+1:Nat):Int)≤p.c/8;omega,by show (p.c/8).toNat-(i+1)<(p.c/8).toNat-i;omega,⟨congrArg (fun x=>some (Value.int .i64 x)) (by push_cast;rfl),rfl,rfl,trivial⟩,?_⟩
    show SubM _ _ (rM p (zaw s (rng (i+1) fun k=>tEnt U p (t+8*(k:Nat)))) _)
    rw [eN]
    exact SubM.sl
 ·have ei:i=(p.c/8).toNat:=by omega
  refine gGw ?_
  exact fin0 rfl (fun w' hm=>⟨_,⟨rfl,g2,by rw [hS,ei]⟩,hm⟩) (by first|exact .inl rfl|exact .inr rfl)
end Go.Proofs.YtlmgelmloddfgaaGreat
namespace Go.Proofs.YtlmgelmloddfgaaGreat
open Go Go.RowKit Eng
theorem zqW {U:List UInt8→Int→Bool} {p:WP} (hp:p.Ok) (a:Int):(tL1 U p a).length≤24577:=by
 have hc1:=hp.c1
 have hc0:=hp.c0
 unfold tL1
 split
 ·simp
 ·rw [List.length_append]
  have h1:=zf6 hp (za4 (zaC p a)) a 1
  split
  ·unfold tL2
   have h2:=zh9 (f:=fun k=>tEnt U p (za4 (zaC p a)+8*(k:Nat))) (M:=3) (p.c/8).toNat (fun k=>zn0 hp _)
   omega
  ·simp;omega
attribute [local irreducible] Br Rn RnU Cl RdG CpG Ld Rd Lp Dr Oth Cut fin Fits Eng.Enters Md NA
theorem zhY:Eng.Enters Tryz.prog 69:=zab fun _ _=>by kernel_rfl
set_option maxHeartbeats 2000000 in
theorem zn5 (U:List UInt8→Int→Bool) (hU:zda U) (p:WP) (s:RS) (g:RG) (a long st:Int) (w:World) (hp:p.Ok) (hlb:p.bs.length≤20000) (hcap:p.bs.length≤p.cap) (hbits:9≤p.h.bits∧p.h.bits≤16) (hcb:p.c=clus p.h.bits) (hl:s.len≤13900000000) (ha:0≤a∧a≤4611686018427387904) (hn:0≤long∧long≤4611686018427387) (hb:BInR p s g w) (hm:MemOk w (Foot (rM p s g)) (rM p s g) w) :
  Ctr Tryz.prog 69 [.pointer (some ⟨p.wB,0,none⟩),.int .i64 a,.int .i64 long,.int .i64 st] (rM p s g) (RwR p (.tuple #[]) (zaw s (zbB U p a long st))) w:=by
 refine enter (cx:=CXS 48 [] w (Foot (rM p s g))) [(0,.pointer (some ⟨p.wB,0,none⟩)),(1,.int .i64 a),(2,.int .i64 long),(3,.int .i64 st)] zaa Tryz.func69 rfl rfl rfl rfl hm ?_
 have hc0:=hp.c0
 have hc1:=hp.c1
 have hc8:=hp.c8
 have hlen:=hp.len
 have hnb:=n_bd hp
 unfold zbB
 refine gGw ?_
 refine br_d (fun h0=>?_) (fun h0=>?_)
 ·rw [if_pos h0]
  refine gGw ?_
  refine br_t rfl ?_
  refine gGw ?_
  exact fin0 rfl (fun w' hm=>⟨rM p s g,⟨rfl,g,rfl⟩,hm⟩) (by first|exact .inl rfl|exact .inr rfl)
 rw [if_neg h0,zbp]
 refine gGw ?_
 refine⟨zaY,zac (m1:=rM p s g) (by repeat constructor) (fun w' hm'=>zbC p s g a (8*long) 0 st w' hp (by omega) (by omega) hcb (by omega) (by omega) (by omega) (by omega) hm'.part) ?_⟩
 rintro e' m' ⟨rfl,g1,rfl⟩
 have hln:=za1 (tRun p a (8*long) st 0) s
 have htl:=zb9 hp a (8*long) st 0
 generalize zaw s (tRun p a (8*long) st 0)=s1 at hln ⊢
 refine gGw ?_
 refine br_n (br (fun hok=>?_) (fun hok=>?_))
 rotate_left
 ·refine gGw ?_
  exact fin0 rfl (fun w' hm=>⟨rM p s1 g1,⟨rfl,g1,by rw [hok];rfl⟩,hm⟩) (by first|exact .inl rfl|exact .inr rfl)
 have hle:=zaI hp hok
 rw [if_pos hok]
 clear hok
 refine gGw ?_
 refine lp zaa (γ:=Nat × RG) (fun q=>(q.1:Int)≤long)
  (fun q=>[(8,.int .i64 (q.1:Int)),(0,.pointer (some ⟨p.wB,0,none⟩)),(1,.int .i64 a),(2,.int .i64 long)]) (fun q=>rM p (zaw s1 (rng q.1 fun i=>tL1 U p (a+8*(i:Nat)))) q.2) (fun q=>long.toNat-q.1) (0,g1) (by simp only;omega) ⟨rfl,rfl,rfl,rfl,trivial⟩ SubM.sl ?_
 rintro ⟨i,g2⟩ hi
 simp only at hi
 have hln2:=za1 (rng i fun i=>tL1 U p (a+8*(i:Nat))) s1
 have hln3:=zh9 (f:=fun i=>tL1 U p (a+8*(i:Nat))) (M:=24577) i (fun k=>zqW hp _)
 obtain ⟨S,hS⟩:∃ S,S=zaw s1 (rng i fun i=>tL1 U p (a+8*(i:Nat))):=⟨_,rfl⟩
 have hSl:S.len≤13990000000:=by rw [hS];omega
 dsimp only
 have eN:zaw s1 (rng (i+1) fun i=>tL1 U p (a+8*(i:Nat)))=zaw S (tL1 U p (a+8*(i:Nat))):=by rw [zbD,zbp,hS]
 rw [← hS]
 refine gGw ?_
 refine br_d (fun hlt=>?_) (fun hge=>?_)
 ·have hwb:=zee p (a+8*(i:Int))
  have hwr:=IntKind.wrap_i64 (zaC p (a+8*(i:Int)))
  have hpl:=zjm hp hwb (a+8*(i:Int)) 1
  have hpw:=zeA hp hwb
  refine gGw ?_
  refine⟨zdx,zae _ (fun w' hm'=>zke p S g2 (a+8*(i:Int)) w' hp (hb w' hm'.fr) (by omega) (zdB (r:=[]) hm')) ?_⟩
  refine gGw ?_
  refine br_n (br_d (fun hz=>?_) (fun hz=>?_))
  ·have hz0:zaC p (a+8*(i:Int))=0:=by rw [hwr] at hz;omega
   rw [show tL1 U p (a+8*(i:Nat))=[] from if_pos hz0] at eN
   change zaw s1 (rng (i+1) fun i=>tL1 U p (a+8*(i:Nat)))=S at eN
   refine gGw ?_
   refine br_f rfl ?_
   refine gGw ?_
   refine⟨(i+1,g2),by show ((i+1:Nat):Int)≤long;omega,by show long.toNat-(i+1)<long.toNat-i;omega,⟨congrArg (fun x=>some (Value.int .i64 x)) (by push_cast;rfl),rfl,rfl,rfl,trivial⟩,?_⟩
   show SubM _ _ (rM p (zaw s1 (rng (i+1) fun i=>tL1 U p (a+8*(i:Nat)))) _)
   rw [eN]
   exact SubM.sl
  ·have hz0:¬ zaC p (a+8*(i:Int))=0:=fun h=>by rw [hwr] at hz;omega
   have eF:tL1 U p (a+8*(i:Nat))=tRun p (za4 (zaC p (a+8*(i:Int)))) p.c (a+8*(i:Int)) 1++if zay p (za4 (zaC p (a+8*(i:Int)))) p.c then tL2 U p (za4 (zaC p (a+8*(i:Int)))) else []:=if_neg hz0
   rw [eF,zbp,← hpl] at eN
   refine gGw ?_
   refine⟨zbr,zae _ (fun w' hm'=>zcJ p S g2 w' (by omega) hcb (zdB (r:=[]) hm')) ?_⟩
   refine gGw ?_
   refine⟨zaY,zac (m1:=rM p S g2) (by repeat constructor) (fun w' hm'=>zbC p S g2 _ p.c 1 (a+8*(i:Int)) w' hp (by omega) (by omega) hcb (by omega) (by rw [hwr];omega) (by omega) (by omega) hm'.part) ?_⟩
   rintro e' m' ⟨rfl,g4,rfl⟩
   have hl4:=za1 (tRun p (IntKind.i64.wrap (zaC p (a+8*(i:Int)))) p.c (a+8*(i:Int)) 1) S
   have ht4:=zf6 hp (IntKind.i64.wrap (zaC p (a+8*(i:Int)))) (a+8*(i:Int)) 1
   generalize zaw S (tRun p (IntKind.i64.wrap (zaC p (a+8*(i:Int)))) p.c (a+8*(i:Int)) 1)=S4 at eN hl4 ⊢
   rw [hpw.1]
   refine gGw ?_
   refine br (fun hw=>?_) (fun hw=>?_)
   ·have hle4:=zaI hp hw
    rw [if_pos hw] at eN
    rw [hpw.2 hw]
    refine gGw ?_
    refine⟨zmS,zac (m1:=rM p S4 g4) (by repeat constructor) (fun w' hm'=>zua U hU p S4 g4 _ w' hp hlb hcap hbits hcb (by omega) (by omega) (stb hm' (fun w3 h3=>hb w3 h3.fr)) hm'.part) ?_⟩
    rintro e' m' ⟨rfl,g5,rfl⟩
    refine gGw ?_
    refine⟨(i+1,g5),by show ((i+1:Nat):Int)≤long;omega,by show long.toNat-(i+1)<long.toNat-i;omega,⟨congrArg (fun x=>some (Value.int .i64 x)) (by push_cast;rfl),rfl,rfl,rfl,trivial⟩,?_⟩
    show SubM _ _ (rM p (zaw s1 (rng (i+1) fun i=>tL1 U p (a+8*(i:Nat)))) _)
    rw [eN]
    exact SubM.sl
   ·rw [hw] at eN
    change zaw s1 (rng (i+1) fun i=>tL1 U p (a+8*(i:Nat)))=S4 at eN
    refine gGw ?_
    refine⟨(i+1,g4),by show ((i+1:Nat):Int)≤long;omega,by show long.toNat-(i+1)<long.toNat-i;omega,⟨congrArg (fun x=>some (Value.int .i64 x)) (by push_cast;rfl),rfl,rfl,rfl,trivial⟩,?_⟩
    show SubM _ _ (rM p (zaw s1 (rng (i+1) fun i=>tL1 U p (a+8*(i:Nat)))) _)
    rw [eN]
    exact SubM.sl
 ·have ei:i=long.toNat:=by omega
  refine gGw ?_
  exact fin0 rfl (fun w' hm=>⟨_,⟨rfl,g2,by rw [hS,ei]⟩,hm⟩) (by first|exact .inl rfl|exact .inr rfl)
end Go.Proofs.YtlmgelmloddfgaaGreat
namespace Go.Proofs.YtlmgelmloddfgaaGreat
open Go Go.RowKit Eng
def zcR (s:ByteArray):Bool:=decide (1≤s.size)&&decide (s.size≤64)&&s.data.toList.all fun x=>!(x == 0)
def zhU (x:Snp) (bits:Int):Bool :=
 zcR x.name&&decide (0≤x.size)&&decide (x.size≤67108864)&&decide (x.size.tmod 512=0)&&decide (0≤x.l1len)&&decide (x.l1len≤1048576) &&
 ((decide (x.l1len=0)&&decide (x.l1=0))||(decide (0<x.l1len)&&plB x.l1 (clus bits)))
def rowB (x:Rwp) (bits:Int):Bool :=
 zcR x.name&&decide (9≤x.gran)&&decide (x.gran≤31)&&decide (0≤x.flags)&&decide (x.flags≤3) &&
 ((decide (x.at_=0)&&decide (x.len=0))||(plB x.at_ (clus bits)&&decide (1≤x.len)&&decide (x.len≤16777216)))
attribute [local irreducible] Br Rn RnU Cl RdG CpG Ld Rd Lp Dr Oth Cut fin Fits Eng.Enters Md NA
theorem zf4:Eng.Enters Tryz.prog 205:=zab fun _ _=>by kernel_rfl
theorem zei:Eng.Enters Tryz.prog 206:=zab fun _ _=>by kernel_rfl
theorem zll:Eng.Enters Tryz.prog 179:=zab fun _ _=>by kernel_rfl
theorem zmC:Eng.Enters Tryz.prog 183:=zab fun _ _=>by kernel_rfl
theorem zhV:Eng.Enters Tryz.prog 174:=zab fun _ _=>by kernel_rfl
theorem zjk (s:ByteArray) (w:World):Calls Tryz.prog 205 #[.string s] w fun e w'=>e=.returned (.bool (zcR s))∧Fr (fun _=>False) w w':=by
 refine enter (cx:=⟨Tryz.prog,16,w,fun _=>False,tab,[],[164],[],[]⟩) [(0,.string s)] zaa Tryz.func205 rfl rfl rfl rfl (MemOk.nil w _) ?_
 refine gGw ?_
 refine⟨_,cpg zca (fun _ w' _=>zc8 s w'),?_⟩
 refine gGw ?_
 refine fin1 rfl rfl (fun w' hm=>⟨?_,hm.fr⟩)
 unfold zcR
 rw [Bool.not_not,decide_eq_decide.2 (show (1:Int)≤(s.size:Int)↔1≤s.size by omega),decide_eq_decide.2 (show (s.size:Int)≤64↔s.size≤64 by omega)]
theorem zgC (a bits:Int) (w:World) (hb:9≤bits∧bits≤16):Calls Tryz.prog 206 #[.int .i64 a,.int .i64 bits] w fun e w'=>e=.returned (.bool (plB a (clus bits)))∧Fr (fun _=>False) w w':=by
 have hcb:=zc4 hb
 refine enter (cx:=CX 18 [] w) [(0,.int .i64 a),(1,.int .i64 bits)] zaa Tryz.func206 rfl rfl rfl rfl (MemOk.nil w _) ?_
 refine gGw ?_
 refine And.intro (fun _=>⟨by omega,by show bits≤(64:Int);omega⟩) ?_
 conv=>whnf
 rw [zht hb]
 refine gG0 ?_
 refine fin1 rfl rfl (fun w' hm=>⟨by rw [zoi],hm.fr⟩)
theorem zn3 (xs ys:List UInt8) (A B:Option Addr) (c d:Nat) (w:World) (hx:BytsIn w A xs) (hy:BytsIn w B ys) (hl:xs.length≤100000000) :
  Calls Tryz.prog 174 #[.slice A xs.length c,.slice B ys.length d] w fun e w'=>e=.returned (.bool (decide (xs=ys)))∧Fr (fun _=>False) w w':=by
 refine enter (cx:=CX 26 [] w) [(0,.slice A xs.length c),(1,.slice B ys.length d)] zaa Tryz.func174 rfl rfl rfl rfl (MemOk.nil w _) ?_
 have h1:=fun m=>BytsIn.byts (cx:=CX 26 [] w) (m:=m) hx (fun _ h=>h)
 have h2:=fun m=>BytsIn.byts (cx:=CX 26 [] w) (m:=m) hy (fun _ h=>h)
 refine gGw ?_
 refine br_n (br_d (fun hle=>?_) (fun hne=>?_))
 rotate_left
 ·have hd:xs≠ys:=fun h=>hne (by rw [h])
  refine gGw ?_
  exact fin1 rfl rfl (fun w' hm=>⟨by rw [decide_eq_false hd],hm.fr⟩)
 have hle':xs.length=ys.length:=by omega
 refine gGw ?_
 refine lp zaa (γ:=Nat) (fun i=>i≤xs.length∧∀ j,j<i→xs.getD j 0=ys.getD j 0) (fun i=>[(13,.int .i64 (i:Int)),(12,.int .i64 (xs.length:Int)),(0,.slice A xs.length c),(1,.slice B ys.length d)]) (fun _=>[]) (fun i=>xs.length-i) 0 ⟨by omega,fun j hj=>by omega⟩ ⟨rfl,rfl,rfl,rfl,trivial⟩ (SubM.refl _ _) ?_
 rintro i ⟨hi,hij⟩
 dsimp only
 conv=>whnf
 refine br_d (fun hlt=>?_) (fun hge=>?_)
 ·have hp1:Pl A:=(h1 []).plain (by omega)
  have hp2:Pl B:=(h2 []).plain (by omega)
  refine gGw ?_
  refine zar zaa mixed (by kernel_rfl) rfl ?_
  conv=>whnf
  (repeat ((first|refine stp (by (repeat constructor);first|done|fail) ?_|refine stn (by (repeat constructor);first|done|fail) ?_|refine sto (by (repeat constructor);first|done|fail) (by first|omega|(simp only;omega)|decide) ?_|(refine zaO (And.intro (fun hg=>?_) ?_);focus (simp only [Bool.and_eq_true,Bool.or_eq_true,Bool.not_eq_true',decide_eq_true_eq,decide_eq_false_iff_not] at hg;first|omega|exact zaf (by omega)|exact zak (by omega)|assumption))|refine .mk fun Ap capp=>?_|refine⟨?_,trivial⟩);conv=>whnf))
  refine And.intro ⟨by omega,by omega,hp1⟩ ?_
  conv=>whnf
  refine⟨_,((h1 _).ld zaa rfl rfl (j:=i) (by omega)).g,?_⟩
  conv=>whnf
  (repeat ((first|refine stp (by (repeat constructor);first|done|fail) ?_|refine stn (by (repeat constructor);first|done|fail) ?_|refine sto (by (repeat constructor);first|done|fail) (by first|omega|(simp only;omega)|decide) ?_|(refine zaO (And.intro (fun hg=>?_) ?_);focus (simp only [Bool.and_eq_true,Bool.or_eq_true,Bool.not_eq_true',decide_eq_true_eq,decide_eq_false_iff_not] at hg;first|omega|exact zaf (by omega)|exact zak (by omega)|assumption))|refine .mk fun Ap capp=>?_|refine⟨?_,trivial⟩);conv=>whnf))
  refine And.intro ⟨by omega,by omega,hp2⟩ ?_
  conv=>whnf
  refine⟨_,((h2 _).ld zaa rfl rfl (j:=i) (by omega)).g,?_⟩
  refine gGw ?_
  by_cases he:xs.getD i 0=ys.getD i 0
  ·refine br_n (br_t (decide_eq_true (by rw [he])) ?_)
   refine gGw ?_
   exact⟨i+1,⟨by omega,fun j hj=>by rcases Nat.lt_succ_iff_lt_or_eq.1 hj with h|rfl;exact hij j h;exact he⟩,by omega,⟨rfl,rfl,rfl,rfl,trivial⟩,SubM.refl _ _⟩
  ·have hd:xs≠ys:=fun h=>he (by rw [h])
   refine br_n (br_f (decide_eq_false (fun h=>he (UInt8.toNat_inj.1 (by omega)))) ?_)
   refine gGw ?_
   exact fin1 rfl rfl (fun w' hm=>⟨by rw [decide_eq_false hd],hm.fr⟩)
 ·have hd:xs=ys:=by
   apply List.ext_getElem hle'
   intro j h3 h4
   have:=hij j (by omega)
   rw [List.getD_eq_getElem?_getD,List.getD_eq_getElem?_getD,List.getElem?_eq_getElem h3,List.getElem?_eq_getElem h4] at this
   exact this
  refine gGw ?_
  exact fin1 rfl rfl (fun w' hm=>⟨by rw [decide_eq_true hd],hm.fr⟩)
set_option maxHeartbeats 1000000 in
theorem zqO (x:Snp) (bits:Int) (w:World) (hb:9≤bits∧bits≤16):Calls Tryz.prog 179 #[.agg x.cells.toArray,.int .i64 bits] w fun e w'=>e=.returned (.bool (zhU x bits))∧Fr (fun _=>False) w w':=by
 refine enter (cx:=⟨Tryz.prog,55,w,fun _=>False,tab,[],[205,206],[],[]⟩) [(0,.agg x.cells.toArray),(1,.int .i64 bits)] zaa Tryz.func179 rfl rfl rfl rfl (MemOk.nil w _) ?_
 refine gGw ?_;(repeat ((first|refine .mk fun Ap capp=>?_|intro _);(conv=>whnf);refine gG0 ?_))
 refine⟨zf4,zae _ (fun w' _=>zjk x.name w') ?_⟩
 refine gGw ?_
 have hS:zhU x bits=(zcR x.name&&decide (0≤x.size)&&decide (x.size≤67108864)&&decide (x.size.tmod 512=0)&&decide (0≤x.l1len)&&decide (x.l1len≤1048576) &&
  ((decide (x.l1len=0)&&decide (x.l1=0))||(decide (0<x.l1len)&&plB x.l1 (clus bits)))):=rfl
 refine br (fun hP=>?_) (fun hP=>?_)
 rotate_left
 ·rw [hS,hP]
  refine gGw ?_
  exact fin1 rfl rfl (fun w' hm=>⟨rfl,hm.fr⟩)
 rw [hS,hP,Bool.true_and]
 refine gGw ?_
 refine br_d (fun h0=>?_) (fun h0=>?_)
 ·rw [decide_eq_true h0,decide_eq_false (show ¬ 0<x.l1len by omega),Bool.true_and,Bool.false_and,Bool.or_false]
  refine gGw ?_
  refine br (fun h1=>?_) (fun h1=>?_)
  ·change decide (x.l1=0)=true at h1
   rw [h1]
   refine gGw ?_
   exact fin1 rfl rfl (fun w' hm=>⟨rfl,hm.fr⟩)
  ·change decide (x.l1=0)=false at h1
   rw [h1]
   refine gGw ?_
   refine br_f (decide_eq_false (by omega)) ?_
   refine gGw ?_
   exact fin1 rfl rfl (fun w' hm=>⟨rfl,hm.fr⟩)
 ·rw [decide_eq_false h0,Bool.false_and,Bool.false_or]
  refine gGw ?_
  refine br_f rfl ?_
  refine gGw ?_
  refine br_d (fun h1=>?_) (fun h1=>?_)
  ·rw [decide_eq_true h1,Bool.true_and]
   refine gGw ?_
   refine⟨zei,zae _ (fun w' _=>zgC x.l1 bits w' hb) ?_⟩
   refine gGw ?_
   exact fin1 rfl rfl (fun w' hm=>⟨rfl,hm.fr⟩)
  ·rw [decide_eq_false h1,Bool.false_and]
   refine gGw ?_
   exact fin1 rfl rfl (fun w' hm=>⟨rfl,hm.fr⟩)
set_option maxHeartbeats 1000000 in
theorem ztQ (x:Rwp) (bits:Int) (w:World) (hb:9≤bits∧bits≤16):Calls Tryz.prog 183 #[.agg x.cells.toArray,.int .i64 bits] w fun e w'=>e=.returned (.bool (rowB x bits))∧Fr (fun _=>False) w w':=by
 refine enter (cx:=⟨Tryz.prog,54,w,fun _=>False,tab,[],[205,206],[],[]⟩) [(0,.agg x.cells.toArray),(1,.int .i64 bits)] zaa Tryz.func183 rfl rfl rfl rfl (MemOk.nil w _) ?_
 refine gGw ?_;(repeat ((first|refine .mk fun Ap capp=>?_|intro _);(conv=>whnf);refine gG0 ?_))
 refine⟨zf4,zae _ (fun w' _=>zjk x.name w') ?_⟩
 refine gGw ?_
 have hS:rowB x bits=(zcR x.name&&decide (9≤x.gran)&&decide (x.gran≤31)&&decide (0≤x.flags)&&decide (x.flags≤3) &&
  ((decide (x.at_=0)&&decide (x.len=0))||(plB x.at_ (clus bits)&&decide (1≤x.len)&&decide (x.len≤16777216)))):=rfl
 refine br (fun hP=>?_) (fun hP=>?_)
 rotate_left
 ·rw [hS,hP]
  refine gGw ?_
  exact fin1 rfl rfl (fun w' hm=>⟨rfl,hm.fr⟩)
 rw [hS,hP,Bool.true_and]
 refine gGw ?_
 refine br_d (fun h0=>?_) (fun h0=>?_)
 ·have hp0:plB x.at_ (clus bits)=false:=by unfold plB;rw [decide_eq_false (show ¬ 0<x.at_ by omega)];rfl
  rw [decide_eq_true h0,hp0,Bool.true_and,Bool.false_and,Bool.false_and,Bool.or_false]
  refine gGw ?_
  refine br (fun h1=>?_) (fun h1=>?_)
  ·change decide (x.len=0)=true at h1
   rw [h1]
   refine gGw ?_
   exact fin1 rfl rfl (fun w' hm=>⟨rfl,hm.fr⟩)
  ·change decide (x.len=0)=false at h1
   rw [h1]
   refine gGw ?_
   refine⟨zei,zae _ (fun w' _=>zgC x.at_ bits w' hb) ?_⟩
   rw [hp0]
   refine gGw ?_
   refine br_f rfl ?_
   refine gGw ?_
   refine br_f rfl ?_
   refine gGw ?_
   exact fin1 rfl rfl (fun w' hm=>⟨rfl,hm.fr⟩)
 ·rw [decide_eq_false h0,Bool.false_and,Bool.false_or]
  refine gGw ?_
  refine br_f rfl ?_
  refine gGw ?_
  refine⟨zei,zae _ (fun w' _=>zgC x.at_ bits w' hb) ?_⟩
  refine gGw ?_
  refine br (fun h1=>?_) (fun h1=>?_)
  ·rw [h1,Bool.true_and]
   refine gGw ?_
   refine br (fun h2=>?_) (fun h2=>?_)
   ·change decide (1≤x.len)=true at h2
    rw [h2,Bool.true_and]
    refine gGw ?_
    exact fin1 rfl rfl (fun w' hm=>⟨rfl,hm.fr⟩)
   ·change decide (1≤x.len)=false at h2
    rw [h2,Bool.false_and]
    refine gGw ?_
    exact fin1 rfl rfl (fun w' hm=>⟨rfl,hm.fr⟩)
  ·rw [h1,Bool.false_and,Bool.false_and]
   refine gGw ?_
   refine br_f rfl ?_
   refine gGw ?_
   exact fin1 rfl rfl (fun w' hm=>⟨rfl,hm.fr⟩)
end Go.Proofs.YtlmgelmloddfgaaGreat
namespace Go.Proofs.YtlmgelmloddfgaaGreat
open Go Go.RowKit Eng
def numT (x:Nat):Int:=if 4611686018427387904≤x then -1 else (x:Int)
theorem zt1 {s:ByteArray} {i:Nat} (hi:(i:Int)<s.size) (hz:ze7 s (Int.toNat (i:Int))=0):(s.data.toList.all fun x=>!(x == 0))=false:=by
 rw [Int.toNat_natCast] at hz
 unfold ze7 at hz
 have hl:i<s.data.toList.length:=by
  have:s.size=s.data.toList.length:=by rw [Array.length_toList];rfl
  omega
 rw [List.all_eq_false]
 refine⟨_,List.getElem_mem hl,?_⟩
 rw [List.getD_eq_getElem?_getD,List.getElem?_eq_getElem hl] at hz
 have h2:s.data.toList[i]=0:=u8_zero.1 hz
 rw [h2];decide
theorem zt2 {s:ByteArray} {i:Nat} (hz:¬ ze7 s (Int.toNat (i:Int))=0):s.data.toList.getD i 0≠0:=by
 intro h1
 apply hz
 rw [Int.toNat_natCast]
 unfold ze7
 rw [h1];rfl
theorem zq5 {s:ByteArray} {i:Nat} (hi:s.size≤i) (hj:∀ j,j<i→s.data.toList.getD j 0≠0):(s.data.toList.all fun x=>!(x == 0))=true:=by
 rw [List.all_eq_true]
 intro x hx
 obtain ⟨j,hjl,rfl⟩:=List.getElem_of_mem hx
 have:s.size=s.data.toList.length:=by rw [Array.length_toList];rfl
 have h1:=hj j (by omega)
 rw [List.getD_eq_getElem?_getD,List.getElem?_eq_getElem hjl] at h1
 simpa using h1
attribute [local irreducible] Br Rn RnU Cl RdG CpG Ld Rd Lp Dr Oth Cut fin Fits Eng.Enters Md NA
theorem zcP:Eng.Enters Tryz.prog 158:=zab fun _ _=>by kernel_rfl
theorem zbs:Eng.Enters Tryz.prog 212:=zab fun _ _=>by kernel_rfl
theorem zrl (bs:List UInt8) (A:Option Addr) (c:Nat) (w:World) (hb:BytsIn w A bs) (hl:bs.length≤8) :
  Calls Tryz.prog 158 #[.slice A bs.length c] w fun e w'=>e=.returned (.int .i64 (numT (leV bs)))∧Fr (fun _=>False) w w':=by
 refine enter (cx:=CX 10 [] w) [(0,.slice A bs.length c)] zaa Tryz.func158 rfl rfl rfl rfl (MemOk.nil w _) ?_
 refine gGw ?_
 refine⟨zel,zae _ (fun w' hm'=>zgI bs A c w' ((BytsIn.byts (cx:=CX 10 [] w) (m:=[]) hb (fun _ h=>h)).in_ hm') hl) ?_⟩
 generalize leV bs=x
 refine gGw ?_
 refine br_d (fun h=>?_) (fun h=>?_)
 ·refine gGw ?_
  exact fin1 rfl rfl (fun w' hm=>⟨by rw [numT,if_pos (by omega)],hm.fr⟩)
 ·refine gGw ?_
  exact fin1 rfl rfl (fun w' hm=>⟨by rw [numT,if_neg (by omega)],hm.fr⟩)
theorem zcb (s:ByteArray) (w:World) (hs:s.size≤1000000) :
  Calls Tryz.prog 212 #[.string s] w fun e w'=>e=.returned (.bool (zcR s))∧Fr (fun _=>False) w w':=by
 refine enter (cx:=CX 22 [] w) [(0,.string s)] zaa Tryz.func212 rfl rfl rfl rfl (MemOk.nil w _) ?_
 refine gGw ?_
 refine lp zaa (γ:=Nat) (fun i=>i≤s.size∧∀ j,j<i→s.data.toList.getD j 0≠0) (fun i=>[(3,.int .i64 (i:Int)),(0,.string s)]) (fun _=>[]) (fun i=>s.size-i) 0 ⟨Nat.zero_le _,fun j hj=>absurd hj (Nat.not_lt_zero _)⟩ ⟨rfl,rfl,trivial⟩ (SubM.refl _ _) ?_
 rintro i ⟨hi,hji⟩
 dsimp only
 refine gGw ?_
 refine br_d (fun hlt=>?_) (fun hge=>?_)
 ·refine gGw ?_
  refine br_d (fun hz=>?_) (fun hz=>?_)
  ·have hno:zcR s=false:=by
    unfold zcR
    rw [zt1 hlt hz,Bool.and_false]
   refine gGw ?_
   exact fin1 rfl rfl (fun w' hm=>⟨by rw [hno],hm.fr⟩)
  ·refine gGw ?_
   refine⟨i+1,⟨by omega,fun j hj=>?_⟩,by omega,⟨rfl,rfl,trivial⟩,SubM.refl _ _⟩
   rcases Nat.lt_succ_iff_lt_or_eq.1 hj with hj|rfl
   ·exact hji j hj
   ·exact zt2 hz
 ·have h9:=zq5 (s:=s) (i:=i) (by omega) hji
  have hend:zcR s=(decide (1≤(s.size:Int))&&decide ((s.size:Int)≤64)):=by
   unfold zcR
   rw [h9,Bool.and_true]
   congr 1
   ·exact decide_eq_decide.2 (by omega)
   ·exact decide_eq_decide.2 (by omega)
  refine gGw ?_
  exact fin1 rfl rfl (fun w' hm=>⟨by rw [hend],hm.fr⟩)
end Go.Proofs.YtlmgelmloddfgaaGreat
namespace Go.Proofs.YtlmgelmloddfgaaGreat
open Go Go.RowKit Eng
attribute [local irreducible] Br Rn RnU Cl RdG CpG Ld Rd Lp Dr Oth Cut fin Fits Eng.Enters Md NA
theorem zkh:Eng.Enters Tryz.prog 189:=zab fun _ _=>by kernel_rfl
theorem zpy (x:Snp) (bits:Int) (w:World) (hb:9≤bits∧bits≤16) (hs:x.name.size≤1000000) :
  Calls Tryz.prog 189 #[.agg x.cells.toArray,.int .i64 bits] w fun e w'=>e=.returned (.bool (zhU x bits))∧Fr (fun _=>False) w w':=by
 refine enter (cx:=⟨Tryz.prog,57,w,fun _=>False,tab,[],[73],[],[]⟩) [(0,.agg x.cells.toArray),(1,.int .i64 bits)] zaa Tryz.func189 rfl rfl rfl rfl (MemOk.nil w _) ?_
 have hl1:∃ L,L=((decide (x.l1len=0)&&decide (x.l1=0))||(decide (0<x.l1len)&&plB x.l1 (clus bits))):=⟨_,rfl⟩
 obtain ⟨L,hL⟩:=hl1
 have eB:zhU x bits=(zcR x.name&&decide (0≤x.size)&&decide (x.size≤67108864)&&decide (x.size.tmod 512=0)&&decide (0≤x.l1len)&&decide (x.l1len≤1048576)&&L):=by rw [hL];rfl
 have eC:∀ M,L=M→zhU x bits=(zcR x.name&&M&&decide (0≤x.l1len)&&decide (x.l1len≤1048576)&&decide (0≤x.size)&&decide (x.size≤67108864)&&decide (x.size.tmod 512=0)):=by
  intro M hM
  rw [eB,hM]
  ac_rfl
 refine gGw ?_;(repeat ((first|refine .mk fun Ap capp=>?_|intro _);(conv=>whnf);refine gG0 ?_))
 refine br (fun h1=>?_) (fun h1=>?_)
 ·have hT:L=true:=by rw [hL,h1];rfl
  refine gGw ?_
  refine⟨zbs,zae _ (fun w' _=>zcb x.name w' hs) ?_⟩
  refine gGw ?_
  exact fin1 rfl rfl (fun w' hm=>⟨by rw [eC _ hT];try rfl,hm.fr⟩)
 ·rw [h1,Bool.false_or] at hL
  refine gGw ?_
  refine br (fun h2=>?_) (fun h2=>?_)
  ·rw [h2,Bool.true_and] at hL
   refine gGw ?_
   refine⟨zbn,zae _ (fun w' _=>zch x.l1 bits w' (by omega)) ?_⟩
   refine gGw ?_
   refine⟨zbs,zae _ (fun w' _=>zcb x.name w' hs) ?_⟩
   refine gGw ?_
   exact fin1 rfl rfl (fun w' hm=>⟨by rw [eC _ hL];try rfl,hm.fr⟩)
  ·rw [h2,Bool.false_and] at hL
   refine gGw ?_
   refine⟨zbs,zae _ (fun w' _=>zcb x.name w' hs) ?_⟩
   refine gGw ?_
   exact fin1 rfl rfl (fun w' hm=>⟨by rw [eC _ hL];try rfl,hm.fr⟩)
theorem zki:Eng.Enters Tryz.prog 191:=zab fun _ _=>by kernel_rfl
theorem zpz (x:Rwp) (bits:Int) (w:World) (hb:9≤bits∧bits≤16) (hs:x.name.size≤1000000) :
  Calls Tryz.prog 191 #[.agg x.cells.toArray,.int .i64 bits] w fun e w'=>e=.returned (.bool (rowB x bits))∧Fr (fun _=>False) w w':=by
 refine enter (cx:=⟨Tryz.prog,56,w,fun _=>False,tab,[],[73],[],[]⟩) [(0,.agg x.cells.toArray),(1,.int .i64 bits)] zaa Tryz.func191 rfl rfl rfl rfl (MemOk.nil w _) ?_
 have hl1:∃ L,L=((decide (x.at_=0)&&decide (x.len=0))||(plB x.at_ (clus bits)&&decide (1≤x.len)&&decide (x.len≤16777216))):=⟨_,rfl⟩
 obtain ⟨L,hL⟩:=hl1
 have eB:rowB x bits=(zcR x.name&&decide (9≤x.gran)&&decide (x.gran≤31)&&decide (0≤x.flags)&&decide (x.flags≤3)&&L):=by rw [hL];rfl
 have eC:∀ M,L=M→rowB x bits=(zcR x.name&&M&&decide (9≤x.gran)&&decide (x.gran≤31)&&decide (0≤x.flags)&&decide (x.flags≤3)):=by
  intro M hM
  rw [eB,hM]
  ac_rfl
 refine gGw ?_;(repeat ((first|refine .mk fun Ap capp=>?_|intro _);(conv=>whnf);refine gG0 ?_))
 refine br (fun h1=>?_) (fun h1=>?_)
 ·have hT:L=true:=by rw [hL,h1];rfl
  refine gGw ?_
  refine⟨zbs,zae _ (fun w' _=>zcb x.name w' hs) ?_⟩
  refine gGw ?_
  exact fin1 rfl rfl (fun w' hm=>⟨by rw [eC _ hT];try rfl,hm.fr⟩)
 ·rw [h1,Bool.false_or] at hL
  refine gGw ?_
  refine⟨zbn,zae _ (fun w' _=>zch x.at_ bits w' (by omega)) ?_⟩
  cases hp:plB x.at_ (clus bits) with
  | false =>
   rw [hp,Bool.false_and,Bool.false_and] at hL
   refine gGw ?_
   refine br_f rfl ?_
   refine gGw ?_
   refine br_f rfl ?_
   refine gGw ?_
   refine⟨zbs,zae _ (fun w' _=>zcb x.name w' hs) ?_⟩
   refine gGw ?_
   exact fin1 rfl rfl (fun w' hm=>⟨by rw [eC _ hL];try rfl,hm.fr⟩)
  | true =>
   rw [hp,Bool.true_and] at hL
   refine gGw ?_
   refine br_t rfl ?_
   refine gGw ?_
   refine br (fun h2=>?_) (fun h2=>?_)
   ·change decide (1≤x.len)=true at h2
    rw [h2,Bool.true_and] at hL
    refine gGw ?_
    refine⟨zbs,zae _ (fun w' _=>zcb x.name w' hs) ?_⟩
    refine gGw ?_
    exact fin1 rfl rfl (fun w' hm=>⟨by rw [eC _ hL];try rfl,hm.fr⟩)
   ·change decide (1≤x.len)=false at h2
    rw [h2,Bool.false_and] at hL
    refine gGw ?_
    refine⟨zbs,zae _ (fun w' _=>zcb x.name w' hs) ?_⟩
    refine gGw ?_
    exact fin1 rfl rfl (fun w' hm=>⟨by rw [eC _ hL];try rfl,hm.fr⟩)
end Go.Proofs.YtlmgelmloddfgaaGreat
namespace Go.Proofs.YtlmgelmloddfgaaGreat
open Go Go.RowKit Eng
theorem zek (s:ByteArray):Lib.strCells s=(zah s.data.toList).map (Value.int .u8):=by simp [Lib.strCells,zah]
theorem zjf:Tryz.prog.underlying 9=some .string:=by kernel_rfl
theorem zdv:Tryz.prog.underlying 22=some (.slice 5):=by kernel_rfl
theorem zuO:(Tryz.prog.info? 5).map (fun i=>(i.zero,i.size,i.bytes))=some (some (.int .u8 0),1,1):=by kernel_rfl
theorem zyk {w:World} {ty n cap:Nat} {A:Option Addr} {xs:List Value} (hown:w.ownsRow 0 5 1 (.slice A n cap) n xs) (s:ByteArray) (hb:n+s.size≤140737488355328) {v':Value} {w':World}
  (hr:(Builtin.append_ #[22,9] ty #[.slice A n cap,.string s]).run Tryz.prog w=.ok v' w') (hnil:v'=.slice none 0 0↔Value.slice A n cap=.slice none 0 0∧s.size=0):v'.ownBlock=(Value.slice A n cap).ownBlock∨v'.ownBlock=some w.heap.size:=by
 obtain ⟨i0,hi,hz0,hz1,hz2⟩:=info_parts zuO
 rcases hown.2 with ⟨e1,e2⟩|⟨g,cap',cur,e1,hbg,hg,hnc,hcm,hcs,htake⟩
 ·by_cases h0:s.size=0
  ·rw [hnil.2 ⟨e1,h0⟩,e1];exact .inl rfl
  ·rw [e1] at hr
   have h1:=run_append_nil_string (P:=Tryz.prog) w 22 9 ty 5 i0 (.int .u8 0) zdv zjf hi hz0 s (by omega) (by omega) (by rw [hz2];omega)
   rw [hr] at h1
   injection h1 with h1 _
   rw [h1];exact .inr rfl
 ·rw [e1] at hr
  have hxl:xs.length=n:=by simpa using hown.1
  by_cases hroom:n+s.size≤cap'
  ·have h1:=Lib.run_append_room_string (P:=Tryz.prog) w 22 9 ty 5 i0 zdv zjf hi hz1 g n cap' cur hg s hroom (by rw [hcs];omega)
   rw [hr] at h1
   injection h1 with h1 _
   rw [h1,e1];exact .inl rfl
  ·have holds:∀ j u,xs[j]?=some u→w.cell? ((⟨g,0,none⟩:Addr).add j)=some u:=(show w.ownsRow 0 5 1 (.slice (some ⟨g,0,none⟩) n cap') n xs from e1 ▸ hown).cells (g:=g) rfl
   have h1:=Lib.run_append_grow_string (P:=Tryz.prog) w 22 9 ty 5 i0 (.int .u8 0) zdv zjf hi hz0 ⟨g,0,none⟩ n cap' xs (by rw [hz1];simpa using hxl) holds s (by omega) (by omega) (by rw [hz2];exact growslice_fits (by omega) (by omega))
   rw [hr] at h1
   injection h1 with h1 _
   rw [h1];exact .inr rfl
theorem zib {cx:Cx} (hP:cx.P=Tryz.prog) {m m':Mem} {ty n cap:Nat} {A:Option Addr} {xs:List Value} {s:ByteArray} {K:Value→Mem→Prop} (hu:Out m (.row A cap n 5 1 xs) m') (hb:n+s.size≤140737488355328)
  (hK:∀ A' cap',K (.slice A' (n+s.size) cap') (.row A' cap' (n+s.size) 5 1 (xs++Lib.strCells s)::m')):Rn cx m (Builtin.append_ #[22,9] ty #[.slice A n cap,.string s]) K:=by
 intro w hm
 obtain ⟨i0,hi,hz0,hz1,hz2⟩:=info_parts zuO
 have hm1:=hm.perm hu.perm
 have hown:w.ownsRow 0 5 1 (.slice A n cap) n xs:=hm1.ok _ (List.mem_cons_self ..)
 obtain ⟨v',w',hr,ho,hg,hnil⟩:=Lib.run_append_own_string (P:=Tryz.prog) w 0 22 9 ty 5 i0 zdv zjf hi hz0 hz1 hz2 (.slice A n cap) n xs hown s (by simp only [maxLen];omega) hb (Nat.zero_le _)
 have hat:=zyk hown s hb hr hnil
 have hv:∃ A' cap',v'=.slice A' (n+s.size) cap':=by
  rcases ho.2 with ⟨e1,e2⟩|⟨g,c',cur,e1,_⟩
  ·exact⟨none,0,by rw [e2];exact e1⟩
  ·exact⟨_,c',e1⟩
 obtain ⟨A',cap',rfl⟩:=hv
 have hapart:=(List.pairwise_cons.1 hm1.apart).1
 have hmt:MemOk cx.w0 cx.S m' w':=hm1.tail.step (Fr.of_row hg) (fun b hb hT=>by
   have:=hm1.own _ (List.mem_cons_self ..) b (by rw [Res.row_own];exact hT.symm)
   exact this.elim (fun h=>absurd hb (by omega)) id) (fun r hr b hb hT=>hapart r hr b (by rw [Res.row_own];exact hT.symm) hb)
 refine⟨_,w',_,by rw [hP];exact hr,?_,hK A' cap'⟩
 refine hmt.cons ho (fun b hb=>?_) (fun b hb s hs' hsb=>?_)
 ·rw [Res.row_own] at hb
  rcases hat with hat|hat
  ·exact hm1.own _ (List.mem_cons_self ..) b (by rw [Res.row_own,← hat];exact hb)
  ·rw [hat] at hb;cases hb;exact .inl hm.fr.size
 ·rw [Res.row_own] at hb
  rcases hat with hat|hat
  ·exact hapart s hs' b (by rw [Res.row_own,← hat];exact hb) hsb
  ·rw [hat] at hb;cases hb
   exact Nat.lt_irrefl _ (Res.ok_lt (hm1.tail.ok s hs') hsb)
end Go.Proofs.YtlmgelmloddfgaaGreat
namespace Go.Proofs.YtlmgelmloddfgaaGreat
open Go Go.RowKit Eng
theorem zkA (l:List UInt8) (v:UInt8):(zah (l++[v])).map (Value.int .u8)=(zah l).map (Value.int .u8)++[.int .u8 (v.toNat:Int)]:=by
 unfold zah;simp
theorem zdi (l k:List UInt8):(zah (l++k)).map (Value.int .u8)=(zah l).map (Value.int .u8)++(zah k).map (Value.int .u8):=by
 unfold zah;simp
attribute [local irreducible] Br Rn RnU Cl RdG CpG Ld Rd Lp Dr Oth Cut fin Fits Eng.Enters Md NA
theorem zaD:Eng.Enters Tryz.prog 75:=zab fun _ _=>by kernel_rfl
theorem zux (x n:Nat) (w:World) (hx:x<18446744073709551616) (hn:n≤1000) :
  Ctr Tryz.prog 75 [.int .u64 (x:Int),.int .i64 (n:Int)] [] (fun e m'=>∃ A c,e=.returned (.slice A n c)∧m'=[BR8 A c n (leB x n)]) w:=by
 refine enter (cx:=CXS 21 [] w (Foot [])) [(0,.int .u64 (x:Int)),(1,.int .i64 (n:Int))] zaa Tryz.func75 rfl rfl rfl rfl (MemOk.nil w _) ?_
 refine gGw ?_
 refine lp zaa (γ:=Nat × Option Addr × Nat) (fun q=>q.1≤n) (fun q=>[(6,.int .i64 (q.1:Int)),(5,.slice q.2.1 q.1 q.2.2),(1,.int .i64 (n:Int)),(0,.int .u64 ((x/256 ^ q.1:Nat):Int))])
  (fun q=>[BR8 q.2.1 q.2.2 q.1 (leB x q.1)]) (fun q=>n-q.1) (0,none,0) (Nat.zero_le _) ⟨rfl,rfl,rfl,by simp only [Nat.pow_zero,Nat.div_one];rfl,trivial⟩ (SubM.row0 SubM.sl _ _) ?_
 rintro ⟨i,A,c⟩ hi
 simp only at hi
 dsimp only
 conv=>whnf
 refine br_d (fun hlt=>?_) (fun hge=>?_)
 ·have hd:x/256 ^ i<18446744073709551616:=Nat.lt_of_le_of_lt (Nat.div_le_self _ _) hx
  have es:leB x (i+1)=leB x i++[UInt8.ofNat (x/256 ^ i%256)]:=zkG i x
  have ed:x/256 ^ (i+1)=x/256 ^ i/256:=by rw [Nat.pow_succ,Nat.div_div_eq_div_mul]
  generalize hv:x/256 ^ i=v at hd es ed
  have et:(v:Int).tmod 256=((v%256:Nat):Int):=by rw [Int.tmod_eq_emod_of_nonneg (by omega)];push_cast;rfl
  have eq:IntKind.u64.wrap ((v:Int).tdiv 256)=((v/256:Nat):Int):=by
   rw [Int.tdiv_eq_ediv_of_nonneg (by omega)]
   have:((v:Int)/256)=((v/256:Nat):Int):=by push_cast;rfl
   rw [this]
   exact IntWalk.u64_in _ (by omega)
  refine gGw ?_;(repeat ((first|refine .mk fun Ap capp=>?_|intro _);(conv=>whnf);refine gG0 ?_))
  have e8:((UInt8.ofNat (v%256)).toNat:Int)=(v:Int).tmod 256:=by rw [et,UInt8.toNat_ofNat'];omega
  refine⟨(i+1,Ap,capp),by show i+1≤n;omega,by show n-(i+1)<n-i;omega,⟨rfl,rfl,rfl,?_,trivial⟩,?_⟩
  ·show some (Value.int .u64 (IntKind.u64.wrap ((v:Int).tdiv 256)))=some (Value.int .u64 ((x/256 ^ (i+1):Nat):Int))
   rw [eq,ed]
  ·show SubM _ _ [.row Ap capp (i+1) 5 1 ((zah (leB x (i+1))).map (Value.int .u8))]
   rw [es,zkA,e8]
   exact SubM.sl
 ·obtain rfl:i=n:=by omega
  refine gGw ?_
  exact fin1 rfl rfl (fun w' hm=>⟨_,⟨A,c,rfl,rfl⟩,hm⟩)
end Go.Proofs.YtlmgelmloddfgaaGreat
namespace Go.Proofs.YtlmgelmloddfgaaGreat
open Go Go.RowKit Eng
theorem u_u8B:Tryz.prog.underlying 5=some (.int .u8):=by kernel_rfl
theorem zuj {cx:Cx} (hP:cx.P=Tryz.prog) {m m':Mem} {b n:Nat} {cs:List Value} {K:Value→Mem→Prop} (hu:Upd m (.blk b (.cells cs.toArray 5)) (.blk b (.cells cs.toArray 5 (cs.length,cs.length+1))) m') (hK:K (.slice (some ⟨b,0,none⟩) n n) m') :
  Rn cx m (convert 22 22 (.slice (some ⟨b,0,none⟩) n n)) K:=by
 intro w hm
 obtain ⟨rest,hp,_⟩:=hu.perm
 have hb:w.heap[b]?=some (.cells cs.toArray 5 (0,0)):=(hm.perm hp).ok _ (List.mem_cons_self ..)
 have hsh:w.shape? b=some (5,cs.length):=by simp [World.shape?,hb]
 refine⟨.slice (some ⟨b,0,none⟩) n n,w.freeze ⟨b,cs.length,none⟩ 1,m',?_,ziq (b:=b) hm hu ?_ ?_,hK⟩
 ·rw [hP]
  simp [convert,run_underlying zdv,run_underlying u_u8B,markStringish,hsh]
 ·unfold World.freeze
  rw [if_neg (by decide)]
  exact⟨rfl,rfl,rfl,by simp,fun k hk hs=>by
   show (w.heap.modify b _)[k]?=_
   rw [Array.getElem?_modify,if_neg (fun e=>hs e.symm)]⟩
 ·unfold World.freeze
  rw [if_neg (by decide)]
  show (w.heap.modify b _)[b]?=_
  rw [Array.getElem?_modify,if_pos rfl,hb]
  rfl
theorem zwC {cx:Cx} (hP:cx.P=Tryz.prog) {m:Mem} {ty b n c k:Nat} {B:Option Addr} {fr:Nat × Nat} {cs:List Value} {ys:List UInt8} {K:Value→Mem→Prop} (hh:Has m (.blk b (.cells cs.toArray 5 fr))) (hn:cs.length=n) (hy:Has m (BR8 B c k ys)) (hk:0<k) (hb:n+k≤1000000)
  (hK:∀ A' cap',K (.slice A' (n+k) cap') (.row A' cap' (n+k) 5 1 (cs++(zah ys).map (.int .u8))::m)):Rn cx m (Builtin.append_ #[22,22] ty #[.slice (some ⟨b,0,none⟩) n n,.slice B k c]) K:=by
 intro w hm
 obtain ⟨i0,hi,hz0,hz1,hz2⟩:=info_parts zuO
 have h1:w.heap[b]?=some (.cells cs.toArray 5 fr):=hm.ok _ hh.mem
 have h2:=hm.ok _ hy.mem
 have h3:BytsIn w B ys:=zaB h2
 have h4:k=ys.length:=zsA h2
 obtain ⟨bb,o,rfl,hc⟩:=h3 (by rw [zag];omega)
 have hcell:∀ j v,cs[j]?=some v→w.cell? ((⟨b,0,none⟩:Addr).add j)=some v:=fun j v hj=>by
  rw [Addr.add_lit]
  have:w.cell? ⟨b,0+j,none⟩=cs.toArray[0+j]?:=by simp [World.cell?,h1]
  rw [this,Nat.zero_add];simpa using hj
 have hnews:∀ j v,((zah ys).map (Value.int .u8))[j]?=some v→w.cell? ((⟨bb,o,none⟩:Addr).add j)=some v:=fun j v hj=>by
  rw [List.getElem?_map] at hj
  cases hys:(zah ys)[j]? with
  | none=>rw [hys] at hj;cases hj
  | some y =>
   rw [hys,Option.map_some] at hj
   have hjl:=(List.getElem?_eq_some_iff.1 hys).1
   have h9:=hc j hjl
   have hy9:(zah ys).getD j 0=y:=by rw [List.getD_eq_getElem?_getD,hys];rfl
   rw [hy9,hj] at h9
   rw [Addr.add_lit]
   exact h9
 have hrun:=run_append_grow (P:=Tryz.prog) w 22 ty 5 i0 (.int .u8 0) zdv hi hz0 ⟨b,0,none⟩ n n cs (by rw [hz1,hn,Nat.mul_one]) hcell ⟨bb,o,none⟩ k c ((zah ys).map (.int .u8)) (by rw [hz1,List.length_map,zag];omega) hnews (by omega) (by omega) (by rw [hz2];exact growslice_fits (by omega) (by omega))
 have hge:=grownCap_ge w (n+k) n 5
 have hcm:grownCap w (n+k) n 5≤maxLen:=grownCap_le_maxLen w (n+k) n 5 (by simp only [maxLen];omega)
 generalize grownCap w (n+k) n 5=gc at hrun hge hcm
 rw [hP]
 refine⟨_,_,_,hrun,?_,hK _ _⟩
 have hf:Fr (fun _=>False) w (w.drew.alloc (.cells (cs.toArray++((zah ys).map (Value.int .u8)).toArray++Builtin.zeroCells (Value.int .u8 0).cells (gc-(n+k))) 5)):=⟨rfl,rfl,rfl,by simp,fun q hq _=>Below.heap_alloc w.drew _ q hq⟩
 refine (hm.same hf).cons ?_ (fun q hq=>?_) (fun q hq s hs hsb=>?_)
 ·refine⟨by rw [List.length_append,List.length_map,zag];omega,.inr ⟨w.heap.size,_,_,rfl,Nat.zero_le _,heap_alloc_new w.drew _,hge,hcm,?_,?_⟩⟩
  ·simp only [Array.size_append,List.size_toArray,size_zeroCells,List.length_map,zag]
   show cs.length+ys.length+(gc-(n+k))*1=gc*1
   omega
  ·simp only [Array.toList_append]
   rw [List.take_append_of_le_length (by rw [List.length_append,List.length_map,zag];omega)]
   exact List.take_of_length_le (by rw [List.length_append,List.length_map,zag];omega)
 ·cases hq;exact .inl hm.fr.size
 ·cases hq
  exact Nat.lt_irrefl _ (Res.ok_lt (hm.ok s hs) hsb)
end Go.Proofs.YtlmgelmloddfgaaGreat
namespace Go.Proofs.YtlmgelmloddfgaaGreat
open Go Go.RowKit Eng
theorem zcj (x:Int) (n:Nat) (w:World) (hx:0≤x∧x<18446744073709551616) (hn:n≤1000) :
  Ctr Tryz.prog 75 [.int .u64 x,.int .i64 (n:Int)] [] (fun e m'=>∃ A c,e=.returned (.slice A n c)∧m'=[BR8 A c n (leB x.toNat n)]) w:=by
 obtain ⟨y,rfl⟩:∃ y:Nat,x=y:=⟨x.toNat,by omega⟩
 rw [Int.toNat_natCast]
 exact zux y n w (by omega) hn
theorem zbh {cx:Cx} {m m':Mem} {ty:Nat} {A B:Option Addr} {cap c n k:Nat} {acc ys:List UInt8} {K:Value→Mem→Prop} (ht:TabOk cx.P cx.tab) (hT:cx.tab=tab) (hu:Out m (BR8 A cap n acc) m') (hh:Has m (BR8 B c k ys)) (hk:ys.length=k) (hb:n+k≤1000000)
  (hK:∀ A' cap',K (.slice A' (n+k) cap') (BR8 A' cap' (n+k) (acc++ys)::m')):Rn cx m (Builtin.append_ #[22,22] ty #[.slice A n cap,.slice B k c]) K:=by
 have h1:=zgL (cx:=cx) (m:=m) (m':=m') (t:=22) (e:=5) (ty:=ty) (A:=A) (cap:=cap) (n:=n) (xs:=(zah acc).map (.int .u8)) (p:=B) (c:=c) (k:=.u8) (ys:=zah ys) (K:=K) ht (by rw [hT];rfl) rfl (by rw [hT];rfl) rfl rfl rfl hu
  (fun w hm=>rowI (hm.ok _ hh.mem)) (by rw [zag];omega) (fun A' cap'=>by
   have:=hK A' cap'
   rw [zag,hk,← zdi]
   exact this)
 rw [zag,hk] at h1
 exact h1
theorem subq {cx:Cx} {m m1 m2:Mem} (h:m=m1) (hs:SubM cx m1 m2):SubM cx m m2:=h ▸ hs
attribute [local irreducible] Br Rn RnU Cl RdG CpG Ld Rd Lp Dr Oth Cut fin Fits Eng.Enters Md NA
theorem zfy:Eng.Enters Tryz.prog 36:=zab fun _ _=>by kernel_rfl
set_option maxHeartbeats 2000000 in
theorem zid (h:Hd) (w:World) (hk:HOk h) :
  Ctr Tryz.prog 36 [.agg h.cells.toArray] [] (fun e m'=>∃ A c,e=.returned (.slice A 512 c)∧m'=[BR8 A c 512 (zbe h)]) w:=by
 obtain ⟨k1,k2,k3,k4,k5,k6,k7,k8,k9,k10,k11,k12,k13,k14,k15⟩:=hk
 refine enter (cx:=CXS 107 [] w (Foot [])) [(0,.agg h.cells.toArray)] zaa Tryz.func36 rfl rfl rfl rfl (MemOk.nil w _) ?_
 refine gGw ?_;(repeat ((first|refine .mk fun Ap capp=>?_|intro _);(conv=>whnf);refine gG0 ?_))
 rename_i hB mB
 refine zfS (m1:=[.blk mB (.cells [Value.int .u8 80,.int .u8 65,.int .u8 76,.int .u8 49].toArray 5),.blk hB (.cells h.cells.toArray 34)]) (subq (by kernel_rfl) (SubM.refl _ _)) ?_
 refine zuj (b:=mB) (n:=4) (cs:=[Value.int .u8 80,.int .u8 65,.int .u8 76,.int .u8 49]) rfl (by repeat constructor) ?_
 refine gGw ?_
 refine⟨zaD,zac (m1:=[]) .nil (fun w' hm'=>zcj h.bits 4 w' (by omega) (by omega)) ?_⟩
 rintro e m' ⟨N0,d0,rfl,rfl⟩
 conv=>whnf
 refine zwC rfl (by repeat constructor) rfl (by repeat constructor) (by decide) (by decide) (fun A1 c1=>?_)
 rw [show ([Value.int .u8 80,.int .u8 65,.int .u8 76,.int .u8 49]++(zah (leB h.bits.toNat 4)).map (Value.int .u8))=(zah (preB h 1)).map (Value.int .u8) from by rw [zbi h (i:=0) (q:=(4,h.bits)) rfl,zdi];rfl]
 refine gGw ?_
 refine⟨zaD,zac (m1:=[]) .nil (fun w' hm'=>zcj h.flags 8 w' (by omega) (by omega)) ?_⟩
 rintro e m' ⟨N1,d1,rfl,rfl⟩
 conv=>whnf
 refine zbh (acc:=preB h 1) (n:=8) (k:=8) (ys:=leB h.flags.toNat 8) zaa rfl (by repeat constructor) (by repeat constructor) (zad _ _) (by decide) (fun A2 c2=>?_)
 rw [← zbi h (i:=1) (q:=(8,h.flags)) rfl]
 refine gGw ?_
 refine⟨zaD,zac (m1:=[]) .nil (fun w' hm'=>zcj h.size 8 w' (by omega) (by omega)) ?_⟩
 rintro e m' ⟨N2,d2,rfl,rfl⟩
 conv=>whnf
 refine zbh (acc:=preB h 2) (n:=16) (k:=8) (ys:=leB h.size.toNat 8) zaa rfl (by repeat constructor) (by repeat constructor) (zad _ _) (by decide) (fun A3 c3=>?_)
 rw [← zbi h (i:=2) (q:=(8,h.size)) rfl]
 refine gGw ?_
 refine⟨zaD,zac (m1:=[]) .nil (fun w' hm'=>zcj h.l1 8 w' (by omega) (by omega)) ?_⟩
 rintro e m' ⟨N3,d3,rfl,rfl⟩
 conv=>whnf
 refine zbh (acc:=preB h 3) (n:=24) (k:=8) (ys:=leB h.l1.toNat 8) zaa rfl (by repeat constructor) (by repeat constructor) (zad _ _) (by decide) (fun A4 c4=>?_)
 rw [← zbi h (i:=3) (q:=(8,h.l1)) rfl]
 refine gGw ?_
 refine⟨zaD,zac (m1:=[]) .nil (fun w' hm'=>zcj h.l1len 4 w' (by omega) (by omega)) ?_⟩
 rintro e m' ⟨N4,d4,rfl,rfl⟩
 conv=>whnf
 refine zbh (acc:=preB h 4) (n:=32) (k:=4) (ys:=leB h.l1len.toNat 4) zaa rfl (by repeat constructor) (by repeat constructor) (zad _ _) (by decide) (fun A5 c5=>?_)
 rw [← zbi h (i:=4) (q:=(4,h.l1len)) rfl]
 refine gGw ?_
 refine⟨zaD,zac (m1:=[]) .nil (fun w' hm'=>zcj h.order 4 w' (by omega) (by omega)) ?_⟩
 rintro e m' ⟨N5,d5,rfl,rfl⟩
 conv=>whnf
 refine zbh (acc:=preB h 5) (n:=36) (k:=4) (ys:=leB h.order.toNat 4) zaa rfl (by repeat constructor) (by repeat constructor) (zad _ _) (by decide) (fun A6 c6=>?_)
 rw [← zbi h (i:=5) (q:=(4,h.order)) rfl]
 refine gGw ?_
 refine⟨zaD,zac (m1:=[]) .nil (fun w' hm'=>zcj h.counts 8 w' (by omega) (by omega)) ?_⟩
 rintro e m' ⟨N6,d6,rfl,rfl⟩
 conv=>whnf
 refine zbh (acc:=preB h 6) (n:=40) (k:=8) (ys:=leB h.counts.toNat 8) zaa rfl (by repeat constructor) (by repeat constructor) (zad _ _) (by decide) (fun A7 c7=>?_)
 rw [← zbi h (i:=6) (q:=(8,h.counts)) rfl]
 refine gGw ?_
 refine⟨zaD,zac (m1:=[]) .nil (fun w' hm'=>zcj h.countsLen 4 w' (by omega) (by omega)) ?_⟩
 rintro e m' ⟨N7,d7,rfl,rfl⟩
 conv=>whnf
 refine zbh (acc:=preB h 7) (n:=48) (k:=4) (ys:=leB h.countsLen.toNat 4) zaa rfl (by repeat constructor) (by repeat constructor) (zad _ _) (by decide) (fun A8 c8=>?_)
 rw [← zbi h (i:=7) (q:=(4,h.countsLen)) rfl]
 refine gGw ?_
 refine⟨zaD,zac (m1:=[]) .nil (fun w' hm'=>zcj h.snaps 4 w' (by omega) (by omega)) ?_⟩
 rintro e m' ⟨N8,d8,rfl,rfl⟩
 conv=>whnf
 refine zbh (acc:=preB h 8) (n:=52) (k:=4) (ys:=leB h.snaps.toNat 4) zaa rfl (by repeat constructor) (by repeat constructor) (zad _ _) (by decide) (fun A9 c9=>?_)
 rw [← zbi h (i:=8) (q:=(4,h.snaps)) rfl]
 refine gGw ?_
 refine⟨zaD,zac (m1:=[]) .nil (fun w' hm'=>zcj h.snapsAt 8 w' (by omega) (by omega)) ?_⟩
 rintro e m' ⟨N9,d9,rfl,rfl⟩
 conv=>whnf
 refine zbh (acc:=preB h 9) (n:=56) (k:=8) (ys:=leB h.snapsAt.toNat 8) zaa rfl (by repeat constructor) (by repeat constructor) (zad _ _) (by decide) (fun A10 c10=>?_)
 rw [← zbi h (i:=9) (q:=(8,h.snapsAt)) rfl]
 refine gGw ?_
 refine⟨zaD,zac (m1:=[]) .nil (fun w' hm'=>zcj h.snapsLen 4 w' (by omega) (by omega)) ?_⟩
 rintro e m' ⟨N10,d10,rfl,rfl⟩
 conv=>whnf
 refine zbh (acc:=preB h 10) (n:=64) (k:=4) (ys:=leB h.snapsLen.toNat 4) zaa rfl (by repeat constructor) (by repeat constructor) (zad _ _) (by decide) (fun A11 c11=>?_)
 rw [← zbi h (i:=10) (q:=(4,h.snapsLen)) rfl]
 refine gGw ?_
 refine⟨zaD,zac (m1:=[]) .nil (fun w' hm'=>zcj h.bitmaps 4 w' (by omega) (by omega)) ?_⟩
 rintro e m' ⟨N11,d11,rfl,rfl⟩
 conv=>whnf
 refine zbh (acc:=preB h 11) (n:=68) (k:=4) (ys:=leB h.bitmaps.toNat 4) zaa rfl (by repeat constructor) (by repeat constructor) (zad _ _) (by decide) (fun A12 c12=>?_)
 rw [← zbi h (i:=11) (q:=(4,h.bitmaps)) rfl]
 refine gGw ?_
 refine⟨zaD,zac (m1:=[]) .nil (fun w' hm'=>zcj h.bitmapsAt 8 w' (by omega) (by omega)) ?_⟩
 rintro e m' ⟨N12,d12,rfl,rfl⟩
 conv=>whnf
 refine zbh (acc:=preB h 12) (n:=72) (k:=8) (ys:=leB h.bitmapsAt.toNat 8) zaa rfl (by repeat constructor) (by repeat constructor) (zad _ _) (by decide) (fun A13 c13=>?_)
 rw [← zbi h (i:=12) (q:=(8,h.bitmapsAt)) rfl]
 refine gGw ?_
 refine⟨zaD,zac (m1:=[]) .nil (fun w' hm'=>zcj h.bitmapsLen 4 w' (by omega) (by omega)) ?_⟩
 rintro e m' ⟨N13,d13,rfl,rfl⟩
 conv=>whnf
 refine zbh (acc:=preB h 13) (n:=80) (k:=4) (ys:=leB h.bitmapsLen.toNat 4) zaa rfl (by repeat constructor) (by repeat constructor) (zad _ _) (by decide) (fun A14 c14=>?_)
 rw [← zbi h (i:=13) (q:=(4,h.bitmapsLen)) rfl]
 refine gGw ?_
 refine⟨zaD,zac (m1:=[]) .nil (fun w' hm'=>zcj (h.backing.size:Int) 4 w' (by omega) (by omega)) ?_⟩
 rintro e m' ⟨N14,d14,rfl,rfl⟩
 conv=>whnf
 refine zbh (acc:=preB h 14) (n:=84) (k:=4) (ys:=leB (h.backing.size:Int).toNat 4) zaa rfl (by repeat constructor) (by repeat constructor) (zad _ _) (by decide) (fun A15 c15=>?_)
 refine gGw ?_
 refine zib rfl (by repeat constructor) (by omega) (fun A16 c16=>?_)
 rw [zek,← zdi,Int.toNat_natCast]
 generalize hbase:preB h 14++leB h.backing.size 4++h.backing.data.toList=base
 refine gGw ?_
 refine lp zaa (γ:=Nat × Option Addr × Nat) (fun q=>q.1≤424-h.backing.size) (fun q=>[(3,.slice q.2.1 (84+4+h.backing.size+q.1) q.2.2)])
  (fun q=>[BR8 q.2.1 q.2.2 (84+4+h.backing.size+q.1) (base++List.replicate q.1 0)]) (fun q=>424-h.backing.size-q.1) (0,A16,c16) (Nat.zero_le _) ⟨rfl,trivial⟩ (by
   show SubM _ _ [BR8 A16 c16 (84+4+h.backing.size) (base++[])]
   rw [List.append_nil]
   exact SubM.sl) ?_
 rintro ⟨k,A,c⟩ hk
 simp only at hk
 dsimp only
 conv=>whnf
 refine br_d (fun hlt=>?_) (fun hge=>?_)
 ·refine gGw ?_;(repeat ((first|refine .mk fun Ap capp=>?_|intro _);(conv=>whnf);refine gG0 ?_))
  refine⟨(k+1,Ap,capp),by show k+1≤_;omega,by show 424-h.backing.size-(k+1)<424-h.backing.size-k;omega,⟨rfl,trivial⟩,?_⟩
  show SubM _ _ [.row Ap capp (84+4+h.backing.size+k+1) 5 1 ((zah (base++List.replicate (k+1) 0)).map (Value.int .u8))]
  rw [List.replicate_succ',← List.append_assoc,zkA]
  exact SubM.sl
 ·have hk2:k=424-h.backing.size:=by omega
  have hbl:base.length=88+h.backing.size:=by
   rw [← hbase,List.length_append,List.length_append,zgi,zad,Array.length_toList];rfl
  have hfin:base++List.replicate k 0=zbe h:=by
   rw [hk2,← hbase];unfold zbe
   have e:preB h 14=zit++zl1 (zdG h):=rfl
   rw [e]
  have h512:84+4+h.backing.size+k=512:=by omega
  rw [hfin,h512]
  refine gGw ?_
  exact fin1 rfl rfl (fun w' hm=>⟨_,⟨A,c,rfl,rfl⟩,hm⟩)
end Go.Proofs.YtlmgelmloddfgaaGreat
namespace Go.Proofs.YtlmgelmloddfgaaGreat
open Go Go.RowKit Eng
/-! ## What it does -/
def zbX (xs:List Int) (i j:Nat):List Int:=(xs.set i (xs.getD j 0)).set j (xs.getD i 0)
def zaK (k:Int→Int) (xs:List Int) (i:Nat):Int:=k (xs.getD i 0)
def insJ (k:Int→Int) (a:Nat):Nat→List Int→List Int
 | 0,xs=>xs
 | j+1,xs=>if a<j+1∧zaK k xs (j+1)<zaK k xs j then insJ k a j (zbX xs (j+1) j) else xs
def insI (k:Int→Int) (xs:List Int) (a:Nat):Nat→List Int
 | 0=>xs
 | t+1=>insJ k a (a+1+t) (insI k xs a t)
def insF (k:Int→Int) (xs:List Int) (a b:Nat):List Int:=insI k xs a (b-(a+1))
def swR (xs:List Int) (a b:Nat):Nat→List Int
 | 0=>xs
 | i+1=>zbX (swR xs a b i) (a+i) (b+i)
def rotF (m:Nat) (i j:Nat) (xs:List Int):List Int :=
 if i=j∨i=0∨j=0 then swR xs (m-i) m i
 else if j<i then rotF m (i-j) j (swR xs (m-i) m j) else rotF m i (j-i) (swR xs (m-i) (m+j-i) i)
termination_by i+j
decreasing_by all_goals omega
def bsF (P:Nat→Bool) (i j:Nat):Nat:=if i<j then (if P ((i+j)/2) then bsF P ((i+j)/2+1) j else bsF P i ((i+j)/2)) else i
termination_by j-i
decreasing_by all_goals omega
theorem zhh (P:Nat→Bool) (i j:Nat) (h:i≤j):i≤bsF P i j∧bsF P i j≤j:=by
 fun_induction bsF P i j with
 | case1 i j hlt hp ih=>have:=ih (by omega);omega
 | case2 i j hlt hp ih=>have:=ih (by omega);omega
 | case3 i j hlt=>omega
def upF (xs:List Int) (k:Nat):Nat→List Int
 | 0=>xs
 | t+1=>zbX (upF xs k t) (k+t) (k+t+1)
def zkX (xs:List Int) (k:Nat):Nat→List Int
 | 0=>xs
 | t+1=>zbX (zkX xs k t) (k-t) (k-t-1)
def symF (k:Int→Int) (a m b:Nat) (xs:List Int):List Int :=
 if m-a=1 then upF xs a (bsF (fun h=>decide (zaK k xs h<zaK k xs a)) m b-1-a)
 else if b-m=1 then zkX xs m (m-bsF (fun h=>!decide (zaK k xs m<zaK k xs h)) a m)
 else if h:a<m∧m<b then
  let mid:=(a+b)/2
  let n:=mid+m
  let s:=if mid<m then bsF (fun c=>!decide (zaK k xs (n-1-c)<zaK k xs c)) (n-b) mid else bsF (fun c=>!decide (zaK k xs (n-1-c)<zaK k xs c)) a m
  let e:=n-s
  let x1:=if s<m∧m<e then rotF m (m-s) (e-m) xs else xs
  let x2:=if a<s∧s<mid then symF k a s mid x1 else x1
  if mid<e∧e<b then symF k mid e b x2 else x2
 else xs
termination_by b-a
decreasing_by all_goals omega
def zdq (k:Int→Int) (n:Nat):Nat→List Int→List Int
 | 0,xs=>xs
 | t+1,xs=>insF k (zdq k n t xs) (20*t) (20*t+20)
def zeT (k:Int→Int) (s:Nat):Nat→List Int→List Int
 | 0,xs=>xs
 | t+1,xs=>symF k (2*s*t) (2*s*t+s) (2*s*t+2*s) (zeT k s t xs)
def zkx (k:Int→Int) (n s:Nat) (xs:List Int):List Int :=
 if 2*s*(n/(2*s))+s<n then symF k (2*s*(n/(2*s))) (2*s*(n/(2*s))+s) n (zeT k s (n/(2*s)) xs) else zeT k s (n/(2*s)) xs
def zdg (k:Int→Int) (n s:Nat) (xs:List Int):List Int:=if 0<s∧s<n then zdg k n (s*2) (zkx k n s xs) else xs
termination_by n-s
decreasing_by omega
def zgG (k:Int→Int) (xs:List Int):List Int:=zdg k xs.length 20 (insF k (zdq k xs.length (xs.length/20) xs) (20*(xs.length/20)) xs.length)
/-! ## All of it but moves elements -/
theorem zd0 {xs:List Int} {i j:Nat} (hi:i<xs.length) (hj:j<xs.length):(zbX xs i j).Perm xs:=by
 unfold zbX
 rw [List.getD_eq_getElem?_getD,List.getD_eq_getElem?_getD,List.getElem?_eq_getElem hi,List.getElem?_eq_getElem hj]
 exact List.set_set_perm hi hj
theorem zq1 (xs:List Int) (i j:Nat):(zbX xs i j).length=xs.length:=by simp [zbX]
theorem zl8 (k:Int→Int) (a:Nat):∀ (j:Nat) (xs:List Int),j<xs.length→(insJ k a j xs).Perm xs
 | 0,xs,_=>List.Perm.refl _
 | j+1,xs,h=>by
  rw [insJ]
  split
  ·exact (zl8 k a j _ (by rw [zq1];omega)).trans (zd0 h (by omega))
  ·exact List.Perm.refl _
theorem ziv (k:Int→Int) (xs:List Int) (a:Nat):∀ t,a+t<xs.length∨t=0→(insI k xs a t).Perm xs
 | 0,_=>List.Perm.refl _
 | t+1,h=>by
  have ih:=ziv k xs a t (by omega)
  exact (zl8 k a _ _ (by rw [ih.length_eq];omega)).trans ih
theorem ziw (k:Int→Int) (xs:List Int) (a b:Nat) (h:b≤xs.length):(insF k xs a b).Perm xs:=ziv k xs a _ (by omega)
theorem zdw (xs:List Int) (a b:Nat):∀ n,a+n≤xs.length→b+n≤xs.length→(swR xs a b n).Perm xs
 | 0,_,_=>List.Perm.refl _
 | n+1,h1,h2=>by
  have ih:=zdw xs a b n (by omega) (by omega)
  exact (zd0 (by rw [ih.length_eq];omega) (by rw [ih.length_eq];omega)).trans ih
theorem zeP (m i j:Nat) (xs:List Int) (h1:i≤m) (h2:m+j≤xs.length) (h3:m+i≤xs.length∨0<j):(rotF m i j xs).Perm xs:=by
 fun_induction rotF m i j xs with
 | case1 i j xs h =>
  rcases h with h|h|h
  ·exact zdw xs _ _ _ (by omega) (by omega)
  ·subst h;exact List.Perm.refl _
  ·exact zdw xs _ _ _ (by omega) (by omega)
 | case2 i j xs h hlt ih =>
  have hp:=zdw xs (m-i) m j (by omega) (by omega)
  exact (ih (by omega) (by rw [hp.length_eq];omega) (by omega)).trans hp
 | case3 i j xs h hlt ih =>
  have hp:=zdw xs (m-i) (m+j-i) i (by omega) (by omega)
  exact (ih (by omega) (by rw [hp.length_eq];omega) (by omega)).trans hp
theorem zjT (xs:List Int) (k:Nat):∀ t,k+t<xs.length∨t=0→(upF xs k t).Perm xs
 | 0,_=>List.Perm.refl _
 | t+1,h=>by
  have ih:=zjT xs k t (by omega)
  exact (zd0 (by rw [ih.length_eq];omega) (by rw [ih.length_eq];omega)).trans ih
theorem zgV (xs:List Int) (k:Nat) (hk:k<xs.length):∀ t,t≤k→(zkX xs k t).Perm xs
 | 0,_=>List.Perm.refl _
 | t+1,h=>by
  have ih:=zgV xs k hk t (by omega)
  exact (zd0 (by rw [ih.length_eq];omega) (by rw [ih.length_eq];omega)).trans ih
theorem zdZ (k:Int→Int) (a m b:Nat) (xs:List Int) (h1:a<m) (h2:m<b) (h3:b≤xs.length):(symF k a m b xs).Perm xs:=by
 induction hn:b-a using Nat.strongRecOn generalizing a m b xs with
 | ind n ih =>
  subst hn
  rw [symF]
  split
  ·have:=zhh (fun h=>decide (zaK k xs h<zaK k xs a)) m b (by omega)
   exact zjT _ _ _ (by omega)
  ·split
   ·have:=zhh (fun h=>!decide (zaK k xs m<zaK k xs h)) a m (by omega)
    exact zgV _ _ (by omega) _ (by omega)
   ·rw [dif_pos ⟨h1,h2⟩]
    simp only
    generalize hs:(if (a+b)/2<m then bsF (fun c=>!decide (zaK k xs ((a+b)/2+m-1-c)<zaK k xs c)) ((a+b)/2+m-b) ((a+b)/2) else bsF (fun c=>!decide (zaK k xs ((a+b)/2+m-1-c)<zaK k xs c)) a m)=s
    have hsb:a≤s∧s≤m∧(a+b)/2+m-s≤b∧s≤(a+b)/2+m:=by
     split at hs
     ·have:=zhh (fun c=>!decide (zaK k xs ((a+b)/2+m-1-c)<zaK k xs c)) ((a+b)/2+m-b) ((a+b)/2) (by omega)
      omega
     ·have:=zhh (fun c=>!decide (zaK k xs ((a+b)/2+m-1-c)<zaK k xs c)) a m (by omega)
      omega
    have hx1:(if s<m∧m<(a+b)/2+m-s then rotF m (m-s) ((a+b)/2+m-s-m) xs else xs).Perm xs:=by
     split
     ·exact zeP _ _ _ _ (by omega) (by omega) (by omega)
     ·exact List.Perm.refl _
    generalize (if s<m∧m<(a+b)/2+m-s then rotF m (m-s) ((a+b)/2+m-s-m) xs else xs)=x1 at hx1 ⊢
    have hx2:(if a<s∧s<(a+b)/2 then symF k a s ((a+b)/2) x1 else x1).Perm xs:=by
     split
     ·exact (ih ((a+b)/2-a) (by omega) a s ((a+b)/2) x1 (by omega) (by omega) (by rw [hx1.length_eq];omega) rfl).trans hx1
     ·exact hx1
    generalize (if a<s∧s<(a+b)/2 then symF k a s ((a+b)/2) x1 else x1)=x2 at hx2 ⊢
    split
    ·exact (ih (b-(a+b)/2) (by omega) ((a+b)/2) _ b x2 (by omega) (by omega) (by rw [hx2.length_eq];omega) rfl).trans hx2
    ·exact hx2
theorem ze8 (k:Int→Int) (n:Nat):∀ (t:Nat) (xs:List Int),20*t≤xs.length→(zdq k n t xs).Perm xs
 | 0,xs,_=>List.Perm.refl _
 | t+1,xs,h=>by
  have ih:=ze8 k n t xs (by omega)
  exact (ziw k _ _ _ (by rw [ih.length_eq];omega)).trans ih
theorem zfU (k:Int→Int) (s:Nat) (hs:0<s):∀ (t:Nat) (xs:List Int),2*s*t≤xs.length→(zeT k s t xs).Perm xs
 | 0,xs,_=>List.Perm.refl _
 | t+1,xs,h=>by
  have e:2*s*(t+1)=2*s*t+2*s:=by rw [Nat.mul_succ]
  have ih:=zfU k s hs t xs (by omega)
  exact (zdZ k _ _ _ _ (by omega) (by omega) (by rw [ih.length_eq];omega)).trans ih
theorem zjx (k:Int→Int) (s:Nat) (hs:0<s) (xs:List Int):(zkx k xs.length s xs).Perm xs:=by
 have hd:2*s*(xs.length/(2*s))≤xs.length:=Nat.mul_div_le _ _
 have hp:=zfU k s hs (xs.length/(2*s)) xs hd
 unfold zkx
 split
 ·exact (zdZ k _ _ _ _ (by omega) (by omega) (by rw [hp.length_eq];exact Nat.le_refl _)).trans hp
 ·exact hp
theorem zlW (k:Int→Int) (n s:Nat) (xs:List Int) (hn:n=xs.length):(zdg k n s xs).Perm xs:=by
 fun_induction zdg k n s xs with
 | case1 s xs h ih =>
  have hp:=hn ▸ zjx k s h.1 xs
  exact (ih (by rw [hp.length_eq];exact hn)).trans hp
 | case2 s xs h=>exact List.Perm.refl _
theorem zeF (k:Int→Int) (xs:List Int):(zgG k xs).Perm xs:=by
 have h1:=ze8 k xs.length (xs.length/20) xs (Nat.mul_div_le _ _)
 have h2:=ziw k (zdq k xs.length (xs.length/20) xs) (20*(xs.length/20)) xs.length (by rw [h1.length_eq];exact Nat.le_refl _)
 unfold zgG
 exact ((zlW k _ _ _ (by rw [h2.length_eq,h1.length_eq])).trans h2).trans h1
/-! ## The walks -/
structure Ks where
 B:Nat
 A:Option Addr
 c:Nat
 L:List Int
abbrev Ks.blk (q:Ks):Res:=.blk q.B (.cells #[.slice q.A q.L.length q.c] 23)
abbrev SoM (q:Ks) (A:Option Addr) (c n:Nat) (xs:List Int):Mem:=[q.blk,IR A c n xs]
def Ks.key (q:Ks) (x:Int):Int:=q.L.getD x.toNat 0
abbrev Ks.fv (q:Ks):Value:=.func (.func 221) #[] #[.pointer (some ⟨q.B,0,none⟩)]
def KIn (q:Ks) (A:Option Addr) (c n:Nat) (xs:List Int) (w:World):Prop:=∀ w',Fr (Foot (SoM q A c n xs)) w w'→IntsIn .i64 w' q.A q.L
structure KsOk (q:Ks) (xs:List Int):Prop where
 l:q.L.length≤1048576
 v:∀ x∈q.L,-1000≤x∧x≤1000
 r:∀ x∈xs,0≤x∧x<q.L.length
theorem KsOk.perm {q:Ks} {xs ys:List Int} (h:KsOk q xs) (hp:ys.Perm xs):KsOk q ys:=⟨h.l,h.v,fun x hx=>h.r x (hp.mem_iff.1 hx)⟩
theorem KsOk.at_ {q:Ks} {xs:List Int} (h:KsOk q xs) {i:Nat} (hi:i<xs.length):0≤xs.getD i 0∧xs.getD i 0<q.L.length:=h.r _ (zbF hi)
theorem KsOk.key {q:Ks} {xs:List Int} (h:KsOk q xs) {x:Int} (hx:0≤x∧x<q.L.length):-1000≤q.key x∧q.key x≤1000:=h.v _ (zbF (by omega))
theorem zwY (q:Ks) (A:Option Addr) (c n n':Nat) (xs ys:List Int):Foot (SoM q A c n xs)=Foot (SoM q A c n' ys):=by
 funext b
 simp only [Foot,SoM,List.mem_cons,List.not_mem_nil,or_false,exists_eq_or_imp,exists_eq_left]
 cases A<;>rfl
theorem KIn.row {q:Ks} {A:Option Addr} {c n n':Nat} {xs ys:List Int} {w:World} (h:KIn q A c n xs w):KIn q A c n' ys w:=fun w' hf=>h w' (zwY q A c n n' xs ys ▸ hf)
theorem KIn.fr {q:Ks} {A:Option Addr} {c n:Nat} {xs:List Int} {w w':World} (h:KIn q A c n xs w) (hf:Fr (Foot (SoM q A c n xs)) w w'):KIn q A c n xs w':=fun _ h2=>h _ (hf.trans h2)
attribute [local irreducible] Br Rn RnU Cl RdG CpG Ld Rd Lp Dr Oth Cut fin Fits Eng.Enters Md NA
theorem zcU:Eng.Enters Tryz.prog 221:=zab fun _ _=>by kernel_rfl
theorem zfC:Eng.Enters Tryz.prog 255:=zab fun _ _=>by kernel_rfl
theorem zeC:Eng.Enters Tryz.prog 270:=zab fun _ _=>by kernel_rfl
theorem zgf:Eng.Enters Tryz.prog 266:=zab fun _ _=>by kernel_rfl
theorem zaU:Eng.Enters Tryz.prog 256:=zab fun _ _=>by kernel_rfl
theorem zj7:Eng.Enters Tryz.prog 238:=zab fun _ _=>by kernel_rfl
theorem zj9:Eng.Enters Tryz.prog 220:=zab fun _ _=>by kernel_rfl
theorem zr0 (q:Ks) (x y:Int) (w:World) (hq:KsOk q []) (hx:0≤x∧x<q.L.length) (hy:0≤y∧y<q.L.length) (hB:q.blk.ok w) (hL:IntsIn .i64 w q.A q.L) :
  Calls Tryz.prog 221 #[.int .i64 x,.int .i64 y,.pointer (some ⟨q.B,0,none⟩)] w fun e w'=>e=.returned (.int .i64 (q.key x-q.key y))∧Fr (fun _=>False) w w':=by
 refine enter (cx:=CX 15 [] w) [(0,.int .i64 x),(1,.int .i64 y),(2,.pointer (some ⟨q.B,0,none⟩))] zaa Tryz.func221 rfl rfl rfl rfl (MemOk.nil w _) ?_
 have h0:w.cell? ⟨q.B,0,none⟩=some (.slice q.A q.L.length q.c):=zk6 hB rfl
 have h1:=fun m=>IntsIn.ints (cx:=CX 15 [] w) (m:=m) hL (fun _ h=>h)
 have hpl:Pl q.A:=(h1 []).plain (by omega)
 have k1:=hq.key hx
 have k2:=hq.key hy
 conv=>whnf
 refine zar zaa mixed (by kernel_rfl) rfl ?_;conv=>whnf
 (repeat ((first|refine⟨_,Ld.g (ldF zaa h0 (fun h=>h) rfl rfl),?_⟩|refine gG1 ?_|refine .mk fun Ap capp=>?_|intro _);conv=>whnf))
 refine And.intro ⟨by omega,by omega,hpl⟩ ?_
 conv=>whnf
 refine⟨_,((h1 _).ld zaa rfl rfl (j:=x.toNat) (by omega)).g,?_⟩
 conv=>whnf
 (repeat ((first|refine⟨_,Ld.g (ldF zaa h0 (fun h=>h) rfl rfl),?_⟩|refine gG1 ?_|refine .mk fun Ap capp=>?_|intro _);conv=>whnf))
 refine And.intro ⟨by omega,by omega,hpl⟩ ?_
 conv=>whnf
 refine⟨_,((h1 _).ld zaa rfl rfl (j:=y.toNat) (by omega)).g,?_⟩
 unfold Ks.key at k1 k2
 refine gGw ?_
 exact fin1 rfl rfl (fun w' hm=>⟨rfl,hm.fr⟩)
end Go.Proofs.YtlmgelmloddfgaaGreat
namespace Go.Proofs.YtlmgelmloddfgaaGreat
open Go Go.RowKit Eng
attribute [local irreducible] Br Rn RnU Cl RdG CpG Ld Rd Lp Dr Oth Cut fin Fits Eng.Enters Md NA
theorem zvJ {q:Ks} {A:Option Addr} {c n:Nat} {xs ys:List Int} {w w':World} (hq:KsOk q xs) (hK:KIn q A c n xs w) (hp:ys.Perm xs) {i j:Nat} (hi:i<ys.length) (hj:j<ys.length) (hm:MemOk w (Foot (SoM q A c n xs)) (SoM q A c n ys) w') :
  Calls Tryz.prog 221 #[.int .i64 (ys.getD i 0),.int .i64 (ys.getD j 0),.pointer (some ⟨q.B,0,none⟩)] w' fun e w''=>e=.returned (.int .i64 (zaK q.key ys i-zaK q.key ys j))∧Fr (fun _=>False) w' w'' :=
 zr0 q _ _ w' ⟨hq.l,hq.v,fun x hx=>by cases hx⟩ ((hq.perm hp).at_ hi) ((hq.perm hp).at_ hj) (hm.ok _ (List.mem_cons_self ..)) (hK _ hm.fr)
set_option maxHeartbeats 1000000 in
theorem znl (q:Ks) (A:Option Addr) (c:Nat) (xs:List Int) (a b:Nat) (w:World) (hq:KsOk q xs) (hK:KIn q A c xs.length xs w) (hb:b≤xs.length) (hl:xs.length≤1048576) (ha:a≤1048576) (hm:MemOk w (Foot (SoM q A c xs.length xs)) (SoM q A c xs.length xs) w) :
  Ctr Tryz.prog 255 [.slice A xs.length c,.int .i64 (a:Int),.int .i64 (b:Int),q.fv] (SoM q A c xs.length xs) (fun e m'=>e=.returned (.tuple #[])∧m'=SoM q A c xs.length (insF q.key xs a b)) w:=by
 obtain ⟨n,hn⟩:∃ n,n=xs.length:=⟨_,rfl⟩
 rw [← hn] at hK hb hl hm ⊢
 refine enter (cx:=⟨Tryz.prog,53,w,Foot (SoM q A c n xs),tab,[],[221],[],[]⟩) [(0,.slice A n c),(1,.int .i64 (a:Int)),(2,.int .i64 (b:Int)),(3,q.fv)] zaa Tryz.func255 rfl rfl rfl rfl hm ?_
 have hpl:0<n→Pl A:=fun h=>zc0 (hm.ok (IR A c n xs) (by simp)) h
 refine gGw ?_
 refine lp zaa (γ:=Nat) (fun t=>t≤b-(a+1)) (fun t=>[(8,.int .i64 ((a+1+t:Nat):Int)),(0,.slice A n c),(1,.int .i64 (a:Int)),(2,.int .i64 (b:Int)),(3,q.fv)]) (fun t=>SoM q A c n (insI q.key xs a t)) (fun t=>b-(a+1)-t) 0 (by omega) ⟨rfl,rfl,rfl,rfl,rfl,trivial⟩ (SubM.refl _ _) ?_
 rintro t ht
 dsimp only
 refine gGw ?_
 refine br_d (fun hlt=>?_) (fun hge=>?_)
 ·have hp0:=ziv q.key xs a t (by omega)
  refine gGw ?_
  refine lp zaa (γ:=Nat × List Int) (fun g=>g.1≤a+1+t∧g.2.Perm xs∧insJ q.key a (a+1+t) (insI q.key xs a t)=insJ q.key a g.1 g.2) (fun g=>[(9,.int .i64 (g.1:Int)),(8,.int .i64 ((a+1+t:Nat):Int)),(0,.slice A n c),(1,.int .i64 (a:Int)),(2,.int .i64 (b:Int)),(3,q.fv)]) (fun g=>SoM q A c n g.2) (fun g=>g.1) (a+1+t,insI q.key xs a t) ⟨Nat.le_refl _,hp0,rfl⟩ ⟨rfl,rfl,rfl,rfl,rfl,rfl,trivial⟩ (SubM.refl _ _) ?_
  rintro ⟨j,ys⟩ ⟨hj,hp,he⟩
  simp only at hj hp he
  dsimp only
  have hyl:ys.length=n:=by rw [hp.length_eq,hn]
  conv=>whnf
  refine zar zaa mixed (by kernel_rfl) rfl ?_
  conv=>whnf
  (repeat ((first|refine stp (by (repeat constructor);first|done|fail) ?_|refine stn (by (repeat constructor);first|done|fail) ?_|refine sto (by (repeat constructor);first|done|fail) (by first|omega|(simp only;omega)|decide) ?_|(refine zaO (And.intro (fun hg=>?_) ?_);focus (simp only [Bool.and_eq_true,Bool.or_eq_true,Bool.not_eq_true',decide_eq_true_eq,decide_eq_false_iff_not] at hg;first|omega|exact zaf (by omega)|exact zak (by omega)|assumption))|refine .mk fun Ap capp=>?_|refine⟨?_,trivial⟩);conv=>whnf))
  refine br_d (fun hgt=>?_) (fun hle=>?_)
  ·obtain ⟨j,rfl⟩:∃ j',j=j'+1:=⟨j-1,by omega⟩
   have g1:=zbm (xs:=ys) (j:=j+1) (by omega)
   have g0:=zbm (xs:=ys) (j:=j) (by omega)
   have ej:(((j+1:Nat):Int)-1)=(j:Int):=by omega
   conv=>whnf
   (repeat ((first|refine stp (by (repeat constructor);first|done|fail) ?_|refine stn (by (repeat constructor);first|done|fail) ?_|refine sto (by (repeat constructor);first|done|fail) (by first|omega|(simp only;omega)|decide) ?_|(refine zaO (And.intro (fun hg=>?_) ?_);focus (simp only [Bool.and_eq_true,Bool.or_eq_true,Bool.not_eq_true',decide_eq_true_eq,decide_eq_false_iff_not] at hg;first|omega|exact zaf (by omega)|exact zak (by omega)|assumption))|refine .mk fun Ap capp=>?_|refine⟨?_,trivial⟩);conv=>whnf))
   refine And.intro ⟨by omega,by omega,hpl (by omega)⟩ ?_
   conv=>whnf
   refine⟨_,(ldR zaa (by repeat constructor) rfl rfl g1).g,?_⟩
   conv=>whnf
   (repeat ((first|refine stp (by (repeat constructor);first|done|fail) ?_|refine stn (by (repeat constructor);first|done|fail) ?_|refine sto (by (repeat constructor);first|done|fail) (by first|omega|(simp only;omega)|decide) ?_|(refine zaO (And.intro (fun hg=>?_) ?_);focus (simp only [Bool.and_eq_true,Bool.or_eq_true,Bool.not_eq_true',decide_eq_true_eq,decide_eq_false_iff_not] at hg;first|omega|exact zaf (by omega)|exact zak (by omega)|assumption))|refine .mk fun Ap capp=>?_|refine⟨?_,trivial⟩);conv=>whnf))
   rw [ej]
   refine And.intro ⟨by omega,by omega,hpl (by omega)⟩ ?_
   conv=>whnf
   refine⟨_,(ldR zaa (by repeat constructor) rfl rfl g0).g,?_⟩
   conv=>whnf
   (repeat ((first|refine stp (by (repeat constructor);first|done|fail) ?_|refine stn (by (repeat constructor);first|done|fail) ?_|refine sto (by (repeat constructor);first|done|fail) (by first|omega|(simp only;omega)|decide) ?_|(refine zaO (And.intro (fun hg=>?_) ?_);focus (simp only [Bool.and_eq_true,Bool.or_eq_true,Bool.not_eq_true',decide_eq_true_eq,decide_eq_false_iff_not] at hg;first|omega|exact zaf (by omega)|exact zak (by omega)|assumption))|refine .mk fun Ap capp=>?_|refine⟨?_,trivial⟩);conv=>whnf))
   refine⟨_,cpg zcU (fun _ w' hm'=>zvJ hq (hn ▸ hK) hp (i:=j+1) (j:=j) (by omega) (by omega) hm'),?_⟩
   conv=>whnf
   (repeat ((first|refine stp (by (repeat constructor);first|done|fail) ?_|refine stn (by (repeat constructor);first|done|fail) ?_|refine sto (by (repeat constructor);first|done|fail) (by first|omega|(simp only;omega)|decide) ?_|(refine zaO (And.intro (fun hg=>?_) ?_);focus (simp only [Bool.and_eq_true,Bool.or_eq_true,Bool.not_eq_true',decide_eq_true_eq,decide_eq_false_iff_not] at hg;first|omega|exact zaf (by omega)|exact zak (by omega)|assumption))|refine .mk fun Ap capp=>?_|refine⟨?_,trivial⟩);conv=>whnf))
   refine br_d (fun hc=>?_) (fun hc=>?_)
   ·have eJ:insJ q.key a (j+1) ys=insJ q.key a j (zbX ys (j+1) j):=by rw [insJ,if_pos ⟨by omega,by omega⟩]
    have hps:=(zd0 (xs:=ys) (i:=j+1) (j:=j) (by omega) (by omega)).trans hp
    conv=>whnf
    refine zbc (γ:=Unit) (Tr.hs [0,1,2,3,4,5,6,7,8,10,11,12] (.alts 9 (.sq [13] (.hs [14] (.sq [15] (.hs [16] (.sq [17] .done))))) (.alts 13 (.sq [9] (.hs [14] (.sq [15] (.hs [16] (.sq [17] .done))))) .stop))) [] zaa mixed (by kernel_rfl) rfl (fun _=>True)
     (fun _=>[(9,.int .i64 ((j+1:Nat):Int)),(8,.int .i64 ((a+1+t:Nat):Int)),(0,.slice A n c),(1,.int .i64 (a:Int)),(2,.int .i64 (b:Int)),(3,q.fv)]) (fun _=>SoM q A c n (zbX ys (j+1) j)) (SubM.sel .nil) ?_ ?_
    ·refine gGw ?_
     rw [ej]
     refine And.intro ⟨by omega,by omega,hpl (by omega)⟩ ?_
     refine gGw ?_
     refine And.intro ⟨by omega,by omega,hpl (by omega)⟩ ?_
     conv=>whnf
     refine⟨?_,?_⟩
     ·refine zaj (ldR zaa (by repeat constructor) rfl rfl g0) ?_
      refine gGt ?_
      refine zaj (ldR zaa (by repeat constructor) rfl rfl g1) ?_
      refine gGt ?_
      refine And.intro ⟨by omega,by omega,hpl (by omega)⟩ ?_
      refine gGt ?_
      refine zaz (off:=j+1) (xs':=(ys.set (j+1) (ys.getD j 0)).map (.int .i64)) zaa rfl (by repeat constructor) rfl rfl (by show j+1+1≤n*1;omega) (Nat.one_pos) (by rw [List.map_set];rfl) ?_
      refine gGt ?_
      refine And.intro ⟨by omega,by omega,hpl (by omega)⟩ ?_
      refine gGt ?_
      refine zaz (off:=j) (xs':=(zbX ys (j+1) j).map (.int .i64)) zaa rfl (by repeat constructor) rfl rfl (by show j+1≤n*1;omega) (Nat.one_pos) (by unfold zbX;rw [List.map_set (l:=ys.set (j+1) (ys.getD j 0))];rfl) ?_
      refine gGt ?_
      exact⟨(),trivial,⟨rfl,rfl,rfl,rfl,rfl,rfl,trivial⟩,SubM.sl⟩
     conv=>whnf
     refine⟨?_,trivial⟩
     ·refine zaj (ldR zaa (by repeat constructor) rfl rfl g1) ?_
      refine gGt ?_
      refine zaj (ldR zaa (by repeat constructor) rfl rfl g0) ?_
      refine gGt ?_
      refine And.intro ⟨by omega,by omega,hpl (by omega)⟩ ?_
      refine gGt ?_
      refine zaz (off:=j+1) (xs':=(ys.set (j+1) (ys.getD j 0)).map (.int .i64)) zaa rfl (by repeat constructor) rfl rfl (by show j+1+1≤n*1;omega) (Nat.one_pos) (by rw [List.map_set];rfl) ?_
      refine gGt ?_
      refine And.intro ⟨by omega,by omega,hpl (by omega)⟩ ?_
      refine gGt ?_
      refine zaz (off:=j) (xs':=(zbX ys (j+1) j).map (.int .i64)) zaa rfl (by repeat constructor) rfl rfl (by show j+1≤n*1;omega) (Nat.one_pos) (by unfold zbX;rw [List.map_set (l:=ys.set (j+1) (ys.getD j 0))];rfl) ?_
      refine gGt ?_
      exact⟨(),trivial,⟨rfl,rfl,rfl,rfl,rfl,rfl,trivial⟩,SubM.sl⟩
    ·rintro ⟨⟩ -
     refine gGw ?_
     refine⟨(j,zbX ys (j+1) j),⟨by simp only;omega,hps,by rw [he,eJ]⟩,by simp only;omega,⟨?_,rfl,rfl,rfl,rfl,rfl,trivial⟩,SubM.refl _ _⟩
     rw [ej];rfl
   ·have eJ:insJ q.key a (j+1) ys=ys:=by rw [insJ,if_neg (by omega)]
    refine gGw ?_
    refine⟨t+1,by omega,by omega,⟨?_,rfl,rfl,rfl,rfl,trivial⟩,?_⟩
    ·refine congrArg (fun x:Int=>some (Value.int .i64 x)) ?_
     push_cast;omega
    ·rw [insI,he,eJ];exact SubM.refl _ _
  ·have eJ:insJ q.key a j ys=ys:=by
    cases j with
    | zero=>rfl
    | succ j=>rw [insJ,if_neg (by omega)]
   conv=>whnf
   (repeat ((first|refine stp (by (repeat constructor);first|done|fail) ?_|refine stn (by (repeat constructor);first|done|fail) ?_|refine sto (by (repeat constructor);first|done|fail) (by first|omega|(simp only;omega)|decide) ?_|(refine zaO (And.intro (fun hg=>?_) ?_);focus (simp only [Bool.and_eq_true,Bool.or_eq_true,Bool.not_eq_true',decide_eq_true_eq,decide_eq_false_iff_not] at hg;first|omega|exact zaf (by omega)|exact zak (by omega)|assumption))|refine .mk fun Ap capp=>?_|refine⟨?_,trivial⟩);conv=>whnf))
   refine br_f rfl ?_
   refine gGw ?_
   refine⟨t+1,by omega,by omega,⟨?_,rfl,rfl,rfl,rfl,trivial⟩,?_⟩
   ·refine congrArg (fun x:Int=>some (Value.int .i64 x)) ?_
    push_cast;omega
   ·rw [insI,he,eJ];exact SubM.refl _ _
 ·have hte:t=b-(a+1):=by omega
  subst hte
  refine gGw ?_
  exact fin0 rfl (fun w' hm=>⟨_,⟨rfl,rfl⟩,hm⟩) (by first|exact .inl rfl|exact .inr rfl)
end Go.Proofs.YtlmgelmloddfgaaGreat
namespace Go.Proofs.YtlmgelmloddfgaaGreat
open Go Go.RowKit Eng
attribute [local irreducible] Br Rn RnU Cl RdG CpG Ld Rd Lp Dr Oth Cut fin Fits Eng.Enters Md NA
set_option maxHeartbeats 1000000 in
theorem zhS (q:Ks) (A:Option Addr) (c:Nat) (xs:List Int) (a b k:Nat) (w:World) (h1:a+k≤xs.length) (h2:b+k≤xs.length) (hl:xs.length≤1048576) (ha:a≤1048576) (hb:b≤1048576) (hm:MemOk w (Foot (SoM q A c xs.length xs)) (SoM q A c xs.length xs) w) :
  Ctr Tryz.prog 270 [.slice A xs.length c,.int .i64 (a:Int),.int .i64 (b:Int),.int .i64 (k:Int),q.fv] (SoM q A c xs.length xs) (fun e m'=>e=.returned (.tuple #[])∧m'=SoM q A c xs.length (swR xs a b k)) w:=by
 obtain ⟨n0,hn⟩:∃ n,n=xs.length:=⟨_,rfl⟩
 rw [← hn] at h1 h2 hl hm ⊢
 refine enter (cx:=CXS 38 [] w (Foot (SoM q A c n0 xs))) [(0,.slice A n0 c),(1,.int .i64 (a:Int)),(2,.int .i64 (b:Int)),(3,.int .i64 (k:Int)),(4,q.fv)] zaa Tryz.func270 rfl rfl rfl rfl hm ?_
 have hpl:0<n0→Pl A:=fun h=>zc0 (hm.ok (IR A c n0 xs) (by simp)) h
 refine gGw ?_
 refine lp zaa (γ:=Nat) (fun i=>i≤k) (fun i=>[(10,.int .i64 (i:Int)),(0,.slice A n0 c),(1,.int .i64 (a:Int)),(2,.int .i64 (b:Int)),(3,.int .i64 (k:Int)),(4,q.fv)]) (fun i=>SoM q A c n0 (swR xs a b i)) (fun i=>k-i) 0 (by omega) ⟨rfl,rfl,rfl,rfl,rfl,rfl,trivial⟩ (SubM.refl _ _) ?_
 rintro i hi
 dsimp only
 refine gGw ?_
 refine br_d (fun hlt=>?_) (fun hge=>?_)
 ·have hyl:(swR xs a b i).length=n0:=by rw [(zdw xs a b i (by omega) (by omega)).length_eq,hn]
  have eS:swR xs a b (i+1)=zbX (swR xs a b i) (a+i) (b+i):=rfl
  generalize swR xs a b i=ys at hyl eS ⊢
  have g1:=zbm (xs:=ys) (j:=b+i) (by omega)
  have g0:=zbm (xs:=ys) (j:=a+i) (by omega)
  have ea:(a:Int)+(i:Int)=((a+i:Nat):Int):=by push_cast;rfl
  have eb:(b:Int)+(i:Int)=((b+i:Nat):Int):=by push_cast;rfl
  conv=>whnf
  refine zbc (γ:=Unit) (Tr.hs [0,1,2,3,4,5,6,7,8,9,10,11,12,14,15,16,17,18] (.alts 13 (.sq [19] (.hs [20] (.sq [21] (.hs [22] (.sq [23] .done))))) (.alts 19 (.sq [13] (.hs [20] (.sq [21] (.hs [22] (.sq [23] .done))))) .stop))) [] zaa mixed (by kernel_rfl) rfl (fun _=>True)
   (fun _=>[(10,.int .i64 (i:Int)),(0,.slice A n0 c),(1,.int .i64 (a:Int)),(2,.int .i64 (b:Int)),(3,.int .i64 (k:Int)),(4,q.fv)]) (fun _=>SoM q A c n0 (zbX ys (a+i) (b+i))) (SubM.sel .nil) ?_ ?_
  ·refine gGw ?_
   refine And.intro ⟨by omega,by omega,hpl (by omega)⟩ ?_
   refine gGw ?_
   refine And.intro ⟨by omega,by omega,hpl (by omega)⟩ ?_
   conv=>whnf
   refine⟨?_,?_⟩
   ·refine zaj (ldR zaa (by repeat constructor) rfl rfl g1) ?_
    refine gGt ?_
    refine zaj (ldR zaa (by repeat constructor) rfl rfl g0) ?_
    refine gGt ?_
    refine And.intro ⟨by omega,by omega,hpl (by omega)⟩ ?_
    refine gGt ?_
    refine zaz (off:=a+i) (xs':=(ys.set (a+i) (ys.getD (b+i) 0)).map (.int .i64)) zaa rfl (by repeat constructor) rfl rfl (by show a+i+1≤n0*1;omega) (Nat.one_pos) (by rw [List.map_set];rfl) ?_
    refine gGt ?_
    refine And.intro ⟨by omega,by omega,hpl (by omega)⟩ ?_
    refine gGt ?_
    refine zaz (off:=b+i) (xs':=(zbX ys (a+i) (b+i)).map (.int .i64)) zaa rfl (by repeat constructor) rfl rfl (by show b+i+1≤n0*1;omega) (Nat.one_pos) (by unfold zbX;rw [List.map_set (l:=ys.set (a+i) (ys.getD (b+i) 0))];rfl) ?_
    refine gGt ?_
    exact⟨(),trivial,⟨rfl,rfl,rfl,rfl,rfl,rfl,trivial⟩,SubM.sl⟩
   conv=>whnf
   refine⟨?_,trivial⟩
   ·refine zaj (ldR zaa (by repeat constructor) rfl rfl g0) ?_
    refine gGt ?_
    refine zaj (ldR zaa (by repeat constructor) rfl rfl g1) ?_
    refine gGt ?_
    refine And.intro ⟨by omega,by omega,hpl (by omega)⟩ ?_
    refine gGt ?_
    refine zaz (off:=a+i) (xs':=(ys.set (a+i) (ys.getD (b+i) 0)).map (.int .i64)) zaa rfl (by repeat constructor) rfl rfl (by show a+i+1≤n0*1;omega) (Nat.one_pos) (by rw [List.map_set];rfl) ?_
    refine gGt ?_
    refine And.intro ⟨by omega,by omega,hpl (by omega)⟩ ?_
    refine gGt ?_
    refine zaz (off:=b+i) (xs':=(zbX ys (a+i) (b+i)).map (.int .i64)) zaa rfl (by repeat constructor) rfl rfl (by show b+i+1≤n0*1;omega) (Nat.one_pos) (by unfold zbX;rw [List.map_set (l:=ys.set (a+i) (ys.getD (b+i) 0))];rfl) ?_
    refine gGt ?_
    exact⟨(),trivial,⟨rfl,rfl,rfl,rfl,rfl,rfl,trivial⟩,SubM.sl⟩
  ·rintro ⟨⟩ -
   refine gGw ?_
   rw [← eS]
   exact⟨i+1,by omega,by omega,⟨rfl,rfl,rfl,rfl,rfl,rfl,trivial⟩,SubM.refl _ _⟩
 ·have hik:i=k:=by omega
  subst hik
  refine gGw ?_
  exact fin0 rfl (fun w' hm=>⟨_,⟨rfl,rfl⟩,hm⟩) (by first|exact .inl rfl|exact .inr rfl)
end Go.Proofs.YtlmgelmloddfgaaGreat
namespace Go.Proofs.YtlmgelmloddfgaaGreat
open Go Go.RowKit Eng
attribute [local irreducible] Br Rn RnU Cl RdG CpG Ld Rd Lp Dr Oth Cut fin Fits Eng.Enters Md NA
set_option maxHeartbeats 1000000 in
theorem zjq (q:Ks) (A:Option Addr) (c:Nat) (xs:List Int) (a m b:Nat) (w:World) (h1:a<m) (h2:m<b) (h3:b≤xs.length) (hl:xs.length≤1048576) (hm:MemOk w (Foot (SoM q A c xs.length xs)) (SoM q A c xs.length xs) w) :
  Ctr Tryz.prog 266 [.slice A xs.length c,.int .i64 (a:Int),.int .i64 (m:Int),.int .i64 (b:Int),q.fv] (SoM q A c xs.length xs) (fun e m'=>e=.returned (.tuple #[])∧m'=SoM q A c xs.length (rotF m (m-a) (b-m) xs)) w:=by
 obtain ⟨n0,hn⟩:∃ n,n=xs.length:=⟨_,rfl⟩
 rw [← hn] at h3 hl hm ⊢
 refine enter (cx:=CXS 58 [] w (Foot (SoM q A c n0 xs))) [(0,.slice A n0 c),(1,.int .i64 (a:Int)),(2,.int .i64 (m:Int)),(3,.int .i64 (b:Int)),(4,q.fv)] zaa Tryz.func266 rfl rfl rfl rfl hm ?_
 refine gGw ?_
 refine lp zaa (γ:=Nat × Nat × List Int) (fun g=>0<g.1∧0<g.2.1∧g.1≤m∧m+g.2.1≤n0∧g.2.2.Perm xs∧rotF m (m-a) (b-m) xs=rotF m g.1 g.2.1 g.2.2) (fun g=>[(10,.int .i64 (g.1:Int)),(11,.int .i64 (g.2.1:Int)),(0,.slice A n0 c),(1,.int .i64 (a:Int)),(2,.int .i64 (m:Int)),(3,.int .i64 (b:Int)),(4,q.fv)]) (fun g=>SoM q A c n0 g.2.2) (fun g=>g.1+g.2.1) (m-a,b-m,xs)
  ⟨by simp only;omega,by simp only;omega,by simp only;omega,by simp only;omega,List.Perm.refl _,rfl⟩ ⟨by rw [show ((m-a:Nat):Int)=(m:Int)-(a:Int) by omega];rfl,by rw [show ((b-m:Nat):Int)=(b:Int)-(m:Int) by omega];rfl,rfl,rfl,rfl,rfl,rfl,trivial⟩ (SubM.refl _ _) ?_
 rintro ⟨i,j,ys⟩ ⟨hi,hj,him,hjn,hp,he⟩
 simp only at hi hj him hjn hp he
 dsimp only
 have hyl:ys.length=n0:=by rw [hp.length_eq,hn]
 have emi:(m:Int)-(i:Int)=((m-i:Nat):Int):=by omega
 refine gGw ?_
 refine br_n (br_d (fun heq=>?_) (fun hne=>?_))
 ·have hij:i=j:=by omega
  subst hij
  have eR:rotF m i i ys=swR ys (m-i) m i:=by rw [rotF,if_pos (.inl rfl)]
  refine gGw ?_
  rw [emi]
  refine⟨zeC,zac (m1:=SoM q A c n0 ys) (by repeat constructor) (fun w' hm'=>hyl ▸ zhS q A c ys (m-i) m i w' (by omega) (by omega) (by omega) (by omega) (by omega) (hyl ▸ hm'.part)) ?_⟩
  rintro e m' ⟨rfl,rfl⟩
  refine gGw ?_
  rw [he,eR]
  exact fin0 rfl (fun w' hm=>⟨_,⟨rfl,rfl⟩,hm⟩) (by first|exact .inl rfl|exact .inr rfl)
 ·refine gGw ?_
  refine br_d (fun hgt=>?_) (fun hle=>?_)
  ·have eR:rotF m i j ys=rotF m (i-j) j (swR ys (m-i) m j):=by rw [rotF,if_neg (by omega),if_pos (by omega)]
   have hps:=zdw ys (m-i) m j (by omega) (by omega)
   refine gGw ?_
   rw [emi]
   refine⟨zeC,zac (m1:=SoM q A c n0 ys) (by repeat constructor) (fun w' hm'=>hyl ▸ zhS q A c ys (m-i) m j w' (by omega) (by omega) (by omega) (by omega) (by omega) (hyl ▸ hm'.part)) ?_⟩
   rintro e m' ⟨rfl,rfl⟩
   refine gGw ?_
   refine⟨(i-j,j,swR ys (m-i) m j),⟨by simp only;omega,hj,by simp only;omega,hjn,hps.trans hp,by rw [he,eR]⟩,by simp only;omega,⟨?_,rfl,rfl,rfl,rfl,rfl,rfl,trivial⟩,SubM.refl _ _⟩
   rw [show ((i-j:Nat):Int)=(i:Int)-(j:Int) by omega];rfl
  ·have eR:rotF m i j ys=rotF m i (j-i) (swR ys (m-i) (m+j-i) i):=by rw [rotF,if_neg (by omega),if_neg (by omega)]
   have hps:=zdw ys (m-i) (m+j-i) i (by omega) (by omega)
   have emj:(m:Int)+(j:Int)-(i:Int)=((m+j-i:Nat):Int):=by omega
   refine gGw ?_
   rw [emi,emj]
   refine⟨zeC,zac (m1:=SoM q A c n0 ys) (by repeat constructor) (fun w' hm'=>hyl ▸ zhS q A c ys (m-i) (m+j-i) i w' (by omega) (by omega) (by omega) (by omega) (by omega) (hyl ▸ hm'.part)) ?_⟩
   rintro e m' ⟨rfl,rfl⟩
   refine gGw ?_
   refine⟨(i,j-i,swR ys (m-i) (m+j-i) i),⟨hi,by simp only;omega,him,by simp only;omega,hps.trans hp,by rw [he,eR]⟩,by simp only;omega,⟨rfl,?_,rfl,rfl,rfl,rfl,rfl,trivial⟩,SubM.refl _ _⟩
   rw [show ((j-i:Nat):Int)=(j:Int)-(i:Int) by omega];rfl
end Go.Proofs.YtlmgelmloddfgaaGreat
