/- Part of a proof: contracts of the functions that the law reaches. No statement of the seat is proved here. -/
import Derived.Test.YtlmgelmloddfgaaGreatCcM5
import Derived.Lib.SliceRun
import Derived.Test.YtlmgelmloddfgaaGreatShelf
set_option linter.unusedVariables false
set_option linter.unusedSimpArgs false
set_option linter.unusedSectionVars false
set_option maxRecDepth 100000
namespace Go.Proofs.YtlmgelmloddfgaaGreat
open Go Go.RowKit Eng
section
structure Rdr where
 B:Nat
 A:Option Addr
 c:Nat
 bs:List UInt8
abbrev rdC (q:Rdr) (at_:Nat):List Value:=[.slice q.A q.bs.length q.c,.int .i64 (at_:Int)]
abbrev RM (q:Rdr) (at_:Nat):Mem:=[.blk q.B (.cells (rdC q at_).toArray 267),.row q.A q.c q.bs.length 5 1 ((zag q.bs).map (.int .u8))]
def zlk (bs:List UInt8) (from_:Nat):Nat→Nat
 | 0=>0
 | i+1=>zlk bs from_ i+(bs.getD (from_+i) 0).toNat*2 ^ (8*i)
theorem zjY (bs:List UInt8) (f:Nat):∀ i,zlk bs f i<2 ^ (8*i)
 | 0=>by simp [zlk]
 | i+1=>by
  have h1:=zjY bs f i
  have h2:=(bs.getD (f+i) 0).toNat_lt
  have h3:(bs.getD (f+i) 0).toNat*2 ^ (8*i)≤255*2 ^ (8*i):=Nat.mul_le_mul_right _ (by omega)
  have h4:2 ^ (8*(i+1))=256*2 ^ (8*i):=by rw [show 8*(i+1)=8*i+8 by omega,Nat.pow_add];omega
  rw [zlk];omega
def zbS (bs:List UInt8) (at_ n:Nat):Nat:=zlk bs (at_/8) 8/2 ^ (at_%8)%2 ^ n
theorem zhC (bs:List UInt8) (at_ n:Nat):zbS bs at_ n<2 ^ n:=Nat.mod_lt _ (Nat.two_pow_pos n)
theorem eqRd (t:Nat) (a:Addr) (w:World):(zdK .eql 229 (.tmp t) (.const (.pointer none)) (.pointer (some a)) (.pointer none)).run Tryz.prog w=.ok (.bool false) w:=by kernel_rfl
theorem zd3 (bs:List UInt8) (j:Nat) (h:j<bs.length):((zag bs).map (Value.int .u8))[j]?=some (.int .u8 ((bs.getD j 0).toNat:Int)):=by
 have h2:(zag bs)[j]?=some ((bs.getD j 0).toNat:Int):=by
  rw [← zfT,List.getD_eq_getElem?_getD]
  have:j<(zag bs).length:=by rw [zaf];exact h
  rw [List.getElem?_eq_getElem this];rfl
 rw [List.getElem?_map,h2];rfl
theorem zcV {w:World} {A:Option Addr} {cap n t:Nat} {xs:List Value} (h:w.ownsRow 0 t 1 (.slice A n cap) n xs) (hn:0<n):Pl A:=by
 have hl:=h.1
 obtain ⟨b,rfl,_⟩:=zaQ h (j:=0) (v:=xs[0]'(by omega)) (List.getElem?_eq_getElem (by omega))
 exact Pl.mk _ _
theorem zhy {w:World} {a:Addr} {cap n t:Nat} {xs:List Value} (h:w.ownsRow 0 t 1 (.slice (some a) n cap) n xs):Pl (some a):=by
 rcases h.2 with ⟨h0,_⟩|⟨b,cap',cur,hv,_⟩
 ·cases h0
 ·injection hv with e1 _ e3
  rw [e1];exact Pl.mk _ _
theorem zb1 (ys xs:List Value) (h:ys.length=xs.length):zbp 0 ys xs=ys:=by
 rw [zaN _ _ _ (by omega)]
 simp [h]
theorem znb (l:List UInt8) (n:Nat):zag (l.take n)=(zag l).take n:=by unfold zag;rw [List.map_take]
attribute [local irreducible] Br Rn RnU Cl RdG CpG Ld Rd Lp Dr Oth Cut fin Fits Eng.Enters Md NA
theorem zfV:Eng.Enters Tryz.prog 214:=zab fun _ _=>by kernel_rfl
theorem zna:Eng.Enters Tryz.prog 204:=zab fun _ _=>by kernel_rfl
theorem zaX:Eng.Enters Tryz.prog 173:=zab fun _ _=>by kernel_rfl
theorem zmB:Eng.Enters Tryz.prog 194:=zab fun _ _=>by kernel_rfl
theorem zpL:Eng.Enters Tryz.prog 196:=zab fun _ _=>by kernel_rfl
theorem ziZ:Eng.Enters Tryz.prog 136:=zab fun _ _=>by kernel_rfl
theorem zhr:Eng.Enters Tryz.prog 166:=zab fun _ _=>by kernel_rfl
theorem zkK (q:Rdr) (at_:Nat) (w:World) (hl:q.bs.length≤20000000) (ha:at_≤8*q.bs.length) (hm:MemOk w (Foot (RM q at_)) (RM q at_) w) :
  Ctr Tryz.prog 214 [.pointer (some ⟨q.B,0,none⟩)] (RM q at_) (fun e m'=>e=.returned (.int .i64 (8*(q.bs.length:Int)-at_))∧m'=RM q at_) w:=by
 refine enter (cx:=CXS 16 [] w (Foot (RM q at_))) [(0,.pointer (some ⟨q.B,0,none⟩))] zaa Tryz.func214 rfl rfl rfl rfl hm ?_
 refine gGw ?_
 refine Rd.n (zcl fun w=>eqRd _ _ w) ?_
 conv=>whnf
 refine br_f rfl ?_
 conv=>whnf
 refine zao zaa mixed (by kernel_rfl) rfl ?_;conv=>whnf
 refine gG0 ?_
 exact fin1 rfl rfl (fun w' hm=>⟨_,⟨rfl,rfl⟩,hm⟩)
theorem zwM {x:Nat} {b i:Nat} (hx:x<2 ^ (8*i)) (hb:b<256) (hi:i<8):bits .or .u64 (x:Int) (IntKind.u64.wrap ((b:Int)*2 ^ Int.toNat (8*(i:Int))))=((x+b*2 ^ (8*i):Nat):Int):=by
 have e0:Int.toNat (8*(i:Int))=8*i:=by omega
 have h4:2 ^ (8*(i+1))=256*2 ^ (8*i):=by rw [show 8*(i+1)=8*i+8 by omega,Nat.pow_add];omega
 have h5:2 ^ (8*(i+1))≤2 ^ 64:=Nat.pow_le_pow_right (by omega) (by omega)
 have h6:b*2 ^ (8*i)≤255*2 ^ (8*i):=Nat.mul_le_mul_right _ (by omega)
 have h7:0<2 ^ (8*i):=Nat.two_pow_pos _
 have e1:IntKind.u64.wrap ((b:Int)*2 ^ Int.toNat (8*(i:Int)))=((b*2 ^ (8*i):Nat):Int):=by
  rw [e0]
  have:(b:Int)*2 ^ (8*i)=((b*2 ^ (8*i):Nat):Int):=by push_cast;rfl
  rw [this]
  exact wraps_u64 _ (by omega) (by have:((b*2 ^ (8*i):Nat):Int)<((2 ^ 64:Nat):Int):=Int.ofNat_lt.2 (by omega);simpa using this)
 rw [e1]
 have hm:((b*2 ^ (8*i):Nat):Int)%2 ^ (8*i)=0:=by
  have:((b*2 ^ (8*i)%2 ^ (8*i):Nat):Int)=0:=by rw [Nat.mul_mod_left];rfl
  push_cast at this ⊢
  exact this
 rw [bits_join_low .u64 64 (by decide) wraps_u64 (8*i) _ _ (by omega) (by exact_mod_cast hx) (by have:(x:Int)<((2 ^ 64:Nat):Int):=Int.ofNat_lt.2 (by omega);simpa using this) (by omega) hm (by have:((b*2 ^ (8*i):Nat):Int)<((2 ^ 64:Nat):Int):=Int.ofNat_lt.2 (by omega);simpa using this)]
 push_cast;rfl
theorem zxR {x:Int} (n:Nat) (hn:n≤57) (hx:0≤x∧x<18446744073709551616):Go.bits .and .u64 x (IntKind.u64.wrap (1*2 ^ Int.toNat (n:Int))-1)=x%2 ^ n:=by
 have h:=bits_mask .u64 64 (by decide) wraps_u64 n (by omega) x hx.1 (by omega)
 have e:IntKind.u64.wrap (1*2 ^ Int.toNat (n:Int))-1=2 ^ n-1:=by
  rw [Int.toNat_natCast,Int.one_mul]
  have h1:(2:Int) ^ n=((2 ^ n:Nat):Int):=by push_cast;rfl
  have h2:2 ^ n<2 ^ 64:=Nat.pow_lt_pow_right (by omega) (by omega)
  rw [h1,wraps_u64 _ (by omega) (by have:((2 ^ n:Nat):Int)<((2 ^ 64:Nat):Int):=Int.ofNat_lt.2 h2;simpa using this)]
 rw [e];exact h
theorem zwN (n:Nat) (hn:n≤57):Fits .u64 (IntKind.u64.wrap (1*2 ^ Int.toNat (n:Int))-1):=by
 rw [Int.toNat_natCast,Int.one_mul]
 have h1:(2:Int) ^ n=((2 ^ n:Nat):Int):=by push_cast;rfl
 have h2:2 ^ n<2 ^ 64:=Nat.pow_lt_pow_right (by omega) (by omega)
 have h3:0<2 ^ n:=Nat.two_pow_pos n
 have h4:(2:Nat) ^ 64=18446744073709551616:=by decide
 rw [h1,wraps_u64 _ (by omega) (by have:((2 ^ n:Nat):Int)<((2 ^ 64:Nat):Int):=Int.ofNat_lt.2 h2;simpa using this)]
 exact zbr (by omega)
theorem zop (q:Rdr) (at_ n:Nat) (w:World) (hl:q.bs.length≤20000000) (ha:at_≤8*q.bs.length) (hn:n≤57) (hm:MemOk w (Foot (RM q at_)) (RM q at_) w) :
  Ctr Tryz.prog 204 [.pointer (some ⟨q.B,0,none⟩),.int .i64 (n:Int)] (RM q at_) (fun e m'=>e=.returned (.tuple #[.int .u64 (zbS q.bs at_ n),  .int .i64 (if 8*(q.bs.length:Int)-at_<(n:Int) then 8*(q.bs.length:Int)-at_ else (n:Int)),.int .i64 0])∧m'=RM q at_) w:=by
 refine enter (cx:=CXS 70 [] w (Foot (RM q at_))) [(0,.pointer (some ⟨q.B,0,none⟩)),(1,.int .i64 (n:Int))] zaa Tryz.func204 rfl rfl rfl rfl hm ?_
 have ed:IntKind.i64.wrap ((at_:Int).tdiv 8)=((at_/8:Nat):Int):=by
  rw [Int.tdiv_eq_ediv_of_nonneg (by omega)];exact (IntWalk.i64_in _ (by omega)).trans (by omega)
 have em:(at_:Int).tmod 8=((at_%8:Nat):Int):=by rw [Int.tmod_eq_emod_of_nonneg (by omega)];omega
 refine gGw ?_
 refine Rd.n (zcl fun w=>eqRd _ _ w) ?_
 conv=>whnf
 refine br_f rfl ?_
 refine gGw ?_
 refine br_f (by rw [decide_eq_false (by omega),decide_eq_false (by omega)];rfl) ?_
 refine gGw ?_
 rw [ed]
 refine lp zaa (γ:=Nat) (fun i=>i≤8) (fun i=>[(25,.int .i64 (i:Int)),(7,.int .u64 (zlk q.bs (at_/8) i:Nat)),(8,.int .i64 ((at_/8:Nat):Int)),(0,.pointer (some ⟨q.B,0,none⟩)),(1,.int .i64 (n:Int))]) (fun _=>RM q at_) (fun i=>8-i) 0 (by omega)
  ⟨rfl,rfl,rfl,rfl,rfl,trivial⟩ (SubM.refl _ _) ?_
 rintro i hi
 dsimp only
 conv=>whnf
 refine br_d (fun hlt=>?_) (fun hge=>?_)
 ·have hi8:i<8:=by omega
  have hwl:=zjY q.bs (at_/8) i
  refine gGw ?_
  refine br_d (fun hin=>?_) (fun hout=>?_)
  ·have hjl:at_/8+i<q.bs.length:=by omega
   have hb:=(q.bs.getD (at_/8+i) 0).toNat_lt
   have hpl:Pl q.A:=zcV (hm.ok (.row q.A q.c q.bs.length 5 1 ((zag q.bs).map (.int .u8))) (by simp)) (by omega)
   refine gGw ?_
   refine And.intro ⟨by omega,by omega,hpl⟩ ?_
   conv=>whnf
   refine zai (ldR zaa (by repeat constructor) rfl rfl (j:=at_/8+i) (zd3 q.bs _ hjl)) ?_
   refine gGw ?_
   refine And.intro ⟨by omega,show 8*(i:Int)≤(64:Int) by omega⟩ ?_
   refine gGw ?_
   refine⟨i+1,by omega,by omega,⟨rfl,?_,rfl,rfl,rfl,trivial⟩,SubM.refl _ _⟩
   exact congrArg (fun x=>some (Value.int .u64 x)) (zwM hwl hb hi8)
  ·refine gGw ?_
   refine⟨i+1,by omega,by omega,⟨rfl,?_,rfl,rfl,rfl,trivial⟩,SubM.refl _ _⟩
   refine congrArg (fun x:Nat=>some (Value.int .u64 (x:Int))) ?_
   rw [zlk,List.getD_eq_getElem?_getD,List.getElem?_eq_none (by omega)]
   simp
 ·have hi8:i=8:=by omega
  subst hi8
  have hwl:=zjY q.bs (at_/8) 8
  generalize hWD:zlk q.bs (at_/8) 8=W at hwl
  refine gGw ?_
  rw [em]
  refine And.intro ⟨by omega,show ((at_%8:Nat):Int)≤(64:Int) by omega⟩ ?_
  refine gGw ?_
  refine And.intro ⟨by omega,show (n:Int)≤(64:Int) by omega⟩ ?_
  conv=>whnf
  refine And.intro (zwN n hn) ?_
  refine gGw ?_
  refine⟨zfV,zac (m1:=RM q at_) (by repeat constructor) (fun w' hm'=>zkK q at_ w' hl ha hm'.part) ?_⟩
  rintro e m' ⟨rfl,rfl⟩
  refine gGw ?_
  refine fin3 rfl rfl rfl rfl (fun w' hm=>⟨_,⟨?_,rfl⟩,hm⟩)
  have hx:0≤(W:Int)/2 ^ Int.toNat ((at_%8:Nat):Int)∧(W:Int)/2 ^ Int.toNat ((at_%8:Nat):Int)<18446744073709551616:=by
   have hp:(0:Int)<2 ^ Int.toNat ((at_%8:Nat):Int):=Int.pow_pos (by omega)
   have h2:=Int.ediv_nonneg (show 0≤(W:Int) by omega) (Int.le_of_lt hp)
   have h3:=Int.ediv_le_self (2 ^ Int.toNat ((at_%8:Nat):Int)) (show 0≤(W:Int) by omega)
   have h4:(2:Nat) ^ (8*8)=18446744073709551616:=by decide
   omega
  rw [zxR n hn hx,zbS,hWD,Int.toNat_natCast]
  push_cast
  rfl
def zgH (q:Rdr) (at_ n:Nat):Nat × Int × Nat:=if at_+n≤8*q.bs.length then (zbS q.bs at_ n,0,at_+n) else (0,120,at_)
theorem zbN (q:Rdr) (at_ n:Nat) (w:World) (hl:q.bs.length≤20000000) (ha:at_≤8*q.bs.length) (hn:n≤57) (hm:MemOk w (Foot (RM q at_)) (RM q at_) w) :
  Ctr Tryz.prog 173 [.pointer (some ⟨q.B,0,none⟩),.int .i64 (n:Int)] (RM q at_) (fun e m'=>e=.returned (.tuple #[.int .u64 ((zgH q at_ n).1:Nat),.int .i64 (zgH q at_ n).2.1])∧m'=RM q (zgH q at_ n).2.2) w:=by
 refine enter (cx:=CXS 33 [] w (Foot (RM q at_))) [(0,.pointer (some ⟨q.B,0,none⟩)),(1,.int .i64 (n:Int))] zaa Tryz.func173 rfl rfl rfl rfl hm ?_
 refine gGw ?_
 refine⟨zna,zac (m1:=RM q at_) (by repeat constructor) (fun w' hm'=>zop q at_ n w' hl ha hn hm'.part) ?_⟩
 rintro e m' ⟨rfl,rfl⟩
 refine gGw ?_
 refine br_f rfl ?_
 refine gGw ?_
 by_cases hle:at_+n≤8*q.bs.length
 ·have e1:(if 8*(q.bs.length:Int)-at_<(n:Int) then 8*(q.bs.length:Int)-at_ else (n:Int))=n:=if_neg (by omega)
  rw [e1]
  refine br_f (decide_eq_false (by omega)) ?_
  refine gGw ?_
  rw [zgH,if_pos hle]
  exact fin2 rfl rfl rfl (fun w' hm=>⟨_,⟨rfl,rfl⟩,hm⟩)
 ·have e1:(if 8*(q.bs.length:Int)-at_<(n:Int) then 8*(q.bs.length:Int)-at_ else (n:Int))=8*(q.bs.length:Int)-at_:=if_pos (by omega)
  rw [e1]
  refine br_t (decide_eq_true (by omega)) ?_
  refine gGw ?_
  rw [zgH,if_neg hle]
  exact fin2 rfl rfl rfl (fun w' hm=>⟨_,⟨rfl,rfl⟩,hm⟩)
theorem zud (q:Rdr) (at_ n:Nat) (w:World) (hl:q.bs.length≤20000000) (ha:at_+n≤8*q.bs.length) (hm:MemOk w (Foot (RM q at_)) (RM q at_) w) :
  Ctr Tryz.prog 234 [.pointer (some ⟨q.B,0,none⟩),.int .i64 (n:Int)] (RM q at_) (fun e m'=>e=.returned (.int .i64 0)∧m'=RM q (at_+n)) w:=by
 refine enter (cx:=CXS 24 [] w (Foot (RM q at_))) [(0,.pointer (some ⟨q.B,0,none⟩)),(1,.int .i64 (n:Int))] zaa Tryz.func234 rfl rfl rfl rfl hm ?_
 refine gGw ?_
 refine Rd.n (zcl fun w=>eqRd _ _ w) ?_
 conv=>whnf
 refine br_f rfl ?_
 refine gGw ?_
 refine br_f (decide_eq_false (by omega)) ?_
 refine gGw ?_
 refine⟨zfV,zac (m1:=RM q at_) (by repeat constructor) (fun w' hm'=>zkK q at_ w' hl (by omega) hm'.part) ?_⟩
 rintro e m' ⟨rfl,rfl⟩
 refine gGw ?_
 refine br_f (decide_eq_false (by omega)) ?_
 refine gGw ?_
 exact fin1 rfl rfl (fun w' hm=>⟨_,⟨rfl,rfl⟩,hm⟩)
theorem zsT (q:Rdr) (at_:Nat) (w:World) (hm:MemOk w (Foot (RM q at_)) (RM q at_) w) :
  Ctr Tryz.prog 136 [.pointer (some ⟨q.B,0,none⟩)] (RM q at_) (fun e m'=>e=.returned (.int .i64 (at_:Int))∧m'=RM q at_) w:=by
 refine enter (cx:=CXS 9 [] w (Foot (RM q at_))) [(0,.pointer (some ⟨q.B,0,none⟩))] zaa Tryz.func136 rfl rfl rfl rfl hm ?_
 refine gGw ?_
 refine Rd.n (zcl fun w=>eqRd _ _ w) ?_
 conv=>whnf
 refine br_f rfl ?_
 refine gGw ?_
 exact fin1 rfl rfl (fun w' hm=>⟨_,⟨rfl,rfl⟩,hm⟩)
def zb5 (at_:Nat):Nat:=(at_+7)/8*8
theorem zoE (n:Int):bits .and .i64 n 7=n%8:=by
 have h7:(BitVec.ofInt 64 7).toNat=2 ^ 3-1:=by decide
 have key:(BitVec.ofInt 64 n &&& BitVec.ofInt 64 7).toNat=(n%((2 ^ 64:Nat):Int)).toNat%2 ^ 3:=by
  rw [BitVec.toNat_and,BitVec.toNat_ofInt,h7,Nat.and_two_pow_sub_one_eq_mod]
 show IntKind.i64.wrap ((BitVec.ofInt 64 n &&& BitVec.ofInt 64 7).toNat:Nat)=n%8
 rw [key,IntKind.wrap_i64]
 omega
theorem zvp {a:Nat}:(a:Int)+Go.bits .and .i64 (0-(a:Int)) 7=((zb5 a:Nat):Int):=by
 rw [zoE];unfold zb5;omega
theorem zeJ {w:World} {A:Option Addr} {cap n t:Nat} {xs:List Value} (h:w.ownsRow 0 t 1 (.slice A n cap) n xs):n≤cap:=by
 have hl:=h.1
 rcases h.2 with ⟨_,h0⟩|⟨b,cap',cur,hv,_,hb,hc,_⟩
 ·subst h0;simp at hl;omega
 ·injection hv with e1 _ e3
  omega
theorem zsX (q:Rdr) (at_:Nat) (w:World) (hl:q.bs.length≤20000000) (ha:at_≤8*q.bs.length) (hm:MemOk w (Foot (RM q at_)) (RM q at_) w) :
  Ctr Tryz.prog 194 [.pointer (some ⟨q.B,0,none⟩)] (RM q at_) (fun e m'=>e=.returned (.int .i64 0)∧m'=RM q (zb5 at_)) w:=by
 refine enter (cx:=CXS 18 [15] w (Foot (RM q at_))) [(0,.pointer (some ⟨q.B,0,none⟩))] zaa Tryz.func194 rfl rfl rfl rfl hm ?_
 refine gGw ?_
 refine Rd.n (zcl fun w=>eqRd _ _ w) ?_
 conv=>whnf
 refine br_f rfl ?_
 conv=>whnf
 refine zcD 11 zaa mixed (by kernel_rfl) rfl rfl ?_
 refine gGw ?_
 refine fin1 rfl rfl (fun w' hm=>⟨_,⟨rfl,rfl⟩,?_⟩)
 have e:IntKind.i64.wrap ((at_:Int)+Go.bits .and .i64 (0-(at_:Int)) 7)=((zb5 at_:Nat):Int):=by
  rw [zvp];exact IntWalk.i64_in _ (by unfold zb5;omega)
 rw [e] at hm
 exact hm
def rawB (q:Rdr) (at_ n:Nat):Prop:=at_%8=0∧n≤(8*q.bs.length-at_)/8
instance (q:Rdr) (at_ n:Nat):Decidable (rawB q at_ n):=inferInstanceAs (Decidable (_∧_))
def RawR (q:Rdr) (at_ n:Nat) (e:Ending) (m':Mem):Prop :=
 if rawB q at_ n then ∃ A c,e=.returned (.tuple #[.slice A n c,.int .i64 0])∧m'=.row A c n 5 1 ((zag ((q.bs.drop (at_/8)).take n)).map (.int .u8))::RM q (at_+8*n)
 else e=.returned (.tuple #[.slice none 0 0,.int .i64 120])∧m'=RM q at_
theorem zwJ (q:Rdr) (at_ n:Nat) (w:World) (hl:q.bs.length≤20000000) (ha:at_≤8*q.bs.length) (hn:n≤65535) (hm:MemOk w (Foot (RM q at_)) (RM q at_) w) :
  Ctr Tryz.prog 196 [.pointer (some ⟨q.B,0,none⟩),.int .i64 (n:Int)] (RM q at_) (RawR q at_ n) w:=by
 refine enter (cx:=CXS 50 [] w (Foot (RM q at_))) [(0,.pointer (some ⟨q.B,0,none⟩)),(1,.int .i64 (n:Int))] zaa Tryz.func196 rfl rfl rfl rfl hm ?_
 have ed:IntKind.i64.wrap ((at_:Int).tdiv 8)=((at_/8:Nat):Int):=by
  rw [Int.tdiv_eq_ediv_of_nonneg (by omega)];exact (IntWalk.i64_in _ (by omega)).trans (by omega)
 have el:IntKind.i64.wrap ((8*(q.bs.length:Int)-at_).tdiv 8)=(((8*q.bs.length-at_)/8:Nat):Int):=by
  rw [Int.tdiv_eq_ediv_of_nonneg (by omega)];exact (IntWalk.i64_in _ (by omega)).trans (by omega)
 have hcap:q.bs.length≤q.c:=zeJ (hm.ok (.row q.A q.c q.bs.length 5 1 ((zag q.bs).map (.int .u8))) (by simp))
 unfold RawR
 refine gGw ?_
 refine Rd.n (zcl fun w=>eqRd _ _ w) ?_
 conv=>whnf
 refine br_f rfl ?_
 refine gGw ?_
 refine br_f (decide_eq_false (by omega)) ?_
 refine gGw ?_
 rw [zoE]
 refine br_n (br_d (fun hx=>?_) (fun hx=>?_))
 ·refine gGw ?_
  refine⟨zfV,zac (m1:=RM q at_) (by repeat constructor) (fun w' hm'=>zkK q at_ w' hl (by omega) hm'.part) ?_⟩
  rintro e m' ⟨rfl,rfl⟩
  refine gGw ?_
  rw [el]
  refine br_d (fun hgt=>?_) (fun hle=>?_)
  ·have hr:¬ rawB q at_ n:=fun h=>by have:=h.2;omega
   simp only [hr,if_false]
   refine gGw ?_
   exact fin2 rfl rfl rfl (fun w' hm=>⟨_,⟨rfl,rfl⟩,hm⟩)
  ·have hr:rawB q at_ n:=⟨by omega,by omega⟩
   simp only [hr,if_true]
   have hn2:Nat.min (zag (q.bs.drop (at_/8))).length n=n:=by
    rw [zaf,List.length_drop];exact Nat.min_eq_right (by omega)
   have hdl:(zag (q.bs.drop (at_/8))).length=q.bs.length-at_/8:=by rw [zaf,List.length_drop]
   refine gGw ?_
   refine zc2 zaa rfl rfl rfl rfl rfl (by omega) (by simp only [Int.toNat_natCast];have:ty5.bytes=1:=rfl;rw [this];omega) (by omega) (fun zB=>?_)
   rw [Int.toNat_natCast]
   conv=>whnf
   have hsrc:∀ w',MemOk w (Foot (RM q at_)) (.row (some ⟨zB,0,none⟩) n n 5 1 (List.replicate n (.int .u8 0))::RM q at_) w'→BytsIn w' (cutA q.A q.c (at_/8) 1) (q.bs.drop (at_/8)):=fun w' hm'=>by
    have h1:BytsIn w' q.A q.bs:=rowI (hm'.ok (.row q.A q.c q.bs.length 5 1 ((zag q.bs).map (.int .u8))) (by simp))
    have h2:=BytsIn.sub h1 q.c (at_/8) (q.bs.length-at_/8) (by omega) hcap
    rwa [List.take_of_length_le (by rw [List.length_drop];omega)] at h2
   refine ziP (γ:=Unit) 20 (Tr.hs [0,1,2,3,4,5,6,7,8,9,10,11,12,13,14] (.sq [15] (.hs [16,17] (.sq [18,19,20] .done)))) (RM q at_) zaa mixed (by kernel_rfl) rfl (fun _=>True)
    (fun _=>[(6,.slice (some ⟨zB,0,none⟩) n n)]) (fun _=>.row (some ⟨zB,0,none⟩) n n 5 1 ((zag ((q.bs.drop (at_/8)).take n)).map (.int .u8))::RM q (at_+8*n)) SubM.sl ?_ ?_
   ·refine gGw ?_
    rw [ed]
    refine And.intro ⟨by omega,by omega,by omega,Classical.or_iff_not_imp_left.2 (fun hne=>?_)⟩ ?_
    ·cases hA:q.A with
     | none=>exact absurd hA hne
     | some a=>exact zhy (hA ▸ hm.ok (.row q.A q.c q.bs.length 5 1 ((zag q.bs).map (.int .u8))) (by simp))
    refine gGw ?_
    rw [Int.toNat_natCast,Int.toNat_natCast,← hdl]
    refine zhB zaa rfl rfl rfl rfl (by repeat constructor) (by rfl:some (⟨zB,0,none⟩:Addr)=pl (some ⟨zB,0,none⟩) 0) (k:=.u8) (ys:=zag (q.bs.drop (at_/8))) (fun w' hm'=>hsrc w' (hm'.sel (by repeat constructor))) (by omega) ?_
    rw [hn2]
    conv=>whnf
    refine gGs ?_
    refine gGt ?_
    rw [zb1 _ _ (by rw [List.length_map,List.length_take,List.length_replicate,hdl];omega),← znb]
    exact⟨(),trivial,⟨rfl,trivial⟩,SubM.sl⟩
   ·rintro ⟨⟩ -
    refine gGw ?_
    exact fin2 rfl rfl rfl (fun w' hm=>⟨_,⟨_,_,rfl,rfl⟩,hm⟩)
 ·have hr:¬ rawB q at_ n:=fun h=>hx (by have:=h.1;omega)
  simp only [hr,if_false]
  refine gGw ?_
  refine br_t rfl ?_
  refine gGw ?_
  exact fin2 rfl rfl rfl (fun w' hm=>⟨_,⟨rfl,rfl⟩,hm⟩)
theorem zkG (A:Option Addr) (c:Nat) (bs:List UInt8) (w:World) (hb:BytsIn w A bs) (hn:bs.length≤20000000) :
  Ctr Tryz.prog 166 [.slice A bs.length c] [] (fun e m'=>∃ q:Rdr,q.bs=bs∧e=.returned (.pointer (some ⟨q.B,0,none⟩))∧m'=RM q 0) w:=by
 have hF:∀ w',Fr (Foot []) w w'→BytsIn w' A bs:=fun w' hf=>Byts.in_ (BytsIn.byts (cx:=CX 0 [] w) (m:=[]) hb (fun _ h=>h)) ((MemOk.nil w _).same (hf.mono (fun k _ ⟨r,hr,_⟩=>by cases hr)))
 refine enter (cx:=CXS 16 [] w (Foot [])) [(0,.slice A bs.length c)] zaa Tryz.func166 rfl rfl rfl rfl (MemOk.nil w _) ?_
 have hl:(zag bs).length=bs.length:=zaf bs
 refine gGw ?_
 refine zc2 zaa rfl rfl rfl rfl rfl (by omega) (by simp only [Int.toNat_natCast];have:ty5.bytes=1:=rfl;rw [this];omega) (by omega) (fun zB=>?_)
 rw [Int.toNat_natCast]
 conv=>whnf
 intro rB
 refine gGw ?_
 rw [← hl]
 refine zhB zaa rfl rfl rfl rfl (by repeat constructor) (by rfl:some (⟨zB,0,none⟩:Addr)=pl (some ⟨zB,0,none⟩) 0) (k:=.u8) (ys:=zag bs) (fun w' hm'=>hF w' hm'.fr) (by rw [Nat.zero_add];exact Nat.min_le_left _ _) ?_
 have hn2:Nat.min (zag bs).length (zag bs).length=(zag bs).length:=Nat.min_self _
 rw [hn2]
 refine gGw ?_
 have hs:=zb1 (((zag bs).take (zag bs).length).map (Value.int .u8)) (List.replicate (zag bs).length (.int .u8 0)) (by simp)
 rw [List.take_of_length_le (Nat.le_refl _)] at hs ⊢
 rw [hs,hl]
 exact fin1 rfl rfl (fun w' hm=>⟨_,⟨⟨rB,some ⟨zB,0,none⟩,bs.length,bs⟩,rfl,rfl,rfl⟩,hm.sl⟩)
end
section
def zs1 (g:Nat) (p:Int→Bool):Prop:=Eng.Enters Tryz.prog g∧∀ (x:Int) (w:World),Calls Tryz.prog g #[.int .i64 x] w fun e w'=>e=.returned (.bool (p x))∧Fr (fun _=>False) w w'
def idxP (p:Int→Bool) (xs:List Int):Int:=if xs.findIdx p<xs.length then (xs.findIdx p:Nat) else -1
theorem zqa {p:Int→Bool} {xs:List Int} {i:Nat} (hi:i<xs.length) (h:p (xs.getD i 0)=true) (hj:∀ j,j<i→p (xs.getD j 0)=false):xs.findIdx p=i:=by
 rw [List.findIdx_eq hi]
 have e:∀ j (hj:j<xs.length),xs.getD j 0=xs[j]:=fun j hj=>by rw [List.getD_eq_getElem?_getD,List.getElem?_eq_getElem hj];rfl
 refine⟨by rw [← e];exact h,fun j hj2=>?_⟩
 rw [← e];exact hj j hj2
theorem zp9 {p:Int→Bool} {xs:List Int} (hj:∀ j,j<xs.length→p (xs.getD j 0)=false):xs.findIdx p=xs.length:=by
 rw [List.findIdx_eq_length]
 intro x hx
 obtain ⟨j,hj2,rfl⟩:=List.getElem_of_mem hx
 have:=hj j hj2
 rw [List.getD_eq_getElem?_getD,List.getElem?_eq_getElem hj2] at this
 exact this
attribute [local irreducible] Br Rn RnU Cl RdG CpG Ld Rd Lp Dr Oth Cut fin Fits Eng.Enters Md NA
theorem zfB:Eng.Enters Tryz.prog 259:=zab fun _ _=>by kernel_rfl
theorem zgZ:Eng.Enters Tryz.prog 253:=zab fun _ _=>by kernel_rfl
theorem zkS:Eng.Enters Tryz.prog 237:=zab fun _ _=>by kernel_rfl
theorem zea:Eng.Enters Tryz.prog 218:=zab fun _ _=>by kernel_rfl
theorem ziC (g:Nat) (p:Int→Bool) (hp:zs1 g p) (xs:List Int) (A:Option Addr) (c:Nat) (w:World) (hb:IntsIn .i64 w A xs) (hl:xs.length≤140737488355328) :
  Calls Tryz.prog 259 #[.slice A xs.length c,.func (.func g) #[] #[]] w fun e w'=>e=.returned (.int .i64 (idxP p xs))∧Fr (fun _=>False) w w':=by
 refine enter (cx:=CX 19 [] w) [(0,.slice A xs.length c),(1,.func (.func g) #[] #[])] zaa Tryz.func259 rfl rfl rfl rfl (MemOk.nil w _) ?_
 have h1:=fun m=>IntsIn.ints (cx:=CX 19 [] w) (m:=m) hb (fun _ h=>h)
 refine gGw ?_
 refine lp zaa (γ:=Nat) (fun i=>i≤xs.length∧∀ j,j<i→p (xs.getD j 0)=false) (fun i=>[(8,.int .i64 (i:Int)),(7,.int .i64 (xs.length:Int)),(0,.slice A xs.length c),(1,.func (.func g) #[] #[])]) (fun _=>[]) (fun i=>xs.length-i) 0 ⟨by omega,fun j hj=>by omega⟩ ⟨rfl,rfl,rfl,rfl,trivial⟩ (SubM.refl _ _) ?_
 rintro i ⟨hi,hj⟩
 dsimp only
 conv=>whnf
 refine br_d (fun hlt=>?_) (fun hge=>?_)
 ·have hlt':i<xs.length:=by omega
  have hpl:Pl A:=(h1 []).plain (by omega)
  refine gGw ?_
  refine And.intro ⟨by omega,by omega,hpl⟩ ?_
  conv=>whnf
  refine zai ((h1 _).ld zaa rfl rfl (j:=i) (by omega)) ?_
  conv=>whnf
  refine⟨hp.1,zae _ (fun w' _=>hp.2 (xs.getD i 0) w') ?_⟩
  refine gGw ?_
  refine br (fun ht=>?_) (fun hf=>?_)
  ·refine gGw ?_
   refine fin1 rfl rfl (fun w' hm=>⟨?_,hm.fr⟩)
   rw [idxP,zqa hlt' ht hj,if_pos hlt']
  ·refine gGw ?_
   refine⟨i+1,⟨by omega,fun j hj2=>?_⟩,by omega,⟨rfl,rfl,rfl,rfl,trivial⟩,SubM.refl _ _⟩
   by_cases h:j=i
   ·rw [h];exact hf
   ·exact hj j (by omega)
 ·have hil:i=xs.length:=by omega
  subst hil
  refine gGw ?_
  refine fin1 rfl rfl (fun w' hm=>⟨?_,hm.fr⟩)
  rw [idxP,zp9 hj,if_neg (by omega)]
theorem zjg (g:Nat) (p:Int→Bool) (hp:zs1 g p) (xs:List Int) (A:Option Addr) (c:Nat) (w:World) (hb:IntsIn .i64 w A xs) (hl:xs.length≤140737488355328) :
  Calls Tryz.prog 253 #[.slice A xs.length c,.func (.func g) #[] #[]] w fun e w'=>e=.returned (.bool (xs.any p))∧Fr (fun _=>False) w w':=by
 refine enter (cx:=CX 9 [] w) [(0,.slice A xs.length c),(1,.func (.func g) #[] #[])] zaa Tryz.func253 rfl rfl rfl rfl (MemOk.nil w _) ?_
 refine gGw ?_
 refine⟨zfB,zae _ (fun w' hm=>ziC g p hp xs A c w' (Ints.in_ (IntsIn.ints (cx:=CX 9 [] w) (m:=[]) hb (fun _ h=>h)) hm) hl) ?_⟩
 refine gGw ?_
 refine fin1 rfl rfl (fun w' hm=>⟨?_,hm.fr⟩)
 have e:xs.any p=decide (xs.findIdx p<xs.length):=by
  rw [Bool.eq_iff_iff,decide_eq_true_eq,List.findIdx_lt_length,List.any_eq_true]
 rw [e]
 refine congrArg (fun b=>Ending.returned (.bool b)) ?_
 unfold idxP
 split<;>simp_all
theorem zsd:zs1 254 (fun n=>decide (n<0)||decide (15<n)):=by
 refine⟨zab fun _ _=>by kernel_rfl,fun x w=>?_⟩
 refine enter (cx:=CX 9 [] w) [(0,.int .i64 x)] zaa Tryz.func254 rfl rfl rfl rfl (MemOk.nil w _) ?_
 refine gGw ?_
 exact fin1 rfl rfl (fun w' hm=>⟨rfl,hm.fr⟩)
theorem zxP:zs1 241 (fun n=>decide (n=0)):=by
 refine⟨zab fun _ _=>by kernel_rfl,fun x w=>?_⟩
 refine enter (cx:=CX 5 [] w) [(0,.int .i64 x)] zaa Tryz.func241 rfl rfl rfl rfl (MemOk.nil w _) ?_
 refine gGw ?_
 exact fin1 rfl rfl (fun w' hm=>⟨rfl,hm.fr⟩)
def zbJ (xs:List Int):Int:=if xs.any (fun n=>decide (n<0)||decide (15<n)) then 2 else if 320<xs.length then 3 else 0
theorem zp5 (xs:List Int) (A:Option Addr) (c:Nat) (w:World) (hb:IntsIn .i64 w A xs) (hl:xs.length≤140737488355328) :
  Calls Tryz.prog 237 #[.slice A xs.length c] w fun e w'=>e=.returned (.int .i64 (zbJ xs))∧Fr (fun _=>False) w w':=by
 refine enter (cx:=CX 10 [] w) [(0,.slice A xs.length c)] zaa Tryz.func237 rfl rfl rfl rfl (MemOk.nil w _) ?_
 refine gGw ?_
 refine⟨zgZ,zae _ (fun w' hm=>zjg _ _ zsd xs A c w' (Ints.in_ (IntsIn.ints (cx:=CX 10 [] w) (m:=[]) hb (fun _ h=>h)) hm) hl) ?_⟩
 refine gGw ?_
 refine br (fun hany=>?_) (fun hany=>?_)
 ·refine gGw ?_
  refine fin1 rfl rfl (fun w' hm=>⟨?_,hm.fr⟩)
  rw [zbJ,hany];rfl
 ·refine gGw ?_
  refine br_d (fun h=>?_) (fun h=>?_)
  ·refine gGw ?_
   refine fin1 rfl rfl (fun w' hm=>⟨?_,hm.fr⟩)
   rw [zbJ,hany,if_neg (by decide),if_pos (by omega)]
  ·refine gGw ?_
   refine fin1 rfl rfl (fun w' hm=>⟨?_,hm.fr⟩)
   rw [zbJ,hany,if_neg (by decide),if_neg (by omega)]
def za8:List Int→Int
 | []=>0
 | n::r=>(if 0<n then 32768/2 ^ n.toNat else 0)+za8 r
theorem zgC:∀ xs:List Int,0≤za8 xs∧za8 xs≤16384*xs.length
 | []=>by simp [za8]
 | n::r=>by
  have ih:=zgC r
  rw [za8,List.length_cons]
  split
  ·rename_i h
   have h1:(2:Int)≤2 ^ n.toNat:=by
    obtain ⟨k,hk⟩:∃ k,n.toNat=k+1:=⟨n.toNat-1,by omega⟩
    rw [hk,Int.pow_succ]
    have:(0:Int)<2 ^ k:=Int.pow_pos (by omega)
    omega
   have h2:0≤(32768:Int)/2 ^ n.toNat:=Int.ediv_nonneg (by omega) (by omega)
   have h3:(32768:Int)/2 ^ n.toNat≤16384:=Int.ediv_le_of_le_mul (by omega) (by omega)
   push_cast;omega
  ·push_cast;omega
theorem zg9 (xs:List Int) (i:Nat) (h:i<xs.length):za8 (xs.take (i+1))=za8 (xs.take i)+(if 0<xs.getD i 0 then 32768/2 ^ (xs.getD i 0).toNat else 0):=by
 induction xs generalizing i with
 | nil=>simp at h
 | cons a r ih =>
  cases i with
  | zero=>simp [za8]
  | succ i =>
   have:=ih i (by simpa using h)
   simp only [List.take_succ_cons,za8,List.getD_cons_succ]
   rw [this];omega
def zeb (xs:List Int):Int × Int:=if zbJ xs=0 then (za8 xs,0) else (0,zbJ xs)
theorem zfi {xs:List Int} (h:zbJ xs=0):(∀ x∈xs,0≤x∧x≤15)∧xs.length≤320:=by
 unfold zbJ at h
 split at h
 ·omega
 ·rename_i h1
  split at h
  ·omega
  ·rename_i h2
   refine⟨fun x hx=>?_,by omega⟩
   have:¬ ((decide (x<0)||decide (15<x))=true):=fun h3=>h1 (List.any_eq_true.2 ⟨x,hx,h3⟩)
   simp only [Bool.or_eq_true,decide_eq_true_eq] at this
   omega
theorem zbC {xs:List Int} {i:Nat} (h:i<xs.length):xs.getD i 0∈xs:=by
 rw [List.getD_eq_getElem?_getD,List.getElem?_eq_getElem h];exact List.getElem_mem h
theorem zgB (xs:List Int) (A:Option Addr) (c:Nat) (w:World) (hb:IntsIn .i64 w A xs) (hl:xs.length≤140737488355328) :
  Calls Tryz.prog 218 #[.slice A xs.length c] w fun e w'=>e=.returned (.tuple #[.int .i64 (zeb xs).1,.int .i64 (zeb xs).2])∧Fr (fun _=>False) w w':=by
 refine enter (cx:=CX 27 [] w) [(0,.slice A xs.length c)] zaa Tryz.func218 rfl rfl rfl rfl (MemOk.nil w _) ?_
 have h1:=fun m=>IntsIn.ints (cx:=CX 27 [] w) (m:=m) hb (fun _ h=>h)
 refine gGw ?_
 refine⟨zkS,zae _ (fun w' hm=>zp5 xs A c w' (Ints.in_ (h1 _) hm) hl) ?_⟩
 refine gGw ?_
 refine br_n (br_d (fun he=>?_) (fun he=>?_))
 ·have hok:=zfi he
  have eW:zeb xs=(za8 xs,0):=if_pos he
  rw [eW]
  refine gGw ?_
  refine lp zaa (γ:=Nat) (fun i=>i≤xs.length) (fun i=>[(15,.int .i64 (i:Int)),(14,.int .i64 (xs.length:Int)),(13,.slice A xs.length c),(5,.int .i64 (za8 (xs.take i)))]) (fun _=>[]) (fun i=>xs.length-i) 0 (by omega) ⟨rfl,rfl,rfl,rfl,trivial⟩ (SubM.refl _ _) ?_
  rintro i hi
  dsimp only
  conv=>whnf
  refine br_d (fun hlt=>?_) (fun hge=>?_)
  ·have hlt':i<xs.length:=by omega
   have hpl:Pl A:=(h1 []).plain (by omega)
   have hbd:=hok.1 _ (zbC hlt')
   have hwl:=zgC (xs.take i)
   have hlen:(xs.take i).length=i:=by rw [List.length_take];omega
   rw [hlen] at hwl
   have hst:=zg9 xs i hlt'
   refine gGw ?_
   refine And.intro ⟨by omega,by omega,hpl⟩ ?_
   conv=>whnf
   refine zai ((h1 _).ld zaa rfl rfl (j:=i) (by omega)) ?_
   refine gGw ?_
   generalize xs.getD i 0=x at hbd hst ⊢
   refine br_d (fun hpos=>?_) (fun hz=>?_)
   ·rw [if_pos hpos] at hst
    have h32:0≤(32768:Int)/2 ^ x.toNat∧(32768:Int)/2 ^ x.toNat≤32768:=⟨Int.ediv_nonneg (by omega) (Int.le_of_lt (Int.pow_pos (by omega))),Int.ediv_le_self _ (by omega)⟩
    refine gGw ?_
    refine And.intro ⟨by omega,show x≤(64:Int) by omega⟩ ?_
    refine gGw ?_
    refine⟨i+1,by omega,by omega,⟨rfl,rfl,rfl,?_,trivial⟩,SubM.refl _ _⟩
    rw [hst]
    rfl
   ·rw [if_neg (by omega)] at hst
    refine gGw ?_
    refine⟨i+1,by omega,by omega,⟨rfl,rfl,rfl,?_,trivial⟩,SubM.refl _ _⟩
    rw [hst,Int.add_zero]
    rfl
  ·have hil:i=xs.length:=by omega
   subst hil
   refine gGw ?_
   refine fin2 rfl rfl rfl (fun w' hm=>⟨?_,hm.fr⟩)
   rw [List.take_of_length_le (Nat.le_refl _)]
 ·refine gGw ?_
  refine fin2 rfl rfl rfl (fun w' hm=>⟨?_,hm.fr⟩)
  rw [zeb,if_neg he]
end
end Go.Proofs.YtlmgelmloddfgaaGreat
namespace Go.Proofs.YtlmgelmloddfgaaGreat.Eng
open Go Go.RowKit
section
variable {cx:Cx}
theorem zof {m m':Mem} {dT e ty:Nat} {i:TyI} {A D:Option Addr} {cap n off k c:Nat} {xs:List Value} {z:Value} {K:Value→Mem→Prop} (ht:TabOk cx.P cx.tab)
  (hi:cx.tab.get dT=some i) (hk:i.kind=.slice e) (hu:Out m (.row A cap n e 1 xs) m') (hD:0<k→D=pl A off) (hv:∀ w,(zeroValue e).run cx.P w=.ok z w) (hz:z.cells=#[z]) (h1:z.oneCell'=true) (hfit:off+k≤n)
  (hK:K (.tuple #[]) (.row A cap n e 1 (zbp off (List.replicate k z) xs)::m')) :
  Rn cx m (Builtin.clear_ #[dT] ty #[.slice D k c]) K:=by
 intro w hm
 have hu2:=TyI.sliceOf (ht _ _ hi) hk
 by_cases h0:k=0
 ·subst h0
  refine⟨.tuple #[],w,_,?_,hm.perm hu.perm,hK⟩
  cases D<;>simp [Builtin.clear_,run_underlying hu2]
 ·obtain ⟨b,cur,rfl,hb,hcs,hm2⟩:=zm2 (off:=off) (vs:=List.replicate k z) hm hu (by rw [List.length_replicate];omega) (by rw [List.length_replicate];omega)
  have hst:=run_storeCells_at cx.P b off e (List.replicate k z) 0 cur w hb (by simpa using hcs) (fun v hv=>by rw [List.eq_of_mem_replicate hv];exact h1)
  have hzc:(Builtin.zeroCells z.cells k).toList=List.replicate k z:=by
   rw [hz]
   simp [Builtin.zeroCells]
   apply List.ext_getElem
   ·simp
   ·intro i h1 h2
    simp [Nat.mod_one]
  rw [zaN _ off cur.toList (by rw [Array.length_toList];exact hcs)] at hm2
  refine⟨.tuple #[],_,_,?_,hm2,hK⟩
  rw [hD (by omega)]
  simp only [pl,Option.map_some,Addr.add_lit,Nat.zero_add]
  obtain ⟨k',rfl⟩:∃ k',k=k'+1:=⟨k-1,by omega⟩
  simp only [Nat.add_zero] at hst
  simp [Builtin.clear_,run_underlying hu2,hv,hzc,hst]
end
end Go.Proofs.YtlmgelmloddfgaaGreat.Eng
namespace Go.Proofs.YtlmgelmloddfgaaGreat
open Go Go.RowKit Eng
abbrev IR (A:Option Addr) (c n:Nat) (xs:List Int):Res:=.row A c n 3 1 (xs.map (.int .i64))
theorem zbg {xs:List Int} {j:Nat} (h:j<xs.length):(xs.map (Value.int .i64))[j]?=some (.int .i64 (xs.getD j 0)):=by
 rw [List.getElem?_map,List.getD_eq_getElem?_getD,List.getElem?_eq_getElem h];rfl
theorem zdF {xs:List Int} {j:Nat} (h:j<xs.length):xs.take (j+1)=xs.take j++[xs.getD j 0]:=by
 rw [List.take_add_one,List.getD_eq_getElem?_getD,List.getElem?_eq_getElem h];rfl
theorem zh3 (ys xs:List Int) (off:Nat) (h:off+ys.length≤xs.length):zbp off (ys.map (Value.int .i64)) (xs.map (.int .i64))=(xs.take off++ys++xs.drop (off+ys.length)).map (.int .i64):=by
 rw [zaN _ _ _ (by simpa using h)]
 simp [List.map_take,List.map_drop]
attribute [local irreducible] Br Rn RnU Cl RdG CpG Ld Rd Lp Dr Oth Cut fin Fits Eng.Enters Md NA
theorem zmv:Eng.Enters Tryz.prog 240:=zab fun _ _=>by kernel_rfl
theorem zny:Eng.Enters Tryz.prog 223:=zab fun _ _=>by kernel_rfl
def zeS (p:Int→Bool) (xs:List Int):List Int:=xs.filter fun x=>!p x
theorem zsE (g:Nat) (p:Int→Bool) (hp:zs1 g p) (xs:List Int) (A:Option Addr) (c:Nat) (w:World) (hl:xs.length≤140737488355328) (hm:MemOk w (Foot [IR A c xs.length xs]) [IR A c xs.length xs] w) :
  Ctr Tryz.prog 240 [.slice A xs.length c,.func (.func g) #[] #[]] [IR A c xs.length xs]
   (fun e m'=>e=.returned (.slice A (zeS p xs).length c)∧m'=[IR A c xs.length (zeS p xs++List.replicate (xs.length-(zeS p xs).length) 0)]) w:=by
 have hcap:xs.length≤c:=zeJ (hm.ok _ (List.mem_cons_self ..))
 have hkl:(zeS p xs).length≤xs.length:=List.length_filter_le _ _
 refine enter (cx:=CXS 42 [] w (Foot [IR A c xs.length xs])) [(0,.slice A xs.length c),(1,.func (.func g) #[] #[])] zaa Tryz.func240 rfl rfl rfl rfl hm ?_
 refine gGw ?_
 refine⟨zfB,zae _ (fun w' hm'=>ziC g p hp xs A c w' (rowI (hm'.ok _ (List.mem_cons_self ..))) hl) ?_⟩
 refine gGw ?_
 refine br_d (fun hno=>?_) (fun hyes=>?_)
 ·have hf:zeS p xs=xs:=by
   unfold zeS
   rw [List.filter_eq_self]
   intro x hx
   unfold idxP at hno
   split at hno
   ·omega
   ·rename_i h
    have h2:xs.findIdx p=xs.length:=Nat.le_antisymm (List.findIdx_le_length) (by omega)
    rw [List.findIdx_eq_length] at h2
    rw [h2 x hx];rfl
  refine gGw ?_
  refine fin1 rfl rfl (fun w' hm=>⟨_,⟨by rw [hf],by rw [hf,Nat.sub_self,List.replicate_zero,List.append_nil]⟩,hm⟩)
 ·have hlt0:xs.findIdx p<xs.length:=by
   unfold idxP at hyes
   split at hyes
   ·assumption
   ·exact absurd rfl hyes
  have e0:idxP p xs=(xs.findIdx p:Nat):=if_pos hlt0
  rw [e0]
  obtain ⟨i0,hi0⟩:∃ i0,i0=xs.findIdx p:=⟨_,rfl⟩
  have hk0:xs.take i0=(xs.take (i0+1)).filter fun x=>!p x:=by
   have h1:p (xs.getD i0 0)=true:=by
    rw [List.getD_eq_getElem?_getD,List.getElem?_eq_getElem (hi0 ▸ hlt0)]
    subst hi0
    exact List.findIdx_getElem
   have h2:(xs.take i0).filter (fun x=>!p x)=xs.take i0:=by
    rw [List.filter_eq_self]
    intro x hx
    obtain ⟨j,hj,rfl⟩:=List.getElem_of_mem hx
    rw [List.length_take] at hj
    rw [List.getElem_take]
    have:=List.not_of_lt_findIdx (p:=p) (xs:=xs) (i:=j) (by omega)
    simpa using this
   rw [zdF (hi0 ▸ hlt0),List.filter_append,h2,List.filter_cons_of_neg (by rw [h1];decide),List.filter_nil,List.append_nil]
  rw [← hi0] at hlt0 ⊢
  clear hi0 e0 hyes
  refine gGw ?_
  refine lp zaa (γ:=Nat × Nat × List Int) (fun q=>q.1≤q.2.1∧q.2.1≤xs.length∧q.2.2.length=xs.length∧q.2.2.take q.1=(xs.take q.2.1).filter (fun x=>!p x)∧q.2.2.drop q.2.1=xs.drop q.2.1)
   (fun q=>[(6,.int .i64 (q.2.1:Int)),(5,.int .i64 (q.1:Int)),(0,.slice A xs.length c),(1,.func (.func g) #[] #[])]) (fun q=>[IR A c xs.length q.2.2]) (fun q=>xs.length-q.2.1) (i0,i0+1,xs) ⟨by simp,by simp only;omega,rfl,hk0,rfl⟩ ⟨rfl,rfl,rfl,rfl,trivial⟩ (SubM.refl _ _) ?_
  rintro ⟨i,j,ys⟩ ⟨hij,hj,hyl,htk,hdr⟩
  simp only at hij hj hyl htk hdr
  dsimp only
  refine gGw ?_
  refine br_d (fun hlt=>?_) (fun hge=>?_)
  ·have hlt':j<xs.length:=by omega
   have hpl:Pl A:=zcV (hm.ok _ (List.mem_cons_self ..)) (by omega)
   have hyj:ys.getD j 0=xs.getD j 0:=by
    have:=congrArg (fun l=>l.getD 0 (0:Int)) hdr
    simpa [List.getD_eq_getElem?_getD,List.getElem?_drop] using this
   have hgj:=zbg (xs:=ys) (j:=j) (by omega)
   rw [hyj] at hgj
   have hdr2:ys.drop (j+1)=xs.drop (j+1):=by
    have:=congrArg (List.drop 1) hdr
    simpa [List.drop_drop,Nat.add_comm] using this
   have htk2:=zdF hlt'
   refine gGw ?_
   refine And.intro ⟨by omega,by omega,hpl⟩ ?_
   conv=>whnf
   refine zai (ldR zaa .here rfl rfl hgj) ?_
   refine gGw ?_
   refine⟨hp.1,zae _ (fun w' _=>hp.2 _ w') ?_⟩
   refine gGw ?_
   refine br_n (br (fun hf=>?_) (fun ht=>?_))
   ·refine gGw ?_
    refine⟨(i,j+1,ys),⟨by simp only;omega,by simp only;omega,hyl,?_,hdr2⟩,by simp only;omega,⟨rfl,rfl,rfl,rfl,trivial⟩,SubM.refl _ _⟩
    rw [htk,htk2,List.filter_append,List.filter_cons_of_neg (by rw [hf];decide),List.filter_nil,List.append_nil]
   ·refine gGw ?_
    refine And.intro ⟨by omega,by omega,hpl⟩ ?_
    conv=>whnf
    refine zaw (off:=i) (xs':=(ys.set i (xs.getD j 0)).map (.int .i64)) zaa rfl .here rfl rfl (by show i+1≤xs.length*1;omega) (Nat.one_pos) (by rw [List.map_set];rfl) ?_
    refine gGw ?_
    refine⟨(i+1,j+1,ys.set i (xs.getD j 0)),⟨by simp only;omega,by simp only;omega,by simp only [List.length_set];exact hyl,?_,?_⟩,by simp only;omega,⟨rfl,rfl,rfl,rfl,trivial⟩,SubM.refl _ _⟩
    ·rw [htk2,List.filter_append,← htk]
     have:(ys.set i (xs.getD j 0)).getD i 0=xs.getD j 0:=by
      rw [List.getD_eq_getElem?_getD,List.getElem?_set_self (by omega)];rfl
     rw [zdF (by rw [List.length_set];omega),this,List.take_set_of_le (Nat.le_refl _),List.filter_cons_of_pos (by rw [ht];rfl),List.filter_nil]
    ·show (ys.set i (xs.getD j 0)).drop (j+1)=xs.drop (j+1)
     rw [List.drop_set_of_lt (by omega)]
     exact hdr2
  ·have hje:j=xs.length:=by omega
   subst hje
   have hil:i=(zeS p xs).length:=by
    have:=congrArg List.length htk
    rw [List.length_take,List.take_of_length_le (Nat.le_refl _)] at this
    unfold zeS;omega
   have htk3:ys.take i=zeS p xs:=by rw [htk,List.take_of_length_le (Nat.le_refl _)];rfl
   refine gGw ?_
   refine And.intro ⟨by omega,by omega,by omega,Classical.or_iff_not_imp_left.2 (fun hne=>?_)⟩ ?_
   ·cases hA:A with
    | none=>exact absurd hA hne
    | some a=>exact zhy (hA ▸ hm.ok _ (List.mem_cons_self ..))
   refine gGw ?_
   refine zof zaa rfl rfl .here (off:=i) (fun hk=>?_) (z:=.int .i64 0) zbE rfl rfl (by omega) ?_
   ·obtain ⟨b,o,rfl⟩:=zcV (hm.ok _ (List.mem_cons_self ..)) (by omega)
    rw [Int.toNat_natCast]
    unfold cutA
    rw [if_neg (by omega)];rfl
   refine gGw ?_
   refine And.intro ⟨by omega,by omega,by omega,Classical.or_iff_not_imp_left.2 (fun hne=>?_)⟩ ?_
   ·cases hA:A with
    | none=>exact absurd hA hne
    | some a=>exact zhy (hA ▸ hm.ok _ (List.mem_cons_self ..))
   refine gGw ?_
   have hcz:cutA A c 0 1=A:=by
    cases hA:A with
    | none=>unfold cutA;split<;>rfl
    | some a =>
     obtain ⟨b,o,e⟩:=zhy (hA ▸ hm.ok _ (List.mem_cons_self ..))
     rw [e]
     unfold cutA
     split<;>rfl
   refine fin1 rfl rfl (fun w' hm=>⟨_,⟨?_,?_⟩,hm⟩)
   ·show Ending.returned (.slice (cutA A c 0 1) (i-0) (c-0))=_
    rw [hcz,← hil];rfl
   rw [Int.toNat_natCast,Int.toNat_natCast,show (List.replicate (xs.length-i) (Value.int .i64 0))=(List.replicate (xs.length-i) (0:Int)).map (.int .i64) from by simp,zh3 _ _ _ (by simp;omega),htk3,← hil]
   rw [List.drop_of_length_le (by simp;omega),List.append_nil]
def mayL (xs:List Int) (none:Bool):Bool :=
 (decide ((zeb xs).2=0)&&decide ((zeb xs).1=32768))||(decide ((zeS (fun n=>decide (n=0)) xs).length=0)&&none||(decide ((zeS (fun n=>decide (n=0)) xs).length=1)&&decide ((zeS (fun n=>decide (n=0)) xs).getD 0 0=1)))
theorem zvd (xs:List Int) (none:Bool) (A:Option Addr) (c:Nat) (w:World) (hb:IntsIn .i64 w A xs) (hl:xs.length≤1048576) :
  Ctr Tryz.prog 223 [.slice A xs.length c,.bool none] [] (fun e m'=>e=.returned (.bool (mayL xs none))∧m'=[]) w:=by
 have hF:∀ w',Fr (Foot []) w w'→IntsIn .i64 w' A xs:=fun w' hf=>Ints.in_ (IntsIn.ints (cx:=CX 0 [] w) (m:=[]) hb (fun _ h=>h)) ((MemOk.nil w _).same (hf.mono (fun k _ ⟨r,hr,_⟩=>by cases hr)))
 refine enter (cx:=CXS 39 [] w (Foot [])) [(0,.slice A xs.length c),(1,.bool none)] zaa Tryz.func223 rfl rfl rfl rfl (MemOk.nil w _) ?_
 refine gGw ?_
 refine⟨zea,zae _ (fun w' hm'=>zgB xs A c w' (hF w' hm'.fr) (by omega)) ?_⟩
 refine gGw ?_
 refine br (fun h=>?_) (fun h=>?_)
 ·refine gGw ?_
  refine fin1 rfl rfl (fun w' hm=>⟨_,⟨?_,rfl⟩,hm⟩)
  unfold mayL
  rw [h,Bool.true_or]
 ·refine gGw ?_
  refine⟨zgv,zac (m1:=[]) .nil (fun w' hm'=>Eng.Ctr.ex (zjR A c xs w' (hF w' hm'.fr) (by omega))) ?_⟩
  rintro e m' ⟨⟨A1,c1,rfl,rfl⟩,wx,hwx⟩
  have hplA:0<xs.length→Pl A1:=fun h=>zft (hwx _ (List.mem_cons_self ..)) (by rw [List.length_map];exact h)
  refine gGw ?_
  refine⟨zmv,zac (m1:=[IR A1 c1 xs.length xs]) (by repeat constructor) (fun w' hm'=>zsE _ _ zxP xs A1 c1 w' (by omega) hm'.part) ?_⟩
  rintro e m' ⟨rfl,rfl⟩
  have eM:mayL xs none=(decide ((zeS (fun n=>decide (n=0)) xs).length=0)&&none||(decide ((zeS (fun n=>decide (n=0)) xs).length=1)&&decide ((zeS (fun n=>decide (n=0)) xs).getD 0 0=1))):=by
   unfold mayL
   rw [h,Bool.false_or]
  rw [eM]
  have hkl:(zeS (fun n=>decide (n=0)) xs).length≤xs.length:=List.length_filter_le _ _
  generalize zeS (fun n=>decide (n=0)) xs=ks at hkl ⊢
  refine gGw ?_
  refine br (fun h0=>?_) (fun h0=>?_)
  ·have e0:(decide (ks.length=0)&&none)=true:=by rw [← h0];congr 1;exact decide_eq_decide.2 (by omega)
   rw [e0]
   refine gGw ?_
   exact fin1 rfl rfl (fun w' hm=>⟨_,⟨rfl,rfl⟩,hm.sel .nil⟩)
  ·have e0:(decide (ks.length=0)&&none)=false:=by rw [← h0];congr 1;exact decide_eq_decide.2 (by omega)
   rw [e0]
   refine gGw ?_
   refine br_d (fun h1=>?_) (fun h1=>?_)
   ·have hg:=zbg (xs:=ks++List.replicate (xs.length-ks.length) 0) (j:=0) (by rw [List.length_append];omega)
    have hk0:(ks++List.replicate (xs.length-ks.length) 0).getD 0 0=ks.getD 0 0:=by
     rw [List.getD_eq_getElem?_getD,List.getD_eq_getElem?_getD,List.getElem?_append_left (by omega)]
    rw [hk0] at hg
    rw [decide_eq_true (show ks.length=1 by omega)]
    refine gGw ?_
    refine And.intro ⟨by omega,by omega,hplA (by omega)⟩ ?_
    conv=>whnf
    refine zai (ldR zaa (by repeat constructor) rfl rfl (j:=0) hg) ?_
    refine gGw ?_
    exact fin1 rfl rfl (fun w' hm=>⟨_,⟨rfl,rfl⟩,hm.sel .nil⟩)
   ·rw [decide_eq_false (show ¬ ks.length=1 by omega)]
    refine gGw ?_
    exact fin1 rfl rfl (fun w' hm=>⟨_,⟨rfl,rfl⟩,hm.sel .nil⟩)
end Go.Proofs.YtlmgelmloddfgaaGreat
namespace Go.Proofs.YtlmgelmloddfgaaGreat
open Go Go.RowKit Eng
section
abbrev BR8 (A:Option Addr) (c n:Nat) (bs:List UInt8):Res:=.row A c n 5 1 ((zag bs).map (.int .u8))
theorem z_u8:∀ w,(zeroValue 5).run Tryz.prog w=.ok (.int .u8 0) w:=fun w=>by kernel_rfl
theorem zay {w:World} {A:Option Addr} {c n:Nat} {bs:List UInt8} (h:(BR8 A c n bs).ok w):BytsIn w A bs:=rowI h
theorem zsL {w:World} {A:Option Addr} {c n:Nat} {bs:List UInt8} (h:(BR8 A c n bs).ok w):n=bs.length:=by
 have:=h.1
 rw [List.length_map,zaf,Nat.mul_one] at this
 exact this.symm
def leB (x:Nat):Nat→List UInt8
 | 0=>[]
 | n+1=>UInt8.ofNat (x%256)::leB (x/256) n
theorem zad:∀ (n x:Nat),(leB x n).length=n
 | 0,_=>rfl
 | n+1,x=>by rw [leB,List.length_cons,zad]
theorem zkL:∀ (n x:Nat),leB x (n+1)=leB x n++[UInt8.ofNat (x/256 ^ n%256)]
 | 0,x=>by simp [leB]
 | n+1,x=>by
  rw [leB,zkL n (x/256),leB,List.cons_append,Nat.div_div_eq_div_mul,Nat.pow_succ,Nat.mul_comm 256]
def setB (bs:List UInt8) (at_:Nat) (ys:List UInt8):List UInt8:=bs.take at_++ys++bs.drop (at_+ys.length)
theorem zuf (bs:List UInt8) (at_:Nat):setB bs at_ []=bs:=by unfold setB;simp
theorem zrg {bs:List UInt8} {at_:Nat} {ys:List UInt8} (v:UInt8) (h:at_+ys.length<bs.length):(setB bs at_ ys).set (at_+ys.length) v=setB bs at_ (ys++[v]):=by
 unfold setB
 have h1:(bs.take at_++ys).length=at_+ys.length:=by simp;omega
 rw [List.set_append,if_neg (by omega),h1,Nat.sub_self]
 obtain ⟨b,r,hr⟩:∃ b r,bs.drop (at_+ys.length)=b::r:=by
  cases hd:bs.drop (at_+ys.length) with
  | nil=>have:=congrArg List.length hd;simp at this;omega
  | cons b r=>exact⟨b,r,rfl⟩
 have hr2:bs.drop (at_+(ys++[v]).length)=r:=by
  have:=congrArg (List.drop 1) hr
  rw [List.drop_drop] at this
  simpa [Nat.add_assoc] using this
 rw [hr,hr2,List.set_cons_zero]
 simp
theorem zpO (ys:List UInt8) (i:Nat) (v:UInt8):((zag (ys.set i v)).map (Value.int .u8))=((zag ys).map (Value.int .u8)).set i (.int .u8 (v.toNat:Int)):=by
 unfold zag;rw [List.map_set,List.map_set]
theorem zv6 (x:Nat):IntKind.u8.wrap (x:Int)=((UInt8.ofNat (x%256)).toNat:Int):=by
 rw [UInt8.toNat_ofNat']
 show (x:Int)%256=_
 omega
def zhk (l:Nat) (at_ most:Int):Int:=if most<0∨1048576<most then 2 else if zpV l at_ (4+most) then 0 else 4
attribute [local irreducible] Br Rn RnU Cl RdG CpG Ld Rd Lp Dr Oth Cut fin Fits Eng.Enters Md NA
theorem zhj:Eng.Enters Tryz.prog 127:=zab fun _ _=>by kernel_rfl
theorem zja:Eng.Enters Tryz.prog 128:=zab fun _ _=>by kernel_rfl
theorem zlj:Eng.Enters Tryz.prog 86:=zab fun _ _=>by kernel_rfl
theorem zfI:Eng.Enters Tryz.prog 131:=zab fun _ _=>by kernel_rfl
theorem zi4:Eng.Enters Tryz.prog 132:=zab fun _ _=>by kernel_rfl
theorem zmp (A:Option Addr) (l c:Nat) (at_ most:Int) (w:World) (hl:l≤140737488355328) (hm:-140737488355328≤most∧most≤140737488355328) :
  Calls Tryz.prog 127 #[.slice A l c,.int .i64 at_,.int .i64 most] w fun e w'=>e=.returned (.int .i64 (zhk l at_ most))∧Fr (fun _=>False) w w':=by
 refine enter (cx:=CX 21 [] w) [(0,.slice A l c),(1,.int .i64 at_),(2,.int .i64 most)] zaa Tryz.func127 rfl rfl rfl rfl (MemOk.nil w _) ?_
 refine gGw ?_
 refine br (fun h=>?_) (fun h=>?_)
 ·refine gGw ?_
  refine fin1 rfl rfl (fun w' hm=>⟨?_,hm.fr⟩)
  simp only [Bool.or_eq_true,decide_eq_true_eq] at h
  rw [zhk,if_pos h]
 ·simp only [Bool.or_eq_false_iff,decide_eq_false_iff_not] at h
  refine gGw ?_
  refine⟨zfU,zae _ (fun w' _=>zkJ A l c at_ (4+most) w' hl (by omega)) ?_⟩
  refine gGw ?_
  refine br_n (br (fun hl=>?_) (fun hl=>?_))
  ·refine gGw ?_
   refine fin1 rfl rfl (fun w' hm=>⟨?_,hm.fr⟩)
   rw [zhk,if_neg (by omega),hl];rfl
  ·refine gGw ?_
   refine fin1 rfl rfl (fun w' hm=>⟨?_,hm.fr⟩)
   rw [zhk,if_neg (by omega),hl];rfl
def zg6 (l:List UInt8):Bool:=l.all fun x=>x == 0
theorem zerosB_iff {l:List UInt8}:zg6 l=true↔∀ i,i<l.length→l.getD i 0=0:=by
 unfold zg6
 rw [List.all_eq_true]
 constructor
 ·intro h i hi
  have:=h _ (List.getElem_mem hi)
  rw [List.getD_eq_getElem?_getD,List.getElem?_eq_getElem hi]
  simpa using this
 ·intro h x hx
  obtain ⟨i,hi,rfl⟩:=List.getElem_of_mem hx
  have:=h i hi
  rw [List.getD_eq_getElem?_getD,List.getElem?_eq_getElem hi] at this
  simpa using this
theorem zqF {l:List UInt8} {i:Nat} (hi:i<l.length) (h:l.getD i 0≠0):zg6 l=false:=by
 rw [← Bool.not_eq_true,zerosB_iff]
 exact fun h2=>h (h2 i hi)
theorem u8_zero {x:UInt8}:(x.toNat:Int)=0↔x=0:=by
 constructor
 ·intro h;apply UInt8.toNat_inj.1;simpa using h
 ·rintro rfl;rfl
theorem zne (bs:List UInt8) (A:Option Addr) (c lo hi:Nat) (w:World) (hb:BytsIn w A bs) (hc:bs.length≤c) (hl:bs.length≤140737488355328) (h1:lo≤hi) (h2:hi≤bs.length) (h0:0<bs.length) :
  Calls Tryz.prog 128 #[.slice A bs.length c,.int .i64 (lo:Int),.int .i64 (hi:Int)] w fun e w'=>e=.returned (.tuple #[.bool (zg6 ((bs.drop lo).take (hi-lo))),.int .i64 0])∧Fr (fun _=>False) w w':=by
 have hsub:BytsIn w (cutA A c lo 1) ((bs.drop lo).take (hi-lo)):=BytsIn.sub hb c lo _ (by omega) hc
 have hpl:Pl A:=(BytsIn.byts (cx:=CX 37 [] w) (m:=[]) hb (fun _ h=>h)).plain h0
 have hyl:((bs.drop lo).take (hi-lo)).length=hi-lo:=by rw [List.length_take,List.length_drop];omega
 refine enter (cx:=CX 37 [] w) [(0,.slice A bs.length c),(1,.int .i64 (lo:Int)),(2,.int .i64 (hi:Int))] zaa Tryz.func128 rfl rfl rfl rfl (MemOk.nil w _) ?_
 have hy:=fun m=>BytsIn.byts (cx:=CX 37 [] w) (m:=m) hsub (fun _ h=>h)
 generalize (bs.drop lo).take (hi-lo)=ys at hsub hyl hy ⊢
 conv=>whnf
 refine zdd zaa ?_
 refine gGw ?_
 refine br_f (by rw [decide_eq_false (by omega),decide_eq_false (by omega),decide_eq_false (by omega)];rfl) ?_
 refine gGw ?_
 refine And.intro ⟨by omega,by omega,by omega,.inr hpl⟩ ?_
 refine gGw ?_
 rw [show (hi:Int).toNat-(lo:Int).toNat=ys.length by omega,Int.toNat_natCast]
 refine lp zaa (γ:=Nat) (fun i=>i≤ys.length∧∀ j,j<i→ys.getD j 0=0) (fun i=>[(29,.int .i64 (i:Int)),(28,.int .i64 (ys.length:Int)),(27,.slice (cutA A c lo 1) ys.length (c-lo)),(8,.bool true)]) (fun _=>[]) (fun i=>ys.length-i) 0 ⟨by omega,fun j hj=>by omega⟩ ⟨rfl,rfl,rfl,rfl,trivial⟩ (SubM.refl _ _) ?_
 rintro i ⟨hi,hj⟩
 dsimp only
 conv=>whnf
 refine br_d (fun hlt=>?_) (fun hge=>?_)
 ·have hlt':i<ys.length:=by omega
  have hpl2:Pl (cutA A c lo 1):=(hy []).plain (by omega)
  refine gGw ?_
  refine And.intro ⟨by omega,by omega,hpl2⟩ ?_
  conv=>whnf
  refine zai ((hy _).ld zaa rfl rfl (j:=i) (by omega)) ?_
  refine gGw ?_
  refine br_n (br_d (fun hz=>?_) (fun hz=>?_))
  ·refine gGw ?_
   refine⟨i+1,⟨by omega,fun j hj2=>?_⟩,by omega,⟨rfl,rfl,rfl,rfl,trivial⟩,SubM.refl _ _⟩
   by_cases h:j=i
   ·rw [h];exact u8_zero.1 hz
   ·exact hj j (by omega)
  ·refine gGw ?_
   refine fin2 rfl rfl rfl (fun w' hm=>⟨?_,hm.fr⟩)
   rw [zqF hlt' (fun h=>hz (u8_zero.2 h))]
 ·have hil:i=ys.length:=by omega
  subst hil
  refine gGw ?_
  refine fin2 rfl rfl rfl (fun w' hm=>⟨?_,hm.fr⟩)
  rw [zerosB_iff.2 hj]
def zdP (bs:List UInt8) (at_ most:Nat):ByteArray × Int :=
 if getV bs at_ 4≤most∧zg6 ((bs.drop (at_+4+getV bs at_ 4)).take (most-getV bs at_ 4))=true then (Str ((bs.drop (at_+4)).take (getV bs at_ 4)),0) else (Str [],110)
theorem zqI (bs:List UInt8) (A:Option Addr) (c at_ most:Nat) (w:World) (hb:BytsIn w A bs) (hc:bs.length≤c) (hl:bs.length≤140737488355328) (h1:most≤1048576) (h2:at_+4+most≤bs.length) :
  Calls Tryz.prog 86 #[.slice A bs.length c,.int .i64 (at_:Int),.int .i64 (most:Int)] w fun e w'=>e=.returned (.tuple #[.string (zdP bs at_ most).1,.int .i64 (zdP bs at_ most).2])∧Fr (fun _=>False) w w':=by
 have hpl:Pl A:=(BytsIn.byts (cx:=CX 54 [] w) (m:=[]) hb (fun _ h=>h)).plain (by omega)
 have hF:∀ w',Fr (fun _=>False) w w'→BytsIn w' A bs:=fun w' hf=>Byts.in_ (BytsIn.byts (cx:=CX 54 [] w) (m:=[]) hb (fun _ h=>h)) ((MemOk.nil w _).same hf)
 refine enter (cx:=CX 54 [] w) [(0,.slice A bs.length c),(1,.int .i64 (at_:Int)),(2,.int .i64 (most:Int))] zaa Tryz.func86 rfl rfl rfl rfl (MemOk.nil w _) ?_
 have eF:zhk bs.length at_ most=0:=by
  rw [zhk,if_neg (by omega),liesB_iff.2 ⟨by omega,by omega,by omega⟩];rfl
 have eG:getF bs at_ 4=(getV bs at_ 4,0):=by
  rw [getF,if_neg (by omega),liesB_iff.2 ⟨by omega,by omega,by omega⟩,if_pos rfl,Int.toNat_natCast];rfl
 have hv:getV bs at_ 4<4294967296:=by
  have:=zjG ((bs.drop at_).take 4)
  have h4:((bs.drop at_).take 4).length=4:=by rw [List.length_take,List.length_drop];omega
  rw [h4] at this
  exact this
 refine gGw ?_
 refine⟨zhj,zae _ (fun w' _=>zmp A bs.length c at_ most w' hl (by omega)) ?_⟩
 rw [eF]
 refine gGw ?_
 refine br_n (br_t rfl ?_)
 refine gGw ?_
 refine⟨zfj,zae _ (fun w' hm=>zkV bs A c at_ 4 w' (hF w' hm.fr) hl (by omega)) ?_⟩
 rw [eG]
 unfold zdP
 generalize getV bs at_ 4=v at hv ⊢
 refine gGw ?_
 refine br_d (fun hgt=>?_) (fun hle=>?_)
 ·refine gGw ?_
  refine fin2 rfl rfl rfl (fun w' hm=>⟨?_,hm.fr⟩)
  rw [if_neg (by omega)]
 ·have e1:(at_:Int)+4+(v:Int)=((at_+4+v:Nat):Int):=by push_cast;rfl
  have e2:(at_:Int)+4+(most:Int)=((at_+4+most:Nat):Int):=by push_cast;rfl
  refine gGw ?_
  rw [e1,e2]
  refine⟨zja,zae _ (fun w' hm=>zne bs A c (at_+4+v) (at_+4+most) w' (hF w' hm.fr) hc hl (by omega) (by omega) (by omega)) ?_⟩
  rw [show at_+4+most-(at_+4+v)=most-v by omega]
  refine gGw ?_
  refine br_n (br (fun hz=>?_) (fun hz=>?_))
  ·refine gGw ?_
   refine And.intro ⟨by omega,by omega,by omega,.inr hpl⟩ ?_
   conv=>whnf
   have hvl:((bs.drop (at_+4)).take v).length=v:=by rw [List.length_take,List.length_drop];omega
   rw [show ((at_+4+v:Nat):Int).toNat-((at_:Int)+4).toNat=((bs.drop (at_+4)).take v).length by omega,show ((at_:Int)+4).toNat=at_+4 by omega]
   refine Rd.n (zcy (bs:=(bs.drop (at_+4)).take v) zaa rfl rfl rfl rfl rfl rfl (BytsIn.byts (BytsIn.sub hb c (at_+4) v (by omega) hc) (fun _ h=>h)) _) ?_
   refine gGw ?_
   refine fin2 rfl rfl rfl (fun w' hm=>⟨?_,hm.fr⟩)
   rw [if_pos ⟨by omega,hz⟩]
  ·refine gGw ?_
   refine fin2 rfl rfl rfl (fun w' hm=>⟨?_,hm.fr⟩)
   rw [if_neg (fun h=>by rw [h.2] at hz;cases hz)]
def SetR (A:Option Addr) (c:Nat) (bs:List UInt8) (at_ n x:Nat) (e:Ending) (m':Mem):Prop:=e=.returned (.int .i64 0)∧m'=[BR8 A c bs.length (setB bs at_ (leB x n))]
theorem znS (bs:List UInt8) (A:Option Addr) (c at_ n x:Nat) (w:World) (hl:bs.length≤140737488355328) (hn:1≤n∧n≤8) (hfit:at_+n≤bs.length) (hx:x<256 ^ n) (hm:MemOk w (Foot [BR8 A c bs.length bs]) [BR8 A c bs.length bs] w) :
  Ctr Tryz.prog 131 [.slice A bs.length c,.int .i64 (at_:Int),.int .i64 (n:Int),.int .u64 (x:Int)] [BR8 A c bs.length bs] (SetR A c bs at_ n x) w:=by
 refine enter (cx:=CXS 47 [42] w (Foot [BR8 A c bs.length bs])) [(0,.slice A bs.length c),(1,.int .i64 (at_:Int)),(2,.int .i64 (n:Int)),(3,.int .u64 (x:Int))] zaa Tryz.func131 rfl rfl rfl rfl hm ?_
 have hpl:Pl A:=zcV (hm.ok _ (List.mem_cons_self ..)) (by omega)
 have hx8:x<18446744073709551616:=by
  have:256 ^ n≤256 ^ 8:=Nat.pow_le_pow_right (by omega) hn.2
  have:(256:Nat) ^ 8=18446744073709551616:=by decide
  omega
 have eL:zpV bs.length at_ n=true:=liesB_iff.2 ⟨by omega,by omega,by omega⟩
 refine gGw ?_
 refine br_f (by rw [decide_eq_false (by omega),decide_eq_false (by omega)];rfl) ?_
 refine gGw ?_
 refine⟨zfU,zae _ (fun w' _=>zkJ A bs.length c at_ n w' hl (by omega)) ?_⟩
 rw [eL]
 refine gGw ?_
 refine br_n (br_t rfl ?_)
 refine gGw ?_
 have e256:(256:Nat) ^ n=2 ^ (8*n):=by rw [show (256:Nat)=2 ^ 8 from rfl,← Nat.pow_mul]
 have hxz:(x:Int)/2 ^ Int.toNat (8*(n:Int))=0:=by
  rw [show Int.toNat (8*(n:Int))=8*n by omega]
  refine Int.ediv_eq_zero_of_lt (by omega) ?_
  have:(x:Int)<((2 ^ (8*n):Nat):Int):=Int.ofNat_lt.2 (by omega)
  push_cast at this
  exact this
 refine And.intro (fun _=>⟨by omega,show 8*(n:Int)≤(64:Int) by omega⟩) ?_
 refine gGw ?_
 refine br_f (by rw [hxz];simp) ?_
 refine gGw ?_
 refine lp zaa (γ:=Nat) (fun i=>i≤n) (fun i=>[(34,.int .i64 (i:Int)),(33,.int .i64 (n:Int)),(3,.int .u64 ((x/256 ^ i:Nat):Int)),(0,.slice A bs.length c),(1,.int .i64 (at_:Int))]) (fun i=>[BR8 A c bs.length (setB bs at_ (leB x i))]) (fun i=>n-i) 0 (by omega)
  ⟨rfl,rfl,by rw [Nat.pow_zero,Nat.div_one];rfl,rfl,rfl,trivial⟩ (by rw [show leB x 0=[] from rfl,zuf];exact SubM.refl _ _) ?_
 rintro i hi
 dsimp only
 conv=>whnf
 refine br_d (fun hlt=>?_) (fun hge=>?_)
 ·have hlt':i<n:=by omega
  have hll:=zad i x
  have hsn:=zkL i x
  have hset:=zrg (bs:=bs) (at_:=at_) (ys:=leB x i) (UInt8.ofNat (x/256 ^ i%256)) (by omega)
  rw [hll,← hsn] at hset
  have hxi:x/256 ^ i<18446744073709551616:=Nat.lt_of_le_of_lt (Nat.div_le_self _ _) hx8
  have hnx:x/256 ^ (i+1)=x/256 ^ i/256:=by rw [Nat.pow_succ,Nat.div_div_eq_div_mul]
  refine gGw ?_
  refine And.intro ⟨by omega,by omega,hpl⟩ ?_
  conv=>whnf
  refine zaw (off:=at_+i) (xs':=(zag (setB bs at_ (leB x (i+1)))).map (.int .u8)) zaa rfl .here rfl rfl (by show at_+i+1≤bs.length*1;omega) (Nat.one_pos) (by rw [← hset,zpO,← zv6];rfl) ?_
  refine gGw ?_
  refine⟨i+1,by omega,by omega,⟨rfl,rfl,?_,rfl,rfl,trivial⟩,SubM.refl _ _⟩
  refine congrArg (fun x=>some (Value.int .u64 x)) ?_
  rw [hnx]
  generalize x/256 ^ i=y
  show (y:Int)/256=_
  omega
 ·have hin:i=n:=by omega
  subst hin
  refine gGw ?_
  exact fin1 rfl rfl (fun w' hm=>⟨_,⟨rfl,rfl⟩,hm⟩)
end
section
attribute [local irreducible] Br Rn RnU Cl RdG CpG Ld Rd Lp Dr Oth Cut fin Fits Eng.Enters Md NA
theorem zef:Eng.Enters Tryz.prog 34:=zab fun _ _=>by kernel_rfl
theorem zbH:Eng.Enters Tryz.prog 119:=zab fun _ _=>by kernel_rfl
theorem ze9:Eng.Enters Tryz.prog 120:=zab fun _ _=>by kernel_rfl
theorem zbi:Eng.Enters Tryz.prog 73:=zab fun _ _=>by kernel_rfl
theorem zdv:Eng.Enters Tryz.prog 74:=zab fun _ _=>by kernel_rfl
theorem zfu:Eng.Enters Tryz.prog 33:=zab fun _ _=>by kernel_rfl
theorem zuT {bs:List UInt8} {i:Nat} (h:i<bs.length):leV (bs.drop i)=(bs.getD i 0).toNat+256*leV (bs.drop (i+1)):=by
 rw [List.drop_eq_getElem_cons h,leV,List.getD_eq_getElem?_getD,List.getElem?_eq_getElem h];rfl
theorem zgL (bs:List UInt8) (A:Option Addr) (c:Nat) (w:World) (hb:BytsIn w A bs) (hl:bs.length≤8) :
  Calls Tryz.prog 34 #[.slice A bs.length c] w fun e w'=>e=.returned (.int .u64 (leV bs:Nat))∧Fr (fun _=>False) w w':=by
 refine enter (cx:=CX 21 [] w) [(0,.slice A bs.length c)] zaa Tryz.func34 rfl rfl rfl rfl (MemOk.nil w _) ?_
 have h1:=fun m=>BytsIn.byts (cx:=CX 21 [] w) (m:=m) hb (fun _ h=>h)
 refine gGw ?_
 refine lp zaa (γ:=Nat) (fun i=>i≤bs.length) (fun i=>[(4,.int .i64 ((i:Int)-1)),(3,.int .u64 (leV (bs.drop i):Nat)),(0,.slice A bs.length c)]) (fun _=>[]) (fun i=>i) bs.length (Nat.le_refl _)
  ⟨rfl,by rw [List.drop_of_length_le (Nat.le_refl _)];rfl,rfl,trivial⟩ (SubM.refl _ _) ?_
 rintro i hi
 dsimp only
 refine gGw ?_
 refine br_d (fun hge=>?_) (fun hlt=>?_)
 ·obtain ⟨j,rfl⟩:∃ j,i=j+1:=⟨i-1,by omega⟩
  have ej:((j+1:Nat):Int)-1=(j:Int):=by omega
  have hv:=znn (l:=bs.drop (j+1)) (by rw [List.length_drop];omega)
  have hs:=zuT (bs:=bs) (i:=j) (by omega)
  have hb8:=(bs.getD j 0).toNat_lt
  have hpl:Pl A:=(h1 []).plain (by omega)
  rw [ej]
  refine gGw ?_
  refine And.intro ⟨by omega,by omega,hpl⟩ ?_
  conv=>whnf
  refine zai ((h1 _).ld zaa rfl rfl (j:=j) (by omega)) ?_
  refine gGw ?_
  refine⟨j,by omega,by omega,⟨rfl,?_,rfl,trivial⟩,SubM.refl _ _⟩
  refine congrArg (fun x=>some (Value.int .u64 x)) ?_
  rw [hs];push_cast;omega
 ·have hi0:i=0:=by omega
  subst hi0
  refine gGw ?_
  exact fin1 rfl rfl (fun w' hm=>⟨rfl,hm.fr⟩)
theorem zwK {n:Nat} (h:n≤60):1≤(2:Int) ^ n∧(2:Int) ^ n≤1152921504606846976:=by
 have h1:(2:Nat) ^ n≤2 ^ 60:=Nat.pow_le_pow_right (by omega) h
 have h2:0<2 ^ n:=Nat.two_pow_pos n
 have h3:(2:Nat) ^ 60=1152921504606846976:=by decide
 have e:(2:Int) ^ n=((2 ^ n:Nat):Int):=by push_cast;rfl
 rw [e];omega
theorem zcM (bits:Int) (w:World) (hb:bits≤60) :
  Calls Tryz.prog 119 #[.int .i64 bits] w fun e w'=>e=.returned (.int .i64 (clus bits))∧Fr (fun _=>False) w w':=by
 refine enter (cx:=CX 13 [] w) [(0,.int .i64 bits)] zaa Tryz.func119 rfl rfl rfl rfl (MemOk.nil w _) ?_
 refine gGw ?_
 refine lp zaa (γ:=Nat) (fun i=>i≤bits.toNat) (fun i=>[(4,.int .i64 (i:Int)),(3,.int .i64 (2 ^ i)),(0,.int .i64 bits)]) (fun _=>[]) (fun i=>bits.toNat-i) 0 (by omega) ⟨rfl,rfl,rfl,trivial⟩ (SubM.refl _ _) ?_
 rintro i hi
 dsimp only
 refine gGw ?_
 refine br_d (fun hlt=>?_) (fun hge=>?_)
 ·have hp:=zwK (n:=i) (by omega)
  refine gGw ?_
  refine⟨i+1,by omega,by omega,⟨rfl,?_,rfl,trivial⟩,SubM.refl _ _⟩
  refine congrArg (fun x=>some (Value.int .i64 x)) ?_
  rw [Int.pow_succ,Int.mul_comm]
 ·have hi2:i=bits.toNat:=by omega
  subst hi2
  refine gGw ?_
  exact fin1 rfl rfl (fun w' hm=>⟨rfl,hm.fr⟩)
def upF' (a b:Int):Int:=if a.tmod b=0 then a.tdiv b else a.tdiv b+1
theorem zkl (a b:Int) (w:World) (ha:-4611686018427387904≤a∧a≤4611686018427387904) (hb:1≤b) :
  Calls Tryz.prog 120 #[.int .i64 a,.int .i64 b] w fun e w'=>e=.returned (.int .i64 (upF' a b))∧Fr (fun _=>False) w w':=by
 have hd:=zmI (c:=b) (by omega) ha
 have e1:IntKind.i64.wrap (a.tdiv b)=a.tdiv b:=IntWalk.i64_in _ (by omega)
 refine enter (cx:=CX 16 [] w) [(0,.int .i64 a),(1,.int .i64 b)] zaa Tryz.func120 rfl rfl rfl rfl (MemOk.nil w _) ?_
 refine gGw ?_
 refine br_d (fun h=>?_) (fun h=>?_)
 ·refine gGw ?_
  rw [e1]
  refine fin1 rfl rfl (fun w' hm=>⟨?_,hm.fr⟩)
  rw [upF',if_pos h]
 ·refine gGw ?_
  rw [e1]
  refine gG0 ?_
  refine fin1 rfl rfl (fun w' hm=>⟨?_,hm.fr⟩)
  rw [upF',if_neg h]
theorem zvj (bits:Int):1≤clus bits:=by
 unfold clus
 have:(0:Int)<2 ^ bits.toNat:=Int.pow_pos (by omega)
 omega
end
section
theorem ze7 (X R ys:List UInt8):setB (X++R) X.length ys=X++ys++R.drop ys.length:=by
 unfold setB
 rw [List.take_left',List.drop_append,List.drop_of_length_le (by omega),Nat.add_sub_cancel_left,List.nil_append]
 rfl
theorem zfO (bs ys:List UInt8) (off:Nat) (h:off+ys.length≤bs.length):zbp off ((zag ys).map (Value.int .u8)) ((zag bs).map (.int .u8))=(zag (setB bs off ys)).map (.int .u8):=by
 rw [zaN _ _ _ (by rw [List.length_map,List.length_map,zaf,zaf];exact h)]
 unfold setB zag
 simp only [List.map_append,List.map_take,List.map_drop,List.length_map]
theorem zgA (k:Nat):List.replicate k (Value.int .u8 0)=(zag (List.replicate k (0:UInt8))).map (.int .u8):=by
 unfold zag
 rw [List.map_replicate,List.map_replicate];rfl
attribute [local irreducible] Br Rn RnU Cl RdG CpG Ld Rd Lp Dr Oth Cut fin Fits Eng.Enters Md NA
theorem zmS (X R:List UInt8) (A:Option Addr) (c most:Nat) (s:ByteArray) (w:World) (hl:X.length+R.length≤100000000) (hs:s.size≤most) (h1:1≤most∧most≤1048576) (h2:4+most≤R.length) (hm:MemOk w (Foot [BR8 A c (X++R).length (X++R)]) [BR8 A c (X++R).length (X++R)] w) :
  Ctr Tryz.prog 132 [.slice A (X++R).length c,.int .i64 (X.length:Int),.int .i64 (most:Int),.string s] [BR8 A c (X++R).length (X++R)] (fun e m'=>e=.returned (.int .i64 0)∧m'=[BR8 A c (X++R).length (X++leB s.size 4++s.data.toList++List.replicate (most-s.size) 0++R.drop (4+most))]) w:=by
 have hxr:(X++R).length=X.length+R.length:=List.length_append
 have hsl:s.data.toList.length=s.size:=rfl
 refine enter (cx:=CXS 40 [] w (Foot [BR8 A c (X++R).length (X++R)])) [(0,.slice A (X++R).length c),(1,.int .i64 (X.length:Int)),(2,.int .i64 (most:Int)),(3,.string s)] zaa Tryz.func132 rfl rfl rfl rfl hm ?_
 have hpl:Pl A:=zcV (hm.ok _ (List.mem_cons_self ..)) (by omega)
 have hcap:(X++R).length≤c:=zeJ (hm.ok _ (List.mem_cons_self ..))
 have hs4:s.size<256 ^ 4:=Nat.lt_of_le_of_lt (show s.size≤1048576 by omega) (by decide)
 have eF:zhk (X++R).length X.length most=0:=by
  unfold zhk
  rw [if_neg (by omega),if_pos (liesB_iff.2 ⟨by omega,by omega,by omega⟩)]
 refine gGw ?_
 refine⟨zhj,zae _ (fun w' _=>zmp A (X++R).length c X.length most w' (by omega) (by omega)) ?_⟩
 rw [eF]
 refine gGw ?_
 refine br_n (br_t rfl ?_)
 refine gGw ?_
 refine br_f (decide_eq_false (by omega)) ?_
 refine gGw ?_
 refine⟨zfI,zac (m1:=[BR8 A c (X++R).length (X++R)]) (by repeat constructor) (fun w' hm'=>znS (X++R) A c X.length 4 s.size w' (by omega) (by omega) (by omega) hs4 hm'.part) ?_⟩
 rintro e m' ⟨rfl,rfl⟩
 rw [ze7,zad]
 have hA:(X++leB s.size 4).length=X.length+4:=by rw [List.length_append,zad]
 have hD:(R.drop 4).length=R.length-4:=List.length_drop
 generalize hY:X++leB s.size 4=Y at hA ⊢
 refine gGw ?_
 refine And.intro ⟨by omega,by omega,by omega,.inr hpl⟩ ?_
 refine gGw ?_
 have hcut:cutA A c ((X.length:Int)+4).toNat ty5.cells=pl A (X.length+4):=by
  show cutA A c ((X.length:Int)+4).toNat 1=_
  rw [show ((X.length:Int)+4).toNat=X.length+4 by omega]
  unfold cutA
  rw [if_neg (by omega),zcp,Nat.mul_one]
 have hlen:((X.length:Int)+4+most).toNat-((X.length:Int)+4).toNat=most:=by omega
 rw [hcut,hlen]
 refine zof (off:=X.length+4) zaa rfl rfl .here (fun _=>rfl) (z:=.int .u8 0) z_u8 rfl rfl (by omega) ?_
 rw [zgA,zfO _ _ _ (by rw [List.length_append,List.length_replicate];omega)]
 have e1:setB (Y++R.drop 4) (X.length+4) (List.replicate most 0)=Y++List.replicate most 0++R.drop (4+most):=by
  rw [← hA,ze7,List.length_replicate,List.drop_drop]
 rw [e1]
 refine gGw ?_
 refine zoe (off:=X.length+4) zaa rfl rfl rfl rfl .here rfl hs (by omega) ?_
 rw [zfO _ _ _ (by rw [List.length_append,List.length_append,List.length_replicate,List.length_drop];omega)]
 have e2:setB (Y++List.replicate most 0++R.drop (4+most)) (X.length+4) s.data.toList=Y++s.data.toList++List.replicate (most-s.size) 0++R.drop (4+most):=by
  rw [← hA,List.append_assoc,ze7,hsl,List.drop_append,List.drop_replicate,List.length_replicate,show s.size-most=0 by omega,List.drop_zero]
  simp only [List.append_assoc]
 rw [e2,← hY]
 refine gGw ?_
 exact fin1 rfl rfl (fun w' hm=>⟨_,⟨rfl,rfl⟩,hm⟩)
end
def i64w (x:Nat):Int:=IntKind.i64.wrap (x:Int)
def zfY (a b:Int):Int:=(a+b-1)/b
def zqY (h:Hd):Int:=zfY (zfY h.size (clus h.bits)) (clus h.bits/8)
def plB (at_ c:Int):Bool:=decide (0<at_)&&decide (at_≤268435456)&&decide (at_%c=0)
def liOk (n at_ long c:Int):Bool:=if n=0 then decide (at_=0)&&decide (long=0) else decide (0<n)&&decide (n≤64)&&plB at_ c&&decide (1≤long)&&decide (long≤65536)
def mayH (h:Hd):Bool :=
 decide (9≤h.bits)&&decide (h.bits≤16)&&decide (h.flags≤1)&&decide (0≤h.size)&&decide (h.size≤67108864)&&decide (h.size%512=0) &&
 (decide (0≤h.l1len)&&decide (h.l1len≤1048576)&&decide (zqY h≤h.l1len)) &&
 ((decide (h.l1len=0)&&decide (h.l1=0))||(decide (0<h.l1len)&&plB h.l1 (clus h.bits))) &&
 (decide (0≤h.order)&&decide (h.order≤6)) &&
 (plB h.counts (clus h.bits)&&decide (1≤h.countsLen)&&decide (h.countsLen≤65536)) &&
 liOk h.snaps h.snapsAt h.snapsLen (clus h.bits)&&liOk h.bitmaps h.bitmapsAt h.bitmapsLen (clus h.bits) &&
 (decide (h.backing.size≤64)&&h.backing.data.toList.all fun x=>!(x == 0))
def ziy:List UInt8:=[80,65,76,49]
def zdB (h:Hd):List (Nat × Int) :=
 [(4,h.bits),(8,h.flags),(8,h.size),(8,h.l1),(4,h.l1len),(4,h.order),(8,h.counts),(4,h.countsLen),(4,h.snaps),(8,h.snapsAt),(4,h.snapsLen),(4,h.bitmaps),(8,h.bitmapsAt),(4,h.bitmapsLen)]
def zl7 (l:List (Nat × Int)):List UInt8:=l.flatMap fun q=>leB q.2.toNat q.1
def za7 (h:Hd):List UInt8:=ziy++zl7 (zdB h)++leB h.backing.size 4++h.backing.data.toList++List.replicate (424-h.backing.size) 0
section
theorem zon (a c:Int):(decide (0<a)&&decide (a≤268435456)&&decide (a.tmod c=0))=plB a c:=by
 unfold plB
 by_cases h:0<a
 ·rw [Int.tmod_eq_emod_of_nonneg (by omega)]
 ·rw [decide_eq_false h];rfl
attribute [local irreducible] Br Rn RnU Cl RdG CpG Ld Rd Lp Dr Oth Cut fin Fits Eng.Enters Md NA
theorem zcr:Eng.Enters Tryz.prog 161:=zab fun _ _=>by kernel_rfl
theorem zci:Eng.Enters Tryz.prog 162:=zab fun _ _=>by kernel_rfl
theorem ziG:Eng.Enters Tryz.prog 192:=zab fun _ _=>by kernel_rfl
theorem zme:Eng.Enters Tryz.prog 163:=zab fun _ _=>by kernel_rfl
theorem zd0 (a cc:Int) (cB:Nat) (w:World) (hc:w.cell? ⟨cB,0,none⟩=some (.int .i64 cc)) (h0:0<cc) :
  Calls Tryz.prog 161 #[.int .i64 a,.pointer (some ⟨cB,0,none⟩)] w fun e w'=>e=.returned (.bool (plB a cc))∧Fr (fun _=>False) w w':=by
 refine enter (cx:=CX 16 [] w) [(0,.int .i64 a),(1,.pointer (some ⟨cB,0,none⟩))] zaa Tryz.func161 rfl rfl rfl rfl (MemOk.nil w _) ?_
 refine gGw ?_
 refine⟨_,(ldF zaa hc (fun h=>h) rfl rfl).g,?_⟩
 refine gGw ?_
 exact fin1 rfl rfl (fun w' hm=>⟨by rw [zon],hm.fr⟩)
theorem zoJ (a b:Int) (w:World) (ha:0≤a∧a≤4611686018427387904) (hb:1≤b∧b≤1048576) :
  Calls Tryz.prog 192 #[.int .i64 a,.int .i64 b] w fun e w'=>e=.returned (.int .i64 (zfY a b))∧Fr (fun _=>False) w w':=by
 refine enter (cx:=CX 11 [] w) [(0,.int .i64 a),(1,.int .i64 b)] zaa Tryz.func192 rfl rfl rfl rfl (MemOk.nil w _) ?_
 refine gGw ?_
 have hq:(a+b-1).tdiv b=zfY a b:=by rw [Int.tdiv_eq_ediv_of_nonneg (by omega)];rfl
 have hb1:0≤zfY a b:=Int.ediv_nonneg (by omega) (by omega)
 have hb2:zfY a b≤a+b-1:=Int.ediv_le_self _ (by omega)
 rw [hq,IntWalk.i64_in _ (show _ by omega)]
 exact fin1 rfl rfl (fun w' hm=>⟨rfl,hm.fr⟩)
theorem zc0 {bits:Int} (h:9≤bits∧bits≤16):512≤clus bits∧clus bits≤65536∧clus bits%8=0:=by
 rcases zg0 h with ⟨_,e⟩|⟨_,e⟩|⟨_,e⟩|⟨_,e⟩|⟨_,e⟩|⟨_,e⟩|⟨_,e⟩|⟨_,e⟩<;>rw [e]<;>decide
theorem zr4 (h:Hd) (w:World) (hb:9≤h.bits∧h.bits≤16) (hs:0≤h.size∧h.size≤67108864) :
  Calls Tryz.prog 163 #[.agg h.cells.toArray] w fun e w'=>e=.returned (.int .i64 (zqY h))∧Fr (fun _=>False) w w':=by
 refine enter (cx:=CX 14 [] w) [(0,.agg h.cells.toArray)] zaa Tryz.func163 rfl rfl rfl rfl (MemOk.nil w _) ?_
 have hc:=zc0 hb
 have hcw:IntKind.i64.wrap (1*2 ^ h.bits.toNat)=clus h.bits:=by rw [Int.one_mul];exact IntWalk.i64_in (clus h.bits) (by omega)
 have hd1:0≤zfY h.size (clus h.bits):=Int.ediv_nonneg (by omega) (by omega)
 have hd2:zfY h.size (clus h.bits)≤h.size+clus h.bits-1:=Int.ediv_le_self _ (by omega)
 refine gGw ?_;(repeat ((first|refine .mk fun Ap capp=>?_|intro _);(conv=>whnf);refine gG0 ?_))
 refine And.intro ⟨by omega,by show h.bits≤(64:Int);omega⟩ ?_
 refine gGw ?_
 rw [hcw]
 refine⟨ziG,zae _ (fun w' _=>zoJ h.size (clus h.bits) w' (by omega) (by omega)) ?_⟩
 refine gGw ?_
 have e8:IntKind.i64.wrap ((clus h.bits).tdiv 8)=clus h.bits/8:=by
  rw [Int.tdiv_eq_ediv_of_nonneg (by omega)];exact IntWalk.i64_in _ (by omega)
 rw [e8]
 refine⟨ziG,zae _ (fun w' _=>zoJ (zfY h.size (clus h.bits)) (clus h.bits/8) w' (by omega) (by omega)) ?_⟩
 refine gGw ?_
 exact fin1 rfl rfl (fun w' hm=>⟨rfl,hm.fr⟩)
theorem zd1 (n a long cc:Int) (cB pB:Nat) (w:World) (hc:w.cell? ⟨cB,0,none⟩=some (.int .i64 cc)) (hp:w.cell? ⟨pB,0,none⟩=some (.func (.func 161) #[] #[.pointer (some ⟨cB,0,none⟩)])) (h0:0<cc) :
  Calls Tryz.prog 162 #[.int .i64 n,.int .i64 64,.int .i64 a,.int .i64 long,.pointer (some ⟨pB,0,none⟩)] w fun e w'=>e=.returned (.bool (liOk n a long cc))∧Fr (fun _=>False) w w':=by
 refine enter (cx:=⟨Tryz.prog,38,w,fun _=>False,tab,[],[161],[],[]⟩) [(0,.int .i64 n),(1,.int .i64 64),(2,.int .i64 a),(3,.int .i64 long),(4,.pointer (some ⟨pB,0,none⟩))] zaa Tryz.func162 rfl rfl rfl rfl (MemOk.nil w _) ?_
 refine gGw ?_
 refine br_d (fun hn=>?_) (fun hn=>?_)
 ·have eL:liOk n a long cc=(decide (a=0)&&decide (long=0)):=if_pos hn
  rw [eL]
  refine gGw ?_
  exact fin1 rfl rfl (fun w' hm=>⟨rfl,hm.fr⟩)
 ·have eL:liOk n a long cc=(decide (0<n)&&decide (n≤64)&&plB a cc&&decide (1≤long)&&decide (long≤65536)):=if_neg hn
  rw [eL]
  refine gGw ?_
  refine br (fun ht=>?_) (fun hf=>?_)
  ·rw [ht,Bool.true_and]
   refine gGw ?_
   refine zai (ldF zaa hp (fun h=>h) rfl rfl) ?_
   refine gGw ?_
   refine⟨zcr,zae _ (fun w' hm'=>zd0 a cc cB w' (hm'.far hc (fun h=>h)) h0) ?_⟩
   refine gGw ?_
   exact fin1 rfl rfl (fun w' hm=>⟨rfl,hm.fr⟩)
  ·rw [hf,Bool.false_and,Bool.false_and,Bool.false_and]
   refine gGw ?_
   exact fin1 rfl rfl (fun w' hm=>⟨rfl,hm.fr⟩)
end
end Go.Proofs.YtlmgelmloddfgaaGreat
namespace Go.Proofs.YtlmgelmloddfgaaGreat.Eng
open Go Go.RowKit
section last
variable {P:Program} {ops:Array Oper} {md:Region.Mode} {Q:Exit→Act→World→Prop} {C:World→Prop}
def inB (ops:Array Oper):Bool:=ops.toList.all fun o=>(o.after.toList.all fun e=>Nat.blt e.on ops.size)&&(match o.guard with
 | none=>true
 | some (j,_)=>Nat.blt j ops.size)
theorem zkO (h:inB ops=true) {i:Nat} {o:Oper} (hi:ops[i]?=some o):(∀ e∈o.after,e.on<ops.size)∧∀ j b,o.guard=some (j,b)→j<ops.size:=by
 unfold inB at h
 rw [List.all_eq_true] at h
 have hm:o∈ops.toList:=by
  obtain ⟨hl,he⟩:=Array.getElem?_eq_some_iff.1 hi
  rw [← he];exact Array.getElem_mem_toList hl
 have:=h o hm
 rw [Bool.and_eq_true,List.all_eq_true] at this
 refine⟨fun e he=>Nat.le_of_ble_eq_true (this.1 e (by simpa using he)),fun j b hg=>?_⟩
 have h2:=this.2
 rw [hg] at h2
 exact Nat.le_of_ble_eq_true h2
theorem zio {listed:Array Bool} {j:Nat} (d:Bool) (h:j<listed.size):(listed.push true).getD j d=listed.getD j d:=by
 rw [Array.getD_eq_getD_getElem?,Array.getD_eq_getD_getElem?,Array.getElem?_push_lt h,Array.getElem?_eq_getElem h]
theorem zl0 {listed:Array Bool} {j:Nat} (h:¬ j<listed.size):(listed.push true).getD j true=true:=by
 rw [Array.getD_eq_getD_getElem?,Array.getElem?_push]
 split
 ·rfl
 ·rw [Array.getElem?_eq_none (by omega)];rfl
theorem zjy {z:Oper} (hin:inB ops=true) {listed:Array Bool} (hs:listed.size=ops.size) {j:Nat}:j∈Region.ready md (ops.push z) (listed.push true)↔j∈Region.ready md ops listed:=by
 rw [mem_ready,mem_ready]
 by_cases hj:j<ops.size
 ·rw [zio true (by omega),Array.getElem?_push_lt hj,Array.getElem?_eq_getElem hj]
  refine and_congr_right fun _=>⟨fun ⟨o,ho,h⟩=>⟨o,ho,fun e he hb=>?_⟩,fun ⟨o,ho,h⟩=>⟨o,ho,fun e he hb=>?_⟩⟩
  ·have:=h e he hb
   rwa [zio false (by have:=(zkO hin (i:=j) (by rw [Array.getElem?_eq_getElem hj];exact ho)).1 e he;omega)] at this
  ·rw [zio false (by have:=(zkO hin (i:=j) (by rw [Array.getElem?_eq_getElem hj];exact ho)).1 e he;omega)]
   exact h e he hb
 ·constructor
  ·rintro ⟨h,_⟩
   rw [zl0 (by omega)] at h;cases h
  ·rintro ⟨_,o,ho,_⟩
   rw [Array.getElem?_eq_none (by omega)] at ho;cases ho
theorem zqK {z:Oper} (hin:inB ops=true) {i:Nat} (hi:i<ops.size) {K:Act→World→Prop} {a:Act} {w:World} (h:wpOp P ops Q i K a w):wpOp P (ops.push z) Q i K a w:=by
 have e1:(ops.push z)[i]?=ops[i]?:=by rw [Array.getElem?_push_lt hi,Array.getElem?_eq_getElem hi]
 have e0:=Array.getElem?_eq_getElem hi
 have hg:=(zkO hin e0).2
 unfold wpOp at *
 simp only [e1,e0] at h ⊢
 have e2:Region.wanted ops[i] (yielded (ops.push z) a.tmps)=Region.wanted ops[i] (yielded ops a.tmps):=by
  unfold Region.wanted
  split
  ·rfl
  ·rename_i j b hgg
   have hj:=hg j b hgg
   have:(ops.push z)[j]?=ops[j]?:=by rw [Array.getElem?_push_lt hj,Array.getElem?_eq_getElem hj]
   unfold yielded
   rw [this]
 rw [e2]
 exact h
theorem zo4 {z:Oper} (hin:inB ops=true):∀ (f:Nat) (listed:Array Bool) (a:Act) (w:World),listed.size=ops.size→wpAny P md ops Q f listed a w→wpAny P md (ops.push z) Q f (listed.push true) a w:=by
 have hnil:∀ listed:Array Bool,listed.size=ops.size→(Region.ready md (ops.push z) (listed.push true)=[]↔Region.ready md ops listed=[]):=fun listed hs=>by
  rw [List.eq_nil_iff_forall_not_mem,List.eq_nil_iff_forall_not_mem]
  exact forall_congr' fun j=>not_congr (zjy hin hs)
 intro f
 induction f with
 | zero=>exact fun listed a w hs h=>⟨(hnil listed hs).2 h.1,h.2⟩
 | succ f ih =>
  refine fun listed a w hs h=>⟨fun h0=>h.1 ((hnil listed hs).1 h0),fun i hi=>?_⟩
  have hi':=(zjy hin hs).1 hi
  obtain ⟨_,o,ho,_⟩:=mem_ready.1 hi'
  have hlt:i<ops.size:=(Array.getElem?_eq_some_iff.1 ho).1
  refine zqK hin hlt (wpOp_mono (fun a' w' h'=>?_) (h.2 i hi'))
  have e:(listed.push true).setIfInBounds i true=(listed.setIfInBounds i true).push true:=by
   apply Array.ext_getElem?
   intro j
   rw [Array.getElem?_setIfInBounds,Array.getElem?_push,Array.getElem?_push,Array.getElem?_setIfInBounds]
   simp only [Array.size_push,Array.size_setIfInBounds]
   by_cases hij:i=j
   ·subst hij
    rw [if_pos rfl,if_pos (by omega),if_neg (by omega),if_pos rfl,if_pos (by omega)]
   ·rw [if_neg hij,if_neg hij]
  rw [e]
  exact ih _ a' w' (by simpa using hs) h'
theorem zmz:∀ (f:Nat) (listed:Array Bool) (a:Act) (w:World),wpAny P md ops Q f listed a w→AnyC P md ops (fun _=>True) Q f listed a w
 | 0,_,_,_,h=>h
 | f+1,_,_,_,h=>⟨h.1,fun i hi=>wpOp_mono (fun a' w' h'=>⟨trivial,zmz f _ a' w' h'⟩) (h.2 i hi)⟩
theorem zho {a:Act} {w:World} (n:Nat) (hB:Region.lexTailB .any ops n=true) (hC:C w)
  (h:wpQuiet P ops C (fun a'=>∀ w',C w'→wpList P ops Q (ops.toList.drop n) a' w') (ops.toList.take n) a):wpAny P .any ops Q ops.size (Array.replicate ops.size false) a w:=by
 simp only [Region.lexTailB,Bool.and_eq_true,decide_eq_true_eq] at hB
 obtain ⟨⟨⟨⟨hsel,hn⟩,hs⟩,hc⟩,hlex⟩:=hB
 have htl:(ops.toList.take n).length=n:=by simp;omega
 have hdl:(ops.toList.drop n).length=ops.size-n:=by simp
 have inv0:HeadInv .any ops n (Array.replicate ops.size false) :=
  ⟨by simp,fun j oj _ hl=>(by rw [getD_replicate_false] at hl;cases hl),fun t _ ht=>getD_in (by simpa using ht) (getD_replicate_false _ _)⟩
 have H:=AnyHead.lex (md:=.any) (g:=ops.size-n) hsel hs hc hn (ops.toList.take n) 0 _ a (fun j hj=>by
  have hj':j<n:=by rw [htl] at hj;exact hj
  simp [hj']) (by simpa using htl) inv0 (by rw [htl];exact hlex) h
 have:=AnyHead.all (Q:=Q) (g:=ops.size-n) (fun listed a' w' hw' hL=>by
  have:=wpAny_of_seq (md:=.any) (Q':=Q) (ops.toList.drop n) n listed a' w' (fun j=>by simp [List.getElem?_drop]) (by rw [hdl];exact hL.1) (hL.2 w' hw')
  rwa [hdl] at this) _ _ _ _ hC H
 rw [htl,show n+(ops.size-n)=ops.size by omega] at this
 exact this
end last
section lastE
variable {cx:Cx}
def noP (k:Exit→Env→Mem→Prop):Exit→Env→Mem→Prop
 | .panic _,_,_=>False
 | ex,e,m=>k ex e m
theorem zrP {k:Exit→Env→Mem→Prop}:zqC (Qk cx (noP k)):=fun _ _ _ _ _ ⟨_,_,_,_,h⟩=>h.elim
theorem zwR {k:Exit→Env→Mem→Prop} {ex:Exit} {a:Act} {w:World} (h:Qk cx (noP k) ex a w):Qk cx k ex a w:=by
 obtain ⟨e,m,h1,h2,h3⟩:=h
 cases ex with
 | panic ch=>exact h3.elim
 | normal=>exact⟨e,m,h1,h2,h3⟩
 | exit id=>exact⟨e,m,h1,h2,h3⟩
 | goto l=>exact⟨e,m,h1,h2,h3⟩
 | ret=>exact⟨e,m,h1,h2,h3⟩
 | outgrown=>exact⟨e,m,h1,h2,h3⟩
theorem zmr (n m0:Nat) (ht:TabOk cx.P cx.tab) (hmix:cx.P.follows .mixedOrders=true) {id:Nat} {ops:Array Oper} {d ty:Nat} {v:Value} {pos:String} (hlast:zeZ n ops.toList=[⟨some d,.move (.const v),ty,pos,#[],none⟩])
  (hB:(Region.noSelect ops&&Region.lexTailB .any (zcJ n ops.toList).toArray m0&&inB (zcJ n ops.toList).toArray&&Region.free .any ops (Array.replicate ops.size false) n)=true) (hd0:zbD cx.n (zeZ n ops.toList)=true)
  (hd1:zbD cx.n (zcJ m0 (zcJ n ops.toList))=true) (hd2:zbD cx.n (zeZ m0 (zcJ n ops.toList))=true) {k:Exit→Env→Mem→Prop} {e:Env} {m:Mem}
  (h:XQ cx (zcJ n ops.toList).toArray (fun _ e m=>XL cx (zcJ n ops.toList).toArray (noP k) (zeZ m0 (zcJ n ops.toList)) none [] e m) (zcJ m0 (zcJ n ops.toList)) none [] ((d,v)::e) m):Dr cx id ops k e m:=by
 simp only [Bool.and_eq_true] at hB
 obtain ⟨⟨⟨hsel,hB⟩,hin⟩,hfree⟩:=hB
 have hops:ops=((zcJ n ops.toList).toArray).push ⟨some d,.move (.const v),ty,pos,#[],none⟩:=by
  apply Array.toList_inj.1
  rw [Array.toList_push,← hlast,zc1,zcG]
  exact (List.take_append_drop n ops.toList).symm
 have hdd:=zcT (i:=0) hd0 (by rw [hlast];rfl)
 generalize hR:(zcJ n ops.toList)=L at *
 have hn:n=L.toArray.size:=by
  have h1:(zeZ n ops.toList).length=1:=by rw [hlast];rfl
  rw [zcG,List.length_drop] at h1
  have:L.length=n:=by rw [← hR,zc1,List.length_take];omega
  simpa using this.symm
 subst hn
 clear hR hlast hd0
 intro a w he hm
 refine wp_mono (Q:=Qk cx (noP k)) (wp_region_any hmix ?_) (fun ex a' w' hq=>zwR hq)
 have hm':=hm.same (zep w (w.drawn+1))
 subst hops
 have hz:(L.toArray.push ⟨some d,.move (.const v),ty,pos,#[],none⟩)[L.toArray.size]?=some ⟨some d,.move (.const v),ty,pos,#[],none⟩:=Array.getElem?_push_size ..
 have hquiet:=zxt ht (zcJ m0 L) none [] ((d,v)::e) (a.put (some d) v) hd1 (he.put hdd v) ScOk.none_ (KnOk.nil _) h
 have hw:wpAny cx.P .any L.toArray (Qk cx (noP k)) L.toArray.size (Array.replicate L.toArray.size false) (a.put (some d) v) { w with drawn:=w.drawn+1 }:=by
  refine zho (C:=MemOk cx.w0 cx.S m) m0 hB hm' ?_
  rw [zc1] at hquiet
  refine zg7 _ _ _ _ (fun a' ⟨e',h1,h2⟩ w' hw'=>?_) hquiet
  rw [zcG] at h2 hd2
  exact zs0 ht _ none [] e' m a' w' hd2 h1 hw' ScOk.none_ (KnOk.nil e') h2
 have hw2:=zmz _ _ _ _ (zo4 (z:=⟨some d,.move (.const v),ty,pos,#[],none⟩) hin _ _ _ _ (by simp) hw)
 have hrep:(Array.replicate (L.toArray.push (⟨some d,.move (.const v),ty,pos,#[],none⟩:Oper)).size false).setIfInBounds L.toArray.size true=(Array.replicate L.toArray.size false).push true:=by
  rw [Array.size_push]
  apply Array.toList_inj.1
  rw [Array.toList_setIfInBounds,Array.toList_push,Array.toList_replicate,Array.toList_replicate,List.replicate_succ',List.set_append_right _ _ (by simp)]
  simp
 rw [← hrep] at hw2
 have hready:L.toArray.size∈Region.ready .any (L.toArray.push ⟨some d,.move (.const v),ty,pos,#[],none⟩) (Array.replicate (L.toArray.push (⟨some d,.move (.const v),ty,pos,#[],none⟩:Oper)).size false) :=
  mem_ready.2 ⟨getD_in (by simp) (getD_replicate_false _ _),_,hz,fun e he=>by simp at he⟩
 have:=AnyC.first (md:=.any) (zrP (cx:=cx) (k:=k)) hz (Region.noSelect_spec hsel) _ _ a { w with drawn:=w.drawn+1 } trivial (Region.free_spec hz hfree) hready ⟨rfl,fun w _=>rfl⟩ hw2
 have h2:=this.any
 rw [Array.size_push] at h2 ⊢
 exact h2
end lastE
end Go.Proofs.YtlmgelmloddfgaaGreat.Eng
namespace Go.Proofs.YtlmgelmloddfgaaGreat
open Go Go.RowKit Eng
section
def mayA (h:Hd):Bool:=decide (9≤h.bits)&&decide (h.bits≤16)&&decide (h.flags≤1)&&decide (0≤h.size)&&decide (h.size≤67108864)&&decide (h.size%512=0)
def may0 (h:Hd):Bool:=decide (0≤h.l1len)&&decide (h.l1len≤1048576)&&decide (zqY h≤h.l1len)
def may1 (h:Hd):Bool:=(decide (h.l1len=0)&&decide (h.l1=0))||(decide (0<h.l1len)&&plB h.l1 (clus h.bits))
def may2 (h:Hd):Bool:=decide (0≤h.order)&&decide (h.order≤6)
def may3 (h:Hd):Bool:=plB h.counts (clus h.bits)&&decide (1≤h.countsLen)&&decide (h.countsLen≤65536)
def may6 (h:Hd):Bool:=decide (h.backing.size≤64)&&h.backing.data.toList.all fun x=>!(x == 0)
theorem ziw (h:Hd):mayH h=(mayA h&&may0 h&&may1 h&&may2 h&&may3 h&&liOk h.snaps h.snapsAt h.snapsLen (clus h.bits)&&liOk h.bitmaps h.bitmapsAt h.bitmapsLen (clus h.bits)&&may6 h):=rfl
theorem mayA_iff {h:Hd}:mayA h=true↔9≤h.bits∧h.bits≤16∧h.flags≤1∧0≤h.size∧h.size≤67108864∧h.size%512=0:=by
 unfold mayA
 simp only [Bool.and_eq_true,decide_eq_true_eq,and_assoc]
theorem zox (h:Hd):(decide (h.bits<9)||decide (16<h.bits)||decide (1<h.flags)||decide (h.size<0)||decide (67108864<h.size)||!decide (h.size.tmod 512=0))=!mayA h:=by
 cases hA:mayA h with
 | true =>
  have:=mayA_iff.1 hA
  rw [decide_eq_false (by omega),decide_eq_false (by omega),decide_eq_false (by omega),decide_eq_false (by omega),decide_eq_false (by omega),Int.tmod_eq_emod_of_nonneg (by omega),decide_eq_true this.2.2.2.2.2];rfl
 | false =>
  have hn:¬ (9≤h.bits∧h.bits≤16∧h.flags≤1∧0≤h.size∧h.size≤67108864∧h.size%512=0):=fun h'=>by rw [mayA_iff.2 h'] at hA;cases hA
  rw [Bool.not_false]
  simp only [Bool.or_eq_true,decide_eq_true_eq,Bool.not_eq_true',decide_eq_false_iff_not]
  by_cases hs:0≤h.size
  ·rw [Int.tmod_eq_emod_of_nonneg hs];omega
  ·omega
theorem ziI {xs:List Bool} {i:Nat} (h:i<xs.length):xs.getD i false∈xs:=by
 rw [List.getD_eq_getElem?_getD,List.getElem?_eq_getElem h]
 exact List.getElem_mem h
theorem zuW (l:List UInt8):decide (0≤Lib.indexByte l 0)=!(l.all fun x=>!(x == 0)):=by
 induction l with
 | nil=>rfl
 | cons b t ih =>
  rw [List.all_cons,Lib.indexByte]
  by_cases hb:(b == 0)=true
  ·rw [if_pos hb,hb];rfl
  ·rw [if_neg hb,Bool.not_eq_true] at *
   rw [hb,Bool.not_false,Bool.true_and,← ih]
   have hge:=Lib.indexByte_ge t 0
   by_cases hm:(Lib.indexByte t 0 == -1)=true
   ·rw [if_pos hm]
    have:=eq_of_beq hm
    rw [this]
   ·rw [if_neg hm]
    have:Lib.indexByte t 0≠-1:=fun h=>hm (by rw [h];rfl)
    rw [decide_eq_true (show 0≤Lib.indexByte t 0+1 by omega),decide_eq_true (show 0≤Lib.indexByte t 0 by omega)]
theorem zc3 (s:ByteArray) (w:World):Calls Tryz.prog 164 #[.string s,.string ⟨#[0]⟩] w fun e w'=>e=.returned (.bool (!(s.data.toList.all fun x=>!(x == 0))))∧Fr (fun _=>False) w w':=by
 refine (Tryz.strings_Contains_one s 0 w).mono ?_
 rintro e w' ⟨rfl,rfl⟩
 exact⟨by rw [zuW],Fr.refl _ _⟩
attribute [local irreducible] Br Rn RnU Cl RdG CpG Ld Rd Lp Dr Oth Cut fin Fits Eng.Enters Md NA
theorem zfC:Eng.Enters Tryz.prog 129:=zab fun _ _=>by kernel_rfl
theorem zb8:Eng.Enters Tryz.prog 164:=zab fun _ _=>by kernel_rfl
set_option maxHeartbeats 4000000 in
theorem ziF (h:Hd) (w:World) :
  Calls Tryz.prog 129 #[.agg h.cells.toArray] w fun e w'=>e=.returned (.int .i64 (if mayH h then 0 else 2))∧Fr (fun _=>False) w w':=by
 refine enter (cx:=⟨Tryz.prog,136,w,fun _=>False,tab,[],[161,162,163,164],[],[]⟩) [(0,.agg h.cells.toArray)] zaa Tryz.func129 rfl rfl rfl rfl (MemOk.nil w _) ?_
 refine gGw ?_;(repeat ((first|refine .mk fun Ap capp=>?_|intro _);(conv=>whnf);refine gG0 ?_))
 refine zdd zaa ?_
 refine gGw ?_
 refine And.intro (fun _=>by decide) ?_
 conv=>whnf
 rw [zox]
 rw [ziw]
 cases hA:mayA h with
 | false =>
  refine br_t rfl ?_
  refine gGw ?_
  exact fin1 rfl rfl (fun w' hm=>⟨by simp only [Bool.false_and];rfl,hm.fr⟩)
 | true =>
  have hA':=mayA_iff.1 hA
  simp only [Bool.true_and]
  obtain ⟨BS,hBS⟩:∃ BS:List Bool,BS=[may0 h,may1 h,may2 h,may3 h,liOk h.snaps h.snapsAt h.snapsLen (clus h.bits),liOk h.bitmaps h.bitmapsAt h.bitmapsLen (clus h.bits),may6 h]:=⟨_,rfl⟩
  have hall:(may0 h&&may1 h&&may2 h&&may3 h&&liOk h.snaps h.snapsAt h.snapsLen (clus h.bits)&&liOk h.bitmaps h.bitmapsAt h.bitmapsLen (clus h.bits)&&may6 h)=BS.all id:=by
   rw [hBS];simp only [List.all_cons,List.all_nil,id,Bool.and_true,Bool.and_assoc]
  have hm6:may6 h=(decide ((h.backing.size:Int)≤64)&&!(!(h.backing.data.toList.all fun x=>!(x == 0)))):=by
   rw [Bool.not_not];unfold may6;congr 1;exact decide_eq_decide.2 (by omega)
  have hBl:BS.length=7:=by rw [hBS];rfl
  rw [hall]
  refine br_f rfl ?_
  refine gGw ?_
  refine And.intro ⟨by omega,by show h.bits≤(64:Int);omega⟩ ?_
  conv=>whnf
  rw [zhx ⟨hA'.1,hA'.2.1⟩]
  refine gG0 ?_;(repeat ((first|refine .mk fun Ap capp=>?_|intro _);(conv=>whnf);refine gG0 ?_))
  rename_i hB cB pB
  have hcb:=zc0 ⟨hA'.1,hA'.2.1⟩
  refine zmr 84 82 zaa mixed rfl (by kernel_rfl) (by kernel_rfl) (by kernel_rfl) (by kernel_rfl) ?_
  conv=>whnf
  refine gG0 ?_
  refine⟨_,cpg zme (fun _ w' _=>zr4 h w' ⟨hA'.1,hA'.2.1⟩ (by omega)),?_⟩
  conv=>whnf
  refine gG0 ?_
  have hcc:∀ w',Res.ok w' (.blk cB (.cells [Value.int .i64 (clus h.bits)].toArray 2))→w'.cell? ⟨cB,0,none⟩=some (.int .i64 (clus h.bits)):=fun w' h9=>(zaJ h9 0).trans rfl
  have hpc:∀ w',Res.ok w' (.blk pB (.cells [Value.func (.func 161) #[] #[.pointer (some ⟨cB,0,none⟩)]].toArray 136))→w'.cell? ⟨pB,0,none⟩=some (.func (.func 161) #[] #[.pointer (some ⟨cB,0,none⟩)]):=fun w' h9=>(zaJ h9 0).trans rfl
  refine br (fun h1=>?_) (fun h1=>?_)
  ·have hm1:may1 h=true:=by unfold may1;rw [h1];rfl
   conv=>whnf
   refine gG0 ?_
   refine⟨_,cpg zcr (fun _ w' hm'=>zd0 h.counts (clus h.bits) cB w' (hcc w' (hm'.ok _ (List.mem_cons_of_mem _ (List.mem_cons_self ..)))) (by omega)),?_⟩
   conv=>whnf
   refine gG0 ?_
   refine⟨_,cpg zci (fun _ w' hm'=>zd1 h.snaps h.snapsAt h.snapsLen (clus h.bits) cB pB w' (hcc w' (hm'.ok _ (List.mem_cons_of_mem _ (List.mem_cons_self ..)))) (hpc w' (hm'.ok _ (List.mem_cons_self ..))) (by omega)),?_⟩
   conv=>whnf
   refine gG0 ?_
   refine⟨_,cpg zci (fun _ w' hm'=>zd1 h.bitmaps h.bitmapsAt h.bitmapsLen (clus h.bits) cB pB w' (hcc w' (hm'.ok _ (List.mem_cons_of_mem _ (List.mem_cons_self ..)))) (hpc w' (hm'.ok _ (List.mem_cons_self ..))) (by omega)),?_⟩
   conv=>whnf
   refine gG0 ?_
   refine⟨_,cpg zb8 (fun _ w' _=>zc3 h.backing w'),?_⟩
   refine gGw ?_;(repeat ((first|refine .mk fun Ap capp=>?_|intro _);(conv=>whnf);refine gG0 ?_))
   rename_i sB
   refine lp zaa (γ:=Nat) (fun i=>i≤7∧∀ j,j<i→BS.getD j false=true) (fun i=>[(127,.int .i64 (i:Int)),(126,.int .i64 7),(125,.slice (some ⟨sB,0,none⟩) 7 7),(6,.bool true)]) (fun _=>[.blk sB (.cells (BS.map Value.bool).toArray 4)]) (fun i=>7-i) 0 ⟨by omega,fun j hj=>by omega⟩ ⟨rfl,rfl,rfl,rfl,trivial⟩ (by
    rw [hBS,hm1,hm6]
    exact SubM.sl) ?_
   clear hcc hpc
   rintro i ⟨hi,hji⟩
   dsimp only
   conv=>whnf
   refine br_d (fun hlt=>?_) (fun hge=>?_)
   ·refine gGw ?_
    refine And.intro ⟨by omega,by omega,Pl.mk _ _⟩ ?_
    conv=>whnf
    refine zai (ld1 (off:=0+i) (v:=.bool (BS.getD i false)) zaa (by repeat constructor) rfl rfl (by rw [Nat.zero_add,zco,List.getElem?_map,List.getD_eq_getElem?_getD,List.getElem?_eq_getElem (show i<BS.length by omega)];rfl)) ?_
    refine gGw ?_
    cases hb:BS.getD i false with
    | true =>
     refine br_n (br_t rfl ?_)
     refine gGw ?_
     exact⟨i+1,⟨by omega,fun j hj=>by rcases Nat.lt_succ_iff_lt_or_eq.1 hj with h'|rfl;exact hji j h';exact hb⟩,by omega,⟨rfl,rfl,rfl,rfl,trivial⟩,SubM.refl _ _⟩
    | false =>
     have hno:BS.all id=false:=by
      rw [List.all_eq_false]
      refine⟨false,?_,by decide⟩
      rw [← hb]
      exact ziI (by omega)
     rw [hno]
     refine br_n (br_f rfl ?_)
     refine gGw ?_
     refine br_n (br_f rfl ?_)
     refine gGw ?_
     exact fin1 rfl rfl (fun w' hm=>⟨rfl,hm.fr⟩)
   ·have hyes:BS.all id=true:=by
     rw [List.all_eq_true]
     intro x hx
     obtain ⟨j,hj,rfl⟩:=List.mem_iff_getElem.1 hx
     have:=hji j (by omega)
     rw [List.getD_eq_getElem?_getD,List.getElem?_eq_getElem hj] at this
     exact this
    rw [hyes]
    refine gGw ?_
    refine br_n (br_t rfl ?_)
    refine gGw ?_
    exact fin1 rfl rfl (fun w' hm=>⟨rfl,hm.fr⟩)
  ·conv=>whnf
   refine gG0 ?_
   refine br_d (fun h2=>?_) (fun h2=>?_)
   ·have hm1:may1 h=plB h.l1 (clus h.bits):=by unfold may1;rw [h1,decide_eq_true h2];rfl
    conv=>whnf
    refine gG0 ?_
    refine⟨_,cpg zcr (fun _ w' hm'=>zd0 h.l1 (clus h.bits) cB w' (hcc w' (hm'.ok _ (List.mem_cons_of_mem _ (List.mem_cons_self ..)))) (by omega)),?_⟩
    conv=>whnf
    refine gG0 ?_
    refine⟨_,cpg zcr (fun _ w' hm'=>zd0 h.counts (clus h.bits) cB w' (hcc w' (hm'.ok _ (List.mem_cons_of_mem _ (List.mem_cons_self ..)))) (by omega)),?_⟩
    conv=>whnf
    refine gG0 ?_
    refine⟨_,cpg zci (fun _ w' hm'=>zd1 h.snaps h.snapsAt h.snapsLen (clus h.bits) cB pB w' (hcc w' (hm'.ok _ (List.mem_cons_of_mem _ (List.mem_cons_self ..)))) (hpc w' (hm'.ok _ (List.mem_cons_self ..))) (by omega)),?_⟩
    conv=>whnf
    refine gG0 ?_
    refine⟨_,cpg zci (fun _ w' hm'=>zd1 h.bitmaps h.bitmapsAt h.bitmapsLen (clus h.bits) cB pB w' (hcc w' (hm'.ok _ (List.mem_cons_of_mem _ (List.mem_cons_self ..)))) (hpc w' (hm'.ok _ (List.mem_cons_self ..))) (by omega)),?_⟩
    conv=>whnf
    refine gG0 ?_
    refine⟨_,cpg zb8 (fun _ w' _=>zc3 h.backing w'),?_⟩
    refine gGw ?_;(repeat ((first|refine .mk fun Ap capp=>?_|intro _);(conv=>whnf);refine gG0 ?_))
    rename_i sB
    refine lp zaa (γ:=Nat) (fun i=>i≤7∧∀ j,j<i→BS.getD j false=true) (fun i=>[(127,.int .i64 (i:Int)),(126,.int .i64 7),(125,.slice (some ⟨sB,0,none⟩) 7 7),(6,.bool true)]) (fun _=>[.blk sB (.cells (BS.map Value.bool).toArray 4)]) (fun i=>7-i) 0 ⟨by omega,fun j hj=>by omega⟩ ⟨rfl,rfl,rfl,rfl,trivial⟩ (by
     rw [hBS,hm1,hm6]
     exact SubM.sl) ?_
    clear hcc hpc
    rintro i ⟨hi,hji⟩
    dsimp only
    conv=>whnf
    refine br_d (fun hlt=>?_) (fun hge=>?_)
    ·refine gGw ?_
     refine And.intro ⟨by omega,by omega,Pl.mk _ _⟩ ?_
     conv=>whnf
     refine zai (ld1 (off:=0+i) (v:=.bool (BS.getD i false)) zaa (by repeat constructor) rfl rfl (by rw [Nat.zero_add,zco,List.getElem?_map,List.getD_eq_getElem?_getD,List.getElem?_eq_getElem (show i<BS.length by omega)];rfl)) ?_
     refine gGw ?_
     cases hb:BS.getD i false with
     | true =>
      refine br_n (br_t rfl ?_)
      refine gGw ?_
      exact⟨i+1,⟨by omega,fun j hj=>by rcases Nat.lt_succ_iff_lt_or_eq.1 hj with h'|rfl;exact hji j h';exact hb⟩,by omega,⟨rfl,rfl,rfl,rfl,trivial⟩,SubM.refl _ _⟩
     | false =>
      have hno:BS.all id=false:=by
       rw [List.all_eq_false]
       refine⟨false,?_,by decide⟩
       rw [← hb]
       exact ziI (by omega)
      rw [hno]
      refine br_n (br_f rfl ?_)
      refine gGw ?_
      refine br_n (br_f rfl ?_)
      refine gGw ?_
      exact fin1 rfl rfl (fun w' hm=>⟨rfl,hm.fr⟩)
    ·have hyes:BS.all id=true:=by
      rw [List.all_eq_true]
      intro x hx
      obtain ⟨j,hj,rfl⟩:=List.mem_iff_getElem.1 hx
      have:=hji j (by omega)
      rw [List.getD_eq_getElem?_getD,List.getElem?_eq_getElem hj] at this
      exact this
     rw [hyes]
     refine gGw ?_
     refine br_n (br_t rfl ?_)
     refine gGw ?_
     exact fin1 rfl rfl (fun w' hm=>⟨rfl,hm.fr⟩)
   ·have hm1:may1 h=false:=by unfold may1;rw [h1,decide_eq_false h2];rfl
    conv=>whnf
    refine gG0 ?_
    refine⟨_,cpg zcr (fun _ w' hm'=>zd0 h.counts (clus h.bits) cB w' (hcc w' (hm'.ok _ (List.mem_cons_of_mem _ (List.mem_cons_self ..)))) (by omega)),?_⟩
    conv=>whnf
    refine gG0 ?_
    refine⟨_,cpg zci (fun _ w' hm'=>zd1 h.snaps h.snapsAt h.snapsLen (clus h.bits) cB pB w' (hcc w' (hm'.ok _ (List.mem_cons_of_mem _ (List.mem_cons_self ..)))) (hpc w' (hm'.ok _ (List.mem_cons_self ..))) (by omega)),?_⟩
    conv=>whnf
    refine gG0 ?_
    refine⟨_,cpg zci (fun _ w' hm'=>zd1 h.bitmaps h.bitmapsAt h.bitmapsLen (clus h.bits) cB pB w' (hcc w' (hm'.ok _ (List.mem_cons_of_mem _ (List.mem_cons_self ..)))) (hpc w' (hm'.ok _ (List.mem_cons_self ..))) (by omega)),?_⟩
    conv=>whnf
    refine gG0 ?_
    refine⟨_,cpg zb8 (fun _ w' _=>zc3 h.backing w'),?_⟩
    refine gGw ?_;(repeat ((first|refine .mk fun Ap capp=>?_|intro _);(conv=>whnf);refine gG0 ?_))
    rename_i sB
    refine lp zaa (γ:=Nat) (fun i=>i≤7∧∀ j,j<i→BS.getD j false=true) (fun i=>[(127,.int .i64 (i:Int)),(126,.int .i64 7),(125,.slice (some ⟨sB,0,none⟩) 7 7),(6,.bool true)]) (fun _=>[.blk sB (.cells (BS.map Value.bool).toArray 4)]) (fun i=>7-i) 0 ⟨by omega,fun j hj=>by omega⟩ ⟨rfl,rfl,rfl,rfl,trivial⟩ (by
     rw [hBS,hm1,hm6]
     exact SubM.sl) ?_
    clear hcc hpc
    rintro i ⟨hi,hji⟩
    dsimp only
    conv=>whnf
    refine br_d (fun hlt=>?_) (fun hge=>?_)
    ·refine gGw ?_
     refine And.intro ⟨by omega,by omega,Pl.mk _ _⟩ ?_
     conv=>whnf
     refine zai (ld1 (off:=0+i) (v:=.bool (BS.getD i false)) zaa (by repeat constructor) rfl rfl (by rw [Nat.zero_add,zco,List.getElem?_map,List.getD_eq_getElem?_getD,List.getElem?_eq_getElem (show i<BS.length by omega)];rfl)) ?_
     refine gGw ?_
     cases hb:BS.getD i false with
     | true =>
      refine br_n (br_t rfl ?_)
      refine gGw ?_
      exact⟨i+1,⟨by omega,fun j hj=>by rcases Nat.lt_succ_iff_lt_or_eq.1 hj with h'|rfl;exact hji j h';exact hb⟩,by omega,⟨rfl,rfl,rfl,rfl,trivial⟩,SubM.refl _ _⟩
     | false =>
      have hno:BS.all id=false:=by
       rw [List.all_eq_false]
       refine⟨false,?_,by decide⟩
       rw [← hb]
       exact ziI (by omega)
      rw [hno]
      refine br_n (br_f rfl ?_)
      refine gGw ?_
      refine br_n (br_f rfl ?_)
      refine gGw ?_
      exact fin1 rfl rfl (fun w' hm=>⟨rfl,hm.fr⟩)
    ·have hyes:BS.all id=true:=by
      rw [List.all_eq_true]
      intro x hx
      obtain ⟨j,hj,rfl⟩:=List.mem_iff_getElem.1 hx
      have:=hji j (by omega)
      rw [List.getD_eq_getElem?_getD,List.getElem?_eq_getElem hj] at this
      exact this
     rw [hyes]
     refine gGw ?_
     refine br_n (br_t rfl ?_)
     refine gGw ?_
     exact fin1 rfl rfl (fun w' hm=>⟨rfl,hm.fr⟩)
end
section
def fAts:List Nat:=[4,8,16,24,32,36,40,48,52,56,64,68,72,80]
def fWid:List Nat:=[4,8,8,8,4,4,8,4,4,8,4,4,8,4]
theorem zjJ (h:Hd):(zdB h).map Prod.fst=fWid:=rfl
theorem zu8:∀ i,i<14→4+(fWid.take i).sum=fAts.getD i 0:=by decide
theorem zl6 (l:List (Nat × Int)):(zl7 l).length=(l.map Prod.fst).sum:=by
 unfold zl7
 induction l with
 | nil=>rfl
 | cons q t ih=>rw [List.flatMap_cons,List.length_append,zad,ih];simp
def preB (h:Hd) (i:Nat):List UInt8:=ziy++zl7 ((zdB h).take i)
theorem zuH (h:Hd) {i:Nat} (hi:i<14):(preB h i).length=fAts.getD i 0:=by
 unfold preB
 rw [List.length_append,zl6,List.map_take,zjJ,← zu8 i hi];rfl
theorem zgi (h:Hd):(preB h 14).length=84:=by
 unfold preB
 rw [List.length_append,zl6,List.map_take,zjJ];rfl
theorem zbb (h:Hd) {i:Nat} {q:Nat × Int} (hq:(zdB h)[i]?=some q):preB h (i+1)=preB h i++leB q.2.toNat q.1:=by
 unfold preB zl7
 rw [List.take_add_one,hq,List.flatMap_append,← List.append_assoc]
 simp
def zoT (q:Nat × Nat × Int):List Value:=[.int .i64 q.1,.int .i64 q.2.1,.int .u64 q.2.2]
def fldL (h:Hd):List (Nat × Nat × Int):=fAts.zip (zdB h)
structure HOk (h:Hd):Prop where
 bits:9≤h.bits∧h.bits≤16
 flags:0≤h.flags∧h.flags≤1
 size:0≤h.size∧h.size≤67108864
 l1:0≤h.l1∧h.l1≤268435456
 l1len:0≤h.l1len∧h.l1len≤1048576
 order:0≤h.order∧h.order≤6
 counts:0<h.counts∧h.counts≤268435456
 countsLen:1≤h.countsLen∧h.countsLen≤65536
 snaps:0≤h.snaps∧h.snaps≤64
 snapsAt:0≤h.snapsAt∧h.snapsAt≤268435456
 snapsLen:0≤h.snapsLen∧h.snapsLen≤65536
 bitmaps:0≤h.bitmaps∧h.bitmaps≤64
 bitmapsAt:0≤h.bitmapsAt∧h.bitmapsAt≤268435456
 bitmapsLen:0≤h.bitmapsLen∧h.bitmapsLen≤65536
 backing:h.backing.size≤64
theorem plB_iff {a c:Int}:plB a c=true↔0<a∧a≤268435456∧a%c=0:=by
 unfold plB;simp only [Bool.and_eq_true,decide_eq_true_eq,and_assoc]
theorem zrV {n a l c:Int} (h:liOk n a l c=true):(0≤n∧n≤64)∧(0≤a∧a≤268435456)∧0≤l∧l≤65536:=by
 unfold liOk at h
 split at h
 ·simp only [Bool.and_eq_true,decide_eq_true_eq] at h;omega
 ·simp only [Bool.and_eq_true,decide_eq_true_eq,plB_iff] at h;omega
theorem zgV {h:Hd} (hf:0≤h.flags) (hm:mayH h=true):HOk h:=by
 rw [ziw] at hm
 simp only [Bool.and_eq_true] at hm
 obtain ⟨⟨⟨⟨⟨⟨⟨hA,h0⟩,h1⟩,h2⟩,h3⟩,h4⟩,h5⟩,h6⟩:=hm
 have a:=mayA_iff.1 hA
 have b4:=zrV h4
 have b5:=zrV h5
 unfold may0 at h0;unfold may1 at h1;unfold may2 at h2;unfold may3 at h3;unfold may6 at h6
 simp only [Bool.and_eq_true,Bool.or_eq_true,decide_eq_true_eq,plB_iff] at h0 h1 h2 h3 h6
 exact⟨by omega,by omega,by omega,by omega,by omega,by omega,by omega,by omega,b4.1,b4.2.1,b4.2.2,b5.1,b5.2.1,b5.2.2,h6.1⟩
attribute [local irreducible] Br Rn RnU Cl RdG CpG Ld Rd Lp Dr Oth Cut fin Fits Eng.Enters Md NA
theorem zkZ:Eng.Enters Tryz.prog 130:=zab fun _ _=>by kernel_rfl
theorem zkT:Eng.Enters Tryz.prog 87:=zab fun _ _=>by kernel_rfl
set_option maxHeartbeats 1000000 in
theorem zqb (h:Hd) (w:World) (hk:HOk h) :
  Ctr Tryz.prog 130 [.agg h.cells.toArray] [] (fun e m'=>∃ fB,e=.returned (.slice (some ⟨fB,0,none⟩) 14 14)∧m'=[.blk fB (.cells ((fldL h).flatMap zoT).toArray 217)]) w:=by
 obtain ⟨k1,k2,k3,k4,k5,k6,k7,k8,k9,k10,k11,k12,k13,k14,k15⟩:=hk
 refine enter (cx:=CXS 59 [] w (Foot [])) [(0,.agg h.cells.toArray)] zaa Tryz.func130 rfl rfl rfl rfl (MemOk.nil w _) ?_
 refine gGw ?_;(repeat ((first|refine .mk fun Ap capp=>?_|intro _);(conv=>whnf);refine gG0 ?_))
 refine⟨(fldL h).flatMap zoT,⟨by kernel_rfl,by kernel_rfl,by kernel_rfl⟩,?_⟩
 intro fB
 generalize (fldL h).flatMap zoT=cs
 refine gGw ?_
 exact fin1 rfl rfl (fun w' hm=>⟨_,⟨fB,rfl,rfl⟩,hm.sl⟩)
theorem zlx {α:Type} {f:α→List Value} {k:Nat} (hf:∀ x,(f x).length=k):∀ (L:List α) (i:Nat) (x:α),L[i]?=some x→zcJ k (zeZ (i*k) (L.flatMap f))=f x
 | [],_,_,h=>by simp at h
 | y::L,0,x,h=>by
  simp only [List.getElem?_cons_zero,Option.some.injEq] at h
  subst h
  rw [zc1,zcG,Nat.zero_mul,List.drop_zero,List.flatMap_cons,List.take_append_of_le_length (by rw [hf];exact Nat.le_refl _),List.take_of_length_le (by rw [hf];exact Nat.le_refl _)]
 | y::L,i+1,x,h=>by
  have ih:=zlx hf L i x (by simpa using h)
  rw [zc1,zcG] at ih ⊢
  rw [List.flatMap_cons,show (i+1)*k=(f y).length+i*k by rw [hf,Nat.succ_mul];omega,List.drop_append,List.drop_of_length_le (by omega),Nat.add_sub_cancel_left,List.nil_append]
  exact ih
theorem zwU {cx:Cx} (ht:TabOk cx.P cx.tab) {m:Mem} {t t' b i k:Nat} {ti:TyI} {fs:List (Nat × Nat)} {α:Type} {f:α→List Value} {L:List α} {x:α} (hh:Has m (.blk b (.cells (L.flatMap f).toArray t'))) (hi:cx.tab.get t=some ti) (hk:ti.kind=.struct fs) (hc:ti.cells=k) (hf:∀ x,(f x).length=k) (hx:L[i]?=some x) :
  Ld cx m t (.pointer (pl (some ⟨b,0,none⟩) (mulC (Int.toNat (i:Int)) k))) (.agg (f x).toArray):=by
 have e:pl (some ⟨b,0,none⟩) (mulC (Int.toNat (i:Int)) k)=some ⟨b,i*k,none⟩:=by
  rw [zcp,Int.toNat_natCast]
  show some (Addr.mk b (0+i*k) none)=_
  rw [Nat.zero_add]
 rw [e]
 exact ldN ht hh hi hk (by rw [hc];exact zlx hf L i x hx) (by rw [hf,hc])
theorem zsb {h:Hd} (hk:HOk h):∀ q∈zdB h,0≤q.2∧q.2<4294967296∧(q.1=4∨q.1=8):=by
 obtain ⟨k1,k2,k3,k4,k5,k6,k7,k8,k9,k10,k11,k12,k13,k14,k15⟩:=hk
 intro q hq
 unfold zdB at hq
 simp only [List.mem_cons,List.not_mem_nil,or_false] at hq
 rcases hq with rfl|rfl|rfl|rfl|rfl|rfl|rfl|rfl|rfl|rfl|rfl|rfl|rfl|rfl<;>exact⟨by show (0:Int)≤_;omega,by show _<(4294967296:Int);omega,by simp⟩
theorem zsc (h:Hd) {i:Nat} (hi:i<14):∃ q,(zdB h)[i]?=some q∧q∈zdB h∧(fldL h)[i]?=some (fAts.getD i 0,q):=by
 have h1:i<(zdB h).length:=hi
 have h2:i<fAts.length:=hi
 refine⟨(zdB h)[i],List.getElem?_eq_getElem h1,List.getElem_mem h1,?_⟩
 have h3:i<(fldL h).length:=hi
 rw [List.getElem?_eq_getElem h3]
 simp only [fldL,List.getElem_zip]
 rw [List.getD_eq_getElem?_getD,List.getElem?_eq_getElem h2];rfl
theorem zw2 (h:Hd) (hs:h.backing.size≤64):preB h 14++leB h.backing.size 4++h.backing.data.toList++List.replicate (64-h.backing.size) 0++(List.replicate (512-(preB h 14).length) (0:UInt8)).drop (4+64)=za7 h:=by
 rw [zgi,List.drop_replicate]
 unfold za7
 have e:preB h 14=ziy++zl7 (zdB h):=rfl
 rw [e]
 have e2:List.replicate (64-h.backing.size) (0:UInt8)++List.replicate (512-84-(4+64)) 0=List.replicate (424-h.backing.size) 0:=by
  rw [List.replicate_append_replicate];congr 1;omega
 rw [← e2]
 simp only [List.append_assoc]
theorem zw9:∀ i,i<14→fAts.getD i 0≤80:=by decide
theorem zvr {bs:List UInt8} {a n:Nat} {l:Nat} (hbl:bs.length=l) (A:Option Addr) (c x:Nat) (w:World) (hl:l≤140737488355328) (hn:1≤n∧n≤8) (hfit:a+n≤l) (hx:x<256 ^ n) (hm:MemOk w (Foot [BR8 A c l bs]) [BR8 A c l bs] w) :
  Ctr Tryz.prog 131 [.slice A l c,.int .i64 (a:Int),.int .i64 (n:Int),.int .u64 (x:Int)] [BR8 A c l bs] (fun e m'=>e=.returned (.int .i64 0)∧m'=[BR8 A c l (setB bs a (leB x n))]) w:=by
 subst hbl
 exact znS bs A c a n x w hl hn hfit hx hm
theorem zrf {X R:List UInt8} {l a:Nat} (hbl:(X++R).length=l) (hX:X.length=a) (A:Option Addr) (c most:Nat) (s:ByteArray) (w:World) (hl:X.length+R.length≤100000000) (hs:s.size≤most) (h1:1≤most∧most≤1048576) (h2:4+most≤R.length) (hm:MemOk w (Foot [BR8 A c l (X++R)]) [BR8 A c l (X++R)] w) :
  Ctr Tryz.prog 132 [.slice A l c,.int .i64 (a:Int),.int .i64 (most:Int),.string s] [BR8 A c l (X++R)] (fun e m'=>e=.returned (.int .i64 0)∧m'=[BR8 A c l (X++leB s.size 4++s.data.toList++List.replicate (most-s.size) 0++R.drop (4+most))]) w:=by
 subst hbl hX
 exact zmS X R A c most s w hl hs h1 h2 hm
def hbB (h:Hd) (i:Nat):List UInt8:=preB h i++List.replicate (512-(preB h i).length) 0
theorem zse (h:Hd) {i:Nat} (hi:(preB h i).length≤512):(hbB h i).length=512:=by unfold hbB;simp;omega
theorem zw1 (h:Hd) {i:Nat} {q:Nat × Int} (hq:(zdB h)[i]?=some q):setB (hbB h i) (preB h i).length (leB q.2.toNat q.1)=hbB h (i+1):=by
 unfold hbB
 rw [ze7,zad,zbb h hq,List.length_append,zad,List.drop_replicate]
 congr 2;omega
theorem zrw {cx:Cx} {m m':Mem} {dT sT e ty:Nat} {i ti:TyI} {A D:Option Addr} {cap n off dLen dCap:Nat} {xs:List Value} {s:ByteArray} {K:Value→Mem→Prop} (ys:List Value) (hy:zbp off ((zag s.data.toList).map (.int .u8)) xs=ys) (ht:TabOk cx.P cx.tab)
  (hi:cx.tab.get dT=some i) (hk:i.kind=.slice e) (hti:cx.tab.get e=some ti) (hs:ti.cells=1) (hu:Out m (.row A cap n e 1 xs) m') (hD:D=pl A off) (hle:s.size≤dLen)
  (hfit:off+s.size≤n) (hK:K (.int .i64 (s.size:Nat)) (.row A cap n e 1 ys::m')) :
  Rn cx m (Builtin.copy_ #[dT,sT] ty #[.slice D dLen dCap,.string s]) K:=by
 subst hy
 exact zoe ht hi hk hti hs hu hD hle hfit hK
theorem zu0 (h:Hd):zbp 0 ((zag ziy).map (Value.int .u8)) (List.replicate 512 (.int .u8 0))=(zag (hbB h 0)).map (.int .u8):=by
 rw [zgA,zfO _ _ _ (by rw [List.length_replicate];decide)]
 have:=ze7 [] (List.replicate 512 0) ziy
 rw [List.nil_append,List.nil_append] at this
 rw [show ([]:List UInt8).length=0 from rfl] at this
 rw [this]
 have e:preB h 0=ziy:=by unfold preB zl7;simp
 unfold hbB
 rw [e,List.drop_replicate]
set_option maxHeartbeats 1000000 in
theorem zp6 (h:Hd) (w:World) (hf:0≤h.flags) :
  Ctr Tryz.prog 87 [.agg h.cells.toArray] [] (fun e m'=>(mayH h=false∧e=.returned (.tuple #[.slice none 0 0,.int .i64 2])∧m'=[]) ∨
   (mayH h=true∧∃ A c,e=.returned (.tuple #[.slice A 512 c,.int .i64 0])∧m'=[BR8 A c 512 (za7 h)])) w:=by
 refine enter (cx:=CXS 34 [] w (Foot [])) [(0,.agg h.cells.toArray)] zaa Tryz.func87 rfl rfl rfl rfl (MemOk.nil w _) ?_
 refine gGw ?_;(repeat ((first|refine .mk fun Ap capp=>?_|intro _);(conv=>whnf);refine gG0 ?_))
 refine⟨zfC,zae _ (fun w' _=>ziF h w') ?_⟩
 cases hmay:mayH h with
 | false =>
  refine gGw ?_
  refine br_n (br_f rfl ?_)
  refine gGw ?_
  exact fin2 rfl rfl rfl (fun w' hm=>⟨_,.inl ⟨rfl,rfl,rfl⟩,hm.sublist (List.nil_sublist _)⟩)
 | true =>
  have hk:=zgV hf hmay
  refine gGw ?_
  refine br_n (br_t rfl ?_)
  refine gGw ?_
  rename_i xB
  refine zc2 zaa rfl rfl rfl rfl rfl (by decide) (by decide) (by decide) (fun rB=>?_)
  refine gGw ?_
  refine zrw (off:=0) ((zag (hbB h 0)).map (.int .u8)) (zu0 h) zaa rfl rfl rfl rfl (by repeat constructor) rfl (by decide) (by decide) ?_
  refine gGw ?_
  refine⟨zkZ,zac (m1:=[]) .nil (fun w' hm'=>zqb h w' hk) ?_⟩
  rintro e m' ⟨fB,rfl,rfl⟩
  refine gGw ?_
  refine lp zaa (γ:=Nat) (fun i=>i≤14) (fun i=>[(16,.int .i64 (i:Int)),(15,.int .i64 14),(14,.slice (some ⟨fB,0,none⟩) 14 14),(4,.slice (some ⟨rB,0,none⟩) 512 512),(1,.pointer (some ⟨xB,0,none⟩))])
   (fun i=>[.blk fB (.cells ((fldL h).flatMap zoT).toArray 217),BR8 (some ⟨rB,0,none⟩) 512 512 (hbB h i),.blk xB (.cells h.cells.toArray 34)]) (fun i=>14-i) 0 (by omega) ⟨rfl,rfl,rfl,rfl,rfl,trivial⟩ SubM.sl ?_
  rintro i hi
  dsimp only
  conv=>whnf
  refine br_d (fun hlt=>?_) (fun hge=>?_)
  ·refine gGw ?_
   refine And.intro ⟨by omega,by omega,Pl.mk _ _⟩ ?_
   conv=>whnf
   obtain ⟨q,hq1,hq2,hq3⟩:=zsc h (i:=i) (by omega)
   have hqk:=zsb hk q hq2
   have hpl:=zuH h (i:=i) (by omega)
   have hat:=zw9 i (by omega)
   have hset:=zw1 h hq1
   have hbl:=zse h (i:=i) (by omega)
   rw [hpl] at hset
   obtain ⟨x,hx⟩:∃ x:Nat,q.2=(x:Int):=⟨q.2.toNat,(Int.toNat_of_nonneg hqk.1).symm⟩
   have hxn:q.2.toNat=x:=by omega
   have hx8:x<256 ^ q.1:=by
    rcases hqk.2.2 with h4|h8
    ·rw [h4];omega
    ·rw [h8];omega
   refine zai (zwU (k:=3) zaa (by repeat constructor) rfl rfl rfl (fun _=>rfl) hq3) ?_
   refine gGw ?_;(repeat ((first|refine .mk fun Ap capp=>?_|intro _);(conv=>whnf);refine gG0 ?_))
   rw [hx]
   refine⟨zfI,zac (m1:=[BR8 (some ⟨rB,0,none⟩) 512 512 (hbB h i)]) (by repeat constructor) (fun w' hm'=>zvr (bs:=hbB h i) (a:=fAts.getD i 0) (n:=q.1) hbl (some ⟨rB,0,none⟩) 512 x w' (by omega) (by omega) (by omega) hx8 hm'.part) ?_⟩
   rintro e m' ⟨rfl,rfl⟩
   rw [← hxn,hset]
   refine gGw ?_
   exact⟨i+1,by omega,by omega,⟨rfl,rfl,rfl,rfl,rfl,trivial⟩,SubM.sl⟩
  ·obtain rfl:i=14:=by omega
   have hpa:=zgi h
   have hbl:=zse h (i:=14) (by omega)
   have hend:=zw2 h hk.backing
   have hbs:=hk.backing
   refine gGw ?_
   refine⟨zi4,zac (m1:=[BR8 (some ⟨rB,0,none⟩) 512 512 (hbB h 14)]) (by repeat constructor) (fun w' hm'=>zrf (X:=preB h 14) (R:=List.replicate (512-(preB h 14).length) 0) (l:=512) (a:=84) hbl hpa (some ⟨rB,0,none⟩) 512 64 h.backing w' (by rw [List.length_replicate];omega) hbs (by omega) (by rw [List.length_replicate];omega) hm'.part) ?_⟩
   rintro e m' ⟨rfl,rfl⟩
   rw [hend]
   refine gGw ?_
   exact fin2 rfl rfl rfl (fun w' hm=>⟨_,.inr ⟨rfl,some ⟨rB,0,none⟩,512,rfl,rfl⟩,hm.sl⟩)
end
end Go.Proofs.YtlmgelmloddfgaaGreat
