/- Part of a proof: contracts of the functions that the law reaches. No statement of the seat is proved here. -/
import Derived.Test.YtlmgelmloddfgaaGreatCdM5
import Derived.Lib.SliceRun
set_option linter.unusedVariables false
set_option linter.unusedSimpArgs false
set_option linter.unusedSectionVars false
set_option maxRecDepth 100000
namespace Go.Proofs.YtlmgelmloddfgaaGreat.Eng
open Go Go.RowKit
section any
variable {P:Program} {ops:Array Oper} {md:Region.Mode} {C:World→Prop} {z:Nat} {Q:Exit→Act→World→Prop}
def AnyZ (P:Program) (md:Region.Mode) (ops:Array Oper) (C:World→Prop) (z:Nat) (Q:Exit→Act→World→Prop):Nat→Array Bool→Act→World→Prop
 | 0,listed,a,w=>Region.ready md ops listed=[]∧Q .normal a w
 | f+1,listed,a,w=>(Region.ready md ops listed=[]→Q .normal a w) ∧
  ∀ i∈Region.ready md ops listed,wpOp P ops Q i (fun a' w'=>(i≠z→C w')∧AnyZ P md ops C z Q f (listed.setIfInBounds i true) a' w') a w
theorem AnyZ.any:∀ (f:Nat) (listed:Array Bool) (a:Act) (w:World),AnyZ P md ops C z Q f listed a w→wpAny P md ops Q f listed a w
 | 0,_,_,_,h=>h
 | f+1,_,_,_,h=>⟨h.1,fun i hi=>wpOp_mono (fun a' w' h'=>AnyZ.any f _ a' w' h'.2) (h.2 i hi)⟩
theorem AnyZ.first (hb:zqy Q) {i:Nat} {oi:Oper} {v:Value} (hi:ops[i]?=some oi) (hsel:∀ (j:Nat) (o:Oper) cs b,ops[j]?=some o→o.op≠.select cs b) (hiz:∀ oz,ops[z]?=some oz→∃ e∈oz.after,Region.binds md e=true∧e.on=i) :
  ∀ (f:Nat) (listed:Array Bool) (a:Act) (w:World),C w →
   (∀ j oj,ops[j]?=some oj→j≠i→listed.getD j true=false→(∀ e∈oj.after,Region.binds md e=true→e.on≠i)→oi.apart ops oj=true) →
   i∈Region.ready md ops listed→Yst P ops C oi v a →
   AnyZ P md ops C z Q f (listed.setIfInBounds i true) (a.put oi.dst v) w→AnyZ P md ops C z Q (f+1) listed a w:=by
 intro f
 induction f with
 | zero =>
  intro listed a w hw _ hr hy H
  refine⟨fun h=>(by rw [h] at hr;cases hr),fun j hj=>?_⟩
  by_cases hji:j=i
  ·subst hji;exact zhp hi hy hw ⟨fun _=>hw,H⟩
  ·have:=ready_mono hj hji
   rw [H.1] at this
   cases this
 | succ f ih =>
  intro listed a w hw hfree hr hy H
  have hun:=(mem_ready.1 hr).1
  refine⟨fun h=>(by rw [h] at hr;cases hr),fun j hj=>?_⟩
  by_cases hji:j=i
  ·subst hji;exact zhp hi hy hw ⟨fun _=>hw,H⟩
  ·have h1:=H.2 j (ready_mono hj hji)
   have hjz:j≠z:=by
    rintro rfl
    obtain ⟨_,oz,hoz,hall⟩:=mem_ready.1 hj
    obtain ⟨e,he,hbd,heq⟩:=hiz oz hoz
    have h2:=hall e he hbd
    rw [heq,getD_both hun] at h2
    cases h2
   obtain ⟨hjun,oj,hoj,hall⟩:=mem_ready.1 hj
   have hnot:∀ e∈oj.after,Region.binds md e=true→e.on≠i:=fun e he hbd heq=>by
    have h2:=hall e he hbd
    rw [heq,getD_both hun] at h2
    cases h2
   have h2:=znP hoj (hfree j oj hoj hji hjun hnot) hb (fun cs b=>hsel i oi cs b hi) (fun cs b=>hsel j oj cs b hoj) hy h1
   refine wpOp_mono (fun a' w' ⟨h3,h4,h5⟩=>⟨h4,ih (listed.setIfInBounds j true) a' w' (h4 hjz) (fun k ok hk hki hunk hno=>?_) (ready_mono hr (Ne.symm hji)) h3 ?_⟩) h2
   ·refine hfree k ok hk hki ?_ hno
    by_cases hjk:j=k
    ·subst hjk;exact hjun
    ·rwa [getD_set_ne true hjk] at hunk
   ·rw [Array.setIfInBounds_comm _ _ hji]
    exact h5
def zdep (ops:Array Oper) (z i:Nat):Bool:=match ops[z]? with
 | none=>true
 | some o=>o.after.toList.any fun e=>Region.binds .any e&&Nat.beq e.on i
theorem zvU {z i:Nat} (h:zdep ops z i=true):∀ oz,ops[z]?=some oz→∃ e∈oz.after,Region.binds .any e=true∧e.on=i:=by
 intro oz hoz
 unfold zdep at h
 rw [hoz] at h
 simp only [List.any_eq_true,Bool.and_eq_true] at h
 obtain ⟨e,he,hb,hn⟩:=h
 exact⟨e,by simpa using he,hb,Nat.eq_of_beq_eq_true hn⟩
def Tr.chkZ (ops:Array Oper) (z:Nat):Tr→Nat→Bool→Bool→Array Bool→Bool
 | .done,_,top,_,l=>top&&(Region.ready .any ops l).isEmpty
 | .stop,_,top,_,_=>!top
 | .hoist i t,f,top,zd,l=>!zd&&zdep ops z i&&top&&decide (0<f)&&(Region.ready .any ops l).contains i&&Region.free .any ops l i&&t.chkZ ops z (f-1) true zd (l.setIfInBounds i true)
 | .alts i t more,f,top,zd,l=>(!top||(Region.ready .any ops l).all fun j=>(i::more.heads).contains j)&&decide (0<f)&&(Region.ready .any ops l).contains i&&t.chkZ ops z (f-1) true (zd||Nat.beq i z) (l.setIfInBounds i true)&&more.chkZ ops z f false zd l
end any
section anyE
variable {cx:Cx}
def zsO (cx:Cx) (mC:Mem) (z:Nat) (ops:List Oper) (kp:List PanicEntry→Mem→Prop) (i:Nat) (ih more:Env→Mem→Prop):Env→Mem→Prop:=fun e m=>(match nth ops i with
 | some o=>match o.guard with
  | none=>XO cx o.dst o.op o.type e m (fun v m'=>match Nat.beq i z with
   | true=>ih (e.putD o.dst v) m'
   | false=>SubM cx m' mC∧ih (e.putD o.dst v) m') kp
  | some _=>False
 | none=>False)∧more e m
noncomputable def XTZ (cx:Cx) (mC:Mem) (z:Nat) (ops:List Oper) (k:Env→Mem→Prop) (kp:List PanicEntry→Mem→Prop) (t:Tr):Env→Mem→Prop :=
 Tr.rec (motive:=fun _=>Env→Mem→Prop) k (fun _ _=>True) (fun i _ ih=>zg1 cx mC ops i ih) (fun i _ _ ih more=>zsO cx mC z ops kp i ih more) t
theorem zyo (ht:TabOk cx.P cx.tab) {ops:Array Oper} {mC:Mem} {z:Nat} {k:Env→Mem→Prop} {kp:List PanicEntry→Mem→Prop} (hsel:Region.noSelect ops=true) (hds:zbG cx.n ops.toList=true):∀ (t:Tr) (f:Nat) (top zd:Bool) (listed:Array Bool) (e:Env) (m:Mem) (a:Act) (w:World),
  Tr.chkZ ops z t f top zd listed=true→EnvOk cx.n cx.df e a→MemOk cx.w0 cx.S m w→(zd=false→MemOk cx.w0 cx.S mC w)→XTZ cx mC z ops.toList k kp t e m →
  (top=true→AnyZ cx.P .any ops (MemOk cx.w0 cx.S mC) z (QT cx k kp) f listed a w) ∧
  (top=false→∀ i∈t.heads,0<f∧wpOp cx.P ops (QT cx k kp) i (fun a' w'=>(i≠z→MemOk cx.w0 cx.S mC w')∧AnyZ cx.P .any ops (MemOk cx.w0 cx.S mC) z (QT cx k kp) (f-1) (listed.setIfInBounds i true) a' w') a w):=by
 intro t
 induction t with
 | done =>
  intro f top zd listed e m a w hc he hm hmC h
  simp only [Tr.chkZ,Bool.and_eq_true,List.isEmpty_iff] at hc
  refine⟨fun _=>?_,fun h0=>absurd (hc.1.symm.trans h0) (by decide)⟩
  have hq:QT cx k kp .normal a w:=⟨e,m,he,hm,h⟩
  cases f with
  | zero=>exact⟨hc.2,hq⟩
  | succ f=>exact⟨fun _=>hq,fun i hi=>by rw [hc.2] at hi;cases hi⟩
 | stop =>
  intro f top zd listed e m a w hc he hm hmC h
  simp only [Tr.chkZ,Bool.not_eq_true'] at hc
  exact⟨fun h0=>absurd (h0.symm.trans hc) (by decide),fun _ i hi=>by cases hi⟩
 | hoist i t ih =>
  intro f top zd listed e m a w hc he hm hmC h
  simp only [Tr.chkZ,Bool.and_eq_true,decide_eq_true_eq] at hc
  obtain ⟨⟨⟨⟨⟨⟨hzd,hzp⟩,htop⟩,hf⟩,hr⟩,hfr⟩,hc⟩:=hc
  rw [Bool.not_eq_true'] at hzd
  refine⟨fun _=>?_,fun h0=>absurd (htop.symm.trans h0) (by decide)⟩
  change zg1 cx mC ops.toList i (XTZ cx mC z ops.toList k kp t) e m at h
  unfold zg1 at h
  split at h
  ·rename_i o ho
   have hi:ops[i]?=some o:=by rw [zcr] at ho;simpa using ho
   split at h
   ·rename_i hg
    obtain ⟨v,hy,hk⟩:=zvO ht he h
    obtain ⟨f,rfl⟩:∃ f',f=f'+1:=⟨f-1,by omega⟩
    have hds':=zcY hds ho
    have:=(ih f true zd (listed.setIfInBounds i true) _ m (a.put o.dst v) w hc (he.put hds' v) hm hmC hk).1 rfl
    exact AnyZ.first QT.blind hi (Region.noSelect_spec hsel) (zvU hzp) f listed a w (hmC hzd) (Region.free_spec hi hfr) (by simpa using hr) ⟨za8 hg,hy⟩ this
   ·exact h.elim
  ·exact h.elim
 | alts i t more ih ihm =>
  intro f top zd listed e m a w hc he hm hmC h
  simp only [Tr.chkZ,Bool.and_eq_true,decide_eq_true_eq] at hc
  obtain ⟨⟨⟨⟨hcov,hf⟩,hri⟩,hct⟩,hcm⟩:=hc
  change zsO cx mC z ops.toList kp i (XTZ cx mC z ops.toList k kp t) (XTZ cx mC z ops.toList k kp more) e m at h
  obtain ⟨h1,h2⟩:=h
  have hmore:=(ihm f false zd listed e m a w hcm he hm hmC h2).2 rfl
  have hhead:wpOp cx.P ops (QT cx k kp) i (fun a' w'=>(i≠z→MemOk cx.w0 cx.S mC w')∧AnyZ cx.P .any ops (MemOk cx.w0 cx.S mC) z (QT cx k kp) (f-1) (listed.setIfInBounds i true) a' w') a w:=by
   split at h1
   ·rename_i o ho
    have hi:ops[i]?=some o:=by rw [zcr] at ho;simpa using ho
    have hds':=zcY hds ho
    split at h1
    ·rename_i hg
     unfold wpOp
     simp only [hi,za8 hg,if_true]
     refine .inl (zsP ht he hm h1 (fun v m' w' hm' hk=>?_) (fun ch m' w' hm' hk=>⟨he.nil,m',hm',hk⟩))
     split at hk
     ·rename_i hb
      have hiz:=Nat.eq_of_beq_eq_true hb
      exact⟨fun hn=>absurd hiz hn,(ih (f-1) true _ (listed.setIfInBounds i true) _ m' (a.put o.dst v) w' hct (he.put hds' v) hm' (fun h0=>by rw [hb,Bool.or_true] at h0;cases h0) hk).1 rfl⟩
     ·rename_i hb
      have hmC':=hk.1 w' hm'
      exact⟨fun _=>hmC',(ih (f-1) true _ (listed.setIfInBounds i true) _ m' (a.put o.dst v) w' hct (he.put hds' v) hm' (fun _=>hmC') hk.2).1 rfl⟩
    ·exact h1.elim
   ·exact h1.elim
  have hall:∀ j∈(Tr.alts i t more).heads,0<f∧wpOp cx.P ops (QT cx k kp) j (fun a' w'=>(j≠z→MemOk cx.w0 cx.S mC w')∧AnyZ cx.P .any ops (MemOk cx.w0 cx.S mC) z (QT cx k kp) (f-1) (listed.setIfInBounds j true) a' w') a w:=by
   intro j hj
   rcases List.mem_cons.1 hj with rfl|hj
   ·exact⟨hf,hhead⟩
   ·exact hmore j hj
  refine⟨fun htop=>?_,fun _=>hall⟩
  subst htop
  simp only [Bool.not_true,Bool.false_or,List.all_eq_true,List.contains_iff_mem] at hcov
  obtain ⟨f,rfl⟩:∃ f',f=f'+1:=⟨f-1,by omega⟩
  have hri':i∈Region.ready .any ops listed:=by simpa using hri
  refine⟨fun h0=>(by rw [h0] at hri';cases hri'),fun j hj=>(hall j ?_).2⟩
  have:=hcov j hj
  simpa [Tr.heads] using this
theorem ziM {γ:Type} (z:Nat) (t:Tr) (mC:Mem) (ht:TabOk cx.P cx.tab) (hmix:cx.P.follows .mixedOrders=true) {id:Nat} {ops:Array Oper} (hc:(Region.noSelect ops&&Tr.chkZ ops z t ops.size true false (Array.replicate ops.size false))=true) (hds:zbG cx.n ops.toList=true) {k:Exit→Env→Mem→Prop} {e:Env} {m:Mem}
  (I:γ→Prop) (E:γ→Env) (M:γ→Mem) (hmC:SubM cx m mC)
  (h:XTZ cx mC z ops.toList (fun e m=>∃ g,I g∧Env.sub (E g) e∧SubM cx m (M g)) (fun ch m=>k (.panic ch) [] m) t e m)
  (hk:∀ g,I g→k .normal (E g) (M g)):Dr cx id ops k e m:=by
 intro a w he hm
 simp only [Bool.and_eq_true] at hc
 have hm':=hm.same (zeu w (w.drawn+1))
 have:=((zyo ht hc.1 hds t ops.size true false _ e m a _ hc.2 he hm' (fun _=>hmC _ hm') h).1 rfl).any
 refine wp_mono (wp_region_any hmix this) ?_
 intro ex a' w' hq
 cases ex with
 | normal =>
  obtain ⟨e',m',h1,h2,g,h3,h4,h5⟩:=hq
  exact⟨E g,M g,h1.sub h4,h5 _ h2,hk g h3⟩
 | panic ch =>
  obtain ⟨h1,m',h2,h3⟩:=hq
  exact⟨[],m',h1,h2,h3⟩
 | exit id=>exact hq.elim
 | goto l=>exact hq.elim
 | ret=>exact hq.elim
 | outgrown=>exact hq.elim
end anyE
end Go.Proofs.YtlmgelmloddfgaaGreat.Eng
namespace Go.Proofs.YtlmgelmloddfgaaGreat
open Go Go.RowKit Eng
structure Rdr where
 B:Nat
 A:Option Addr
 c:Nat
 bs:List UInt8
abbrev rdC (q:Rdr) (at_:Nat):List Value:=[.slice q.A q.bs.length q.c,.int .i64 (at_:Int)]
abbrev RM (q:Rdr) (at_:Nat):Mem:=[.blk q.B (.cells (rdC q at_).toArray 267),.row q.A q.c q.bs.length 5 1 ((zah q.bs).map (.int .u8))]
def zlh (bs:List UInt8) (from_:Nat):Nat→Nat
 | 0=>0
 | i+1=>zlh bs from_ i+(bs.getD (from_+i) 0).toNat*2 ^ (8*i)
theorem zjR (bs:List UInt8) (f:Nat):∀ i,zlh bs f i<2 ^ (8*i)
 | 0=>by simp [zlh]
 | i+1=>by
  have h1:=zjR bs f i
  have h2:=(bs.getD (f+i) 0).toNat_lt
  have h3:(bs.getD (f+i) 0).toNat*2 ^ (8*i)≤255*2 ^ (8*i):=Nat.mul_le_mul_right _ (by omega)
  have h4:2 ^ (8*(i+1))=256*2 ^ (8*i):=by rw [show 8*(i+1)=8*i+8 by omega,Nat.pow_add];omega
  rw [zlh];omega
def zbU (bs:List UInt8) (at_ n:Nat):Nat:=zlh bs (at_/8) 8/2 ^ (at_%8)%2 ^ n
theorem zhw (bs:List UInt8) (at_ n:Nat):zbU bs at_ n<2 ^ n:=Nat.mod_lt _ (Nat.two_pow_pos n)
theorem eqRd (t:Nat) (a:Addr) (w:World):(zdS .eql 229 (.tmp t) (.const (.pointer none)) (.pointer (some a)) (.pointer none)).run Tryz.prog w=.ok (.bool false) w:=by kernel_rfl
theorem zdn (bs:List UInt8) (j:Nat) (h:j<bs.length):((zah bs).map (Value.int .u8))[j]?=some (.int .u8 ((bs.getD j 0).toNat:Int)):=by
 have h2:(zah bs)[j]?=some ((bs.getD j 0).toNat:Int):=by
  rw [← zfV,List.getD_eq_getElem?_getD]
  have:j<(zah bs).length:=by rw [zag];exact h
  rw [List.getElem?_eq_getElem this];rfl
 rw [List.getElem?_map,h2];rfl
theorem zc0 {w:World} {A:Option Addr} {cap n t:Nat} {xs:List Value} (h:w.ownsRow 0 t 1 (.slice A n cap) n xs) (hn:0<n):Pl A:=by
 have hl:=h.1
 obtain ⟨b,rfl,_⟩:=zaV h (j:=0) (v:=xs[0]'(by omega)) (List.getElem?_eq_getElem (by omega))
 exact Pl.mk _ _
theorem zhu {w:World} {a:Addr} {cap n t:Nat} {xs:List Value} (h:w.ownsRow 0 t 1 (.slice (some a) n cap) n xs):Pl (some a):=by
 rcases h.2 with ⟨h0,_⟩|⟨b,cap',cur,hv,_⟩
 ·cases h0
 ·injection hv with e1 _ e3
  rw [e1];exact Pl.mk _ _
theorem zb3 (ys xs:List Value) (h:ys.length=xs.length):zbu 0 ys xs=ys:=by
 rw [zaS _ _ _ (by omega)]
 simp [h]
theorem zm8 (l:List UInt8) (n:Nat):zah (l.take n)=(zah l).take n:=by unfold zah;rw [List.map_take]
attribute [local irreducible] Br Rn RnU Cl RdG CpG Ld Rd Lp Dr Oth Cut fin Fits Eng.Enters Md NA
theorem zfX:Eng.Enters Tryz.prog 214:=zab fun _ _=>by kernel_rfl
theorem zm7:Eng.Enters Tryz.prog 204:=zab fun _ _=>by kernel_rfl
theorem za2:Eng.Enters Tryz.prog 173:=zab fun _ _=>by kernel_rfl
theorem zmw:Eng.Enters Tryz.prog 194:=zab fun _ _=>by kernel_rfl
theorem zpH:Eng.Enters Tryz.prog 196:=zab fun _ _=>by kernel_rfl
theorem ziU:Eng.Enters Tryz.prog 136:=zab fun _ _=>by kernel_rfl
theorem zhn:Eng.Enters Tryz.prog 166:=zab fun _ _=>by kernel_rfl
theorem zkF (q:Rdr) (at_:Nat) (w:World) (hl:q.bs.length≤20000000) (ha:at_≤8*q.bs.length) (hm:MemOk w (Foot (RM q at_)) (RM q at_) w) :
  Ctr Tryz.prog 214 [.pointer (some ⟨q.B,0,none⟩)] (RM q at_) (fun e m'=>e=.returned (.int .i64 (8*(q.bs.length:Int)-at_))∧m'=RM q at_) w:=by
 refine enter (cx:=CXS 16 [] w (Foot (RM q at_))) [(0,.pointer (some ⟨q.B,0,none⟩))] zaa Tryz.func214 rfl rfl rfl rfl hm ?_
 refine gGw ?_
 refine Rd.n (zco fun w=>eqRd _ _ w) ?_
 conv=>whnf
 refine br_f rfl ?_
 conv=>whnf
 refine zar zaa mixed (by kernel_rfl) rfl ?_;conv=>whnf
 refine gG0 ?_
 exact fin1 rfl rfl (fun w' hm=>⟨_,⟨rfl,rfl⟩,hm⟩)
theorem zwH {x:Nat} {b i:Nat} (hx:x<2 ^ (8*i)) (hb:b<256) (hi:i<8):bits .or .u64 (x:Int) (IntKind.u64.wrap ((b:Int)*2 ^ Int.toNat (8*(i:Int))))=((x+b*2 ^ (8*i):Nat):Int):=by
 have e0:Int.toNat (8*(i:Int))=8*i:=by omega
 have h4:2 ^ (8*(i+1))=256*2 ^ (8*i):=by rw [show 8*(i+1)=8*i+8 by omega,Nat.pow_add];omega
 have h5:2 ^ (8*(i+1))≤2 ^ 64:=Nat.pow_le_pow_right (by omega) (by omega)
 have h6:b*2 ^ (8*i)≤255*2 ^ (8*i):=Nat.mul_le_mul_right _ (by omega)
 have h7:0<2 ^ (8*i):=Nat.two_pow_pos _
 have e1:IntKind.u64.wrap ((b:Int)*2 ^ Int.toNat (8*(i:Int)))=((b*2 ^ (8*i):Nat):Int):=by
  rw [e0]
  have:(b:Int)*2 ^ (8*i)=((b*2 ^ (8*i):Nat):Int):=by push_cast;rfl
  rw [this]
  exact wraps_u64 _ (by omega) (by have:((b*2 ^ (8*i):Nat):Int)<((2 ^ 64:Nat):Int):=Int.ofNat_lt.2 (by omega);simpa using this)
 rw [e1]
 have hm:((b*2 ^ (8*i):Nat):Int)%2 ^ (8*i)=0:=by
  have:((b*2 ^ (8*i)%2 ^ (8*i):Nat):Int)=0:=by rw [Nat.mul_mod_left];rfl
  push_cast at this ⊢
  exact this
 rw [bits_join_low .u64 64 (by decide) wraps_u64 (8*i) _ _ (by omega) (by exact_mod_cast hx) (by have:(x:Int)<((2 ^ 64:Nat):Int):=Int.ofNat_lt.2 (by omega);simpa using this) (by omega) hm (by have:((b*2 ^ (8*i):Nat):Int)<((2 ^ 64:Nat):Int):=Int.ofNat_lt.2 (by omega);simpa using this)]
 push_cast;rfl
theorem zxN {x:Int} (n:Nat) (hn:n≤57) (hx:0≤x∧x<18446744073709551616):Go.bits .and .u64 x (IntKind.u64.wrap (1*2 ^ Int.toNat (n:Int))-1)=x%2 ^ n:=by
 have h:=bits_mask .u64 64 (by decide) wraps_u64 n (by omega) x hx.1 (by omega)
 have e:IntKind.u64.wrap (1*2 ^ Int.toNat (n:Int))-1=2 ^ n-1:=by
  rw [Int.toNat_natCast,Int.one_mul]
  have h1:(2:Int) ^ n=((2 ^ n:Nat):Int):=by push_cast;rfl
  have h2:2 ^ n<2 ^ 64:=Nat.pow_lt_pow_right (by omega) (by omega)
  rw [h1,wraps_u64 _ (by omega) (by have:((2 ^ n:Nat):Int)<((2 ^ 64:Nat):Int):=Int.ofNat_lt.2 h2;simpa using this)]
 rw [e];exact h
theorem zwI (n:Nat) (hn:n≤57):Fits .u64 (IntKind.u64.wrap (1*2 ^ Int.toNat (n:Int))-1):=by
 rw [Int.toNat_natCast,Int.one_mul]
 have h1:(2:Int) ^ n=((2 ^ n:Nat):Int):=by push_cast;rfl
 have h2:2 ^ n<2 ^ 64:=Nat.pow_lt_pow_right (by omega) (by omega)
 have h3:0<2 ^ n:=Nat.two_pow_pos n
 have h4:(2:Nat) ^ 64=18446744073709551616:=by decide
 rw [h1,wraps_u64 _ (by omega) (by have:((2 ^ n:Nat):Int)<((2 ^ 64:Nat):Int):=Int.ofNat_lt.2 h2;simpa using this)]
 exact zak (by omega)
theorem zok (q:Rdr) (at_ n:Nat) (w:World) (hl:q.bs.length≤20000000) (ha:at_≤8*q.bs.length) (hn:n≤57) (hm:MemOk w (Foot (RM q at_)) (RM q at_) w) :
  Ctr Tryz.prog 204 [.pointer (some ⟨q.B,0,none⟩),.int .i64 (n:Int)] (RM q at_) (fun e m'=>e=.returned (.tuple #[.int .u64 (zbU q.bs at_ n),  .int .i64 (if 8*(q.bs.length:Int)-at_<(n:Int) then 8*(q.bs.length:Int)-at_ else (n:Int)),.int .i64 0])∧m'=RM q at_) w:=by
 refine enter (cx:=CXS 70 [] w (Foot (RM q at_))) [(0,.pointer (some ⟨q.B,0,none⟩)),(1,.int .i64 (n:Int))] zaa Tryz.func204 rfl rfl rfl rfl hm ?_
 have ed:IntKind.i64.wrap ((at_:Int).tdiv 8)=((at_/8:Nat):Int):=by
  rw [Int.tdiv_eq_ediv_of_nonneg (by omega)];exact (IntWalk.i64_in _ (by omega)).trans (by omega)
 have em:(at_:Int).tmod 8=((at_%8:Nat):Int):=by rw [Int.tmod_eq_emod_of_nonneg (by omega)];omega
 refine gGw ?_
 refine Rd.n (zco fun w=>eqRd _ _ w) ?_
 conv=>whnf
 refine br_f rfl ?_
 refine gGw ?_
 refine br_f (by rw [decide_eq_false (by omega),decide_eq_false (by omega)];rfl) ?_
 refine gGw ?_
 rw [ed]
 refine lp zaa (γ:=Nat) (fun i=>i≤8) (fun i=>[(25,.int .i64 (i:Int)),(7,.int .u64 (zlh q.bs (at_/8) i:Nat)),(8,.int .i64 ((at_/8:Nat):Int)),(0,.pointer (some ⟨q.B,0,none⟩)),(1,.int .i64 (n:Int))]) (fun _=>RM q at_) (fun i=>8-i) 0 (by omega)
  ⟨rfl,rfl,rfl,rfl,rfl,trivial⟩ (SubM.refl _ _) ?_
 rintro i hi
 dsimp only
 conv=>whnf
 refine br_d (fun hlt=>?_) (fun hge=>?_)
 ·have hi8:i<8:=by omega
  have hwl:=zjR q.bs (at_/8) i
  refine gGw ?_
  refine br_d (fun hin=>?_) (fun hout=>?_)
  ·have hjl:at_/8+i<q.bs.length:=by omega
   have hb:=(q.bs.getD (at_/8+i) 0).toNat_lt
   have hpl:Pl q.A:=zc0 (hm.ok (.row q.A q.c q.bs.length 5 1 ((zah q.bs).map (.int .u8))) (by simp)) (by omega)
   refine gGw ?_
   refine And.intro ⟨by omega,by omega,hpl⟩ ?_
   conv=>whnf
   refine zaj (ldR zaa (by repeat constructor) rfl rfl (j:=at_/8+i) (zdn q.bs _ hjl)) ?_
   refine gGw ?_
   refine And.intro ⟨by omega,show 8*(i:Int)≤(64:Int) by omega⟩ ?_
   refine gGw ?_
   refine⟨i+1,by omega,by omega,⟨rfl,?_,rfl,rfl,rfl,trivial⟩,SubM.refl _ _⟩
   exact congrArg (fun x=>some (Value.int .u64 x)) (zwH hwl hb hi8)
  ·refine gGw ?_
   refine⟨i+1,by omega,by omega,⟨rfl,?_,rfl,rfl,rfl,trivial⟩,SubM.refl _ _⟩
   refine congrArg (fun x:Nat=>some (Value.int .u64 (x:Int))) ?_
   rw [zlh,List.getD_eq_getElem?_getD,List.getElem?_eq_none (by omega)]
   simp
 ·have hi8:i=8:=by omega
  subst hi8
  have hwl:=zjR q.bs (at_/8) 8
  generalize hWD:zlh q.bs (at_/8) 8=W at hwl
  refine gGw ?_
  rw [em]
  refine And.intro ⟨by omega,show ((at_%8:Nat):Int)≤(64:Int) by omega⟩ ?_
  refine gGw ?_
  refine And.intro ⟨by omega,show (n:Int)≤(64:Int) by omega⟩ ?_
  conv=>whnf
  refine And.intro (zwI n hn) ?_
  refine gGw ?_
  refine⟨zfX,zac (m1:=RM q at_) (by repeat constructor) (fun w' hm'=>zkF q at_ w' hl ha hm'.part) ?_⟩
  rintro e m' ⟨rfl,rfl⟩
  refine gGw ?_
  refine fin3 rfl rfl rfl rfl (fun w' hm=>⟨_,⟨?_,rfl⟩,hm⟩)
  have hx:0≤(W:Int)/2 ^ Int.toNat ((at_%8:Nat):Int)∧(W:Int)/2 ^ Int.toNat ((at_%8:Nat):Int)<18446744073709551616:=by
   have hp:(0:Int)<2 ^ Int.toNat ((at_%8:Nat):Int):=Int.pow_pos (by omega)
   have h2:=Int.ediv_nonneg (show 0≤(W:Int) by omega) (Int.le_of_lt hp)
   have h3:=Int.ediv_le_self (2 ^ Int.toNat ((at_%8:Nat):Int)) (show 0≤(W:Int) by omega)
   have h4:(2:Nat) ^ (8*8)=18446744073709551616:=by decide
   omega
  rw [zxN n hn hx,zbU,hWD,Int.toNat_natCast]
  push_cast
  rfl
def zgE (q:Rdr) (at_ n:Nat):Nat × Int × Nat:=if at_+n≤8*q.bs.length then (zbU q.bs at_ n,0,at_+n) else (0,120,at_)
theorem zbP (q:Rdr) (at_ n:Nat) (w:World) (hl:q.bs.length≤20000000) (ha:at_≤8*q.bs.length) (hn:n≤57) (hm:MemOk w (Foot (RM q at_)) (RM q at_) w) :
  Ctr Tryz.prog 173 [.pointer (some ⟨q.B,0,none⟩),.int .i64 (n:Int)] (RM q at_) (fun e m'=>e=.returned (.tuple #[.int .u64 ((zgE q at_ n).1:Nat),.int .i64 (zgE q at_ n).2.1])∧m'=RM q (zgE q at_ n).2.2) w:=by
 refine enter (cx:=CXS 33 [] w (Foot (RM q at_))) [(0,.pointer (some ⟨q.B,0,none⟩)),(1,.int .i64 (n:Int))] zaa Tryz.func173 rfl rfl rfl rfl hm ?_
 refine gGw ?_
 refine⟨zm7,zac (m1:=RM q at_) (by repeat constructor) (fun w' hm'=>zok q at_ n w' hl ha hn hm'.part) ?_⟩
 rintro e m' ⟨rfl,rfl⟩
 refine gGw ?_
 refine br_f rfl ?_
 refine gGw ?_
 by_cases hle:at_+n≤8*q.bs.length
 ·have e1:(if 8*(q.bs.length:Int)-at_<(n:Int) then 8*(q.bs.length:Int)-at_ else (n:Int))=n:=if_neg (by omega)
  rw [e1]
  refine br_f (decide_eq_false (by omega)) ?_
  refine gGw ?_
  rw [zgE,if_pos hle]
  exact fin2 rfl rfl rfl (fun w' hm=>⟨_,⟨rfl,rfl⟩,hm⟩)
 ·have e1:(if 8*(q.bs.length:Int)-at_<(n:Int) then 8*(q.bs.length:Int)-at_ else (n:Int))=8*(q.bs.length:Int)-at_:=if_pos (by omega)
  rw [e1]
  refine br_t (decide_eq_true (by omega)) ?_
  refine gGw ?_
  rw [zgE,if_neg hle]
  exact fin2 rfl rfl rfl (fun w' hm=>⟨_,⟨rfl,rfl⟩,hm⟩)
theorem zt4 (q:Rdr) (at_ n:Nat) (w:World) (hl:q.bs.length≤20000000) (ha:at_+n≤8*q.bs.length) (hm:MemOk w (Foot (RM q at_)) (RM q at_) w) :
  Ctr Tryz.prog 234 [.pointer (some ⟨q.B,0,none⟩),.int .i64 (n:Int)] (RM q at_) (fun e m'=>e=.returned (.int .i64 0)∧m'=RM q (at_+n)) w:=by
 refine enter (cx:=CXS 24 [] w (Foot (RM q at_))) [(0,.pointer (some ⟨q.B,0,none⟩)),(1,.int .i64 (n:Int))] zaa Tryz.func234 rfl rfl rfl rfl hm ?_
 refine gGw ?_
 refine Rd.n (zco fun w=>eqRd _ _ w) ?_
 conv=>whnf
 refine br_f rfl ?_
 refine gGw ?_
 refine br_f (decide_eq_false (by omega)) ?_
 refine gGw ?_
 refine⟨zfX,zac (m1:=RM q at_) (by repeat constructor) (fun w' hm'=>zkF q at_ w' hl (by omega) hm'.part) ?_⟩
 rintro e m' ⟨rfl,rfl⟩
 refine gGw ?_
 refine br_f (decide_eq_false (by omega)) ?_
 refine gGw ?_
 exact fin1 rfl rfl (fun w' hm=>⟨_,⟨rfl,rfl⟩,hm⟩)
theorem zsJ (q:Rdr) (at_:Nat) (w:World) (hm:MemOk w (Foot (RM q at_)) (RM q at_) w) :
  Ctr Tryz.prog 136 [.pointer (some ⟨q.B,0,none⟩)] (RM q at_) (fun e m'=>e=.returned (.int .i64 (at_:Int))∧m'=RM q at_) w:=by
 refine enter (cx:=CXS 9 [] w (Foot (RM q at_))) [(0,.pointer (some ⟨q.B,0,none⟩))] zaa Tryz.func136 rfl rfl rfl rfl hm ?_
 refine gGw ?_
 refine Rd.n (zco fun w=>eqRd _ _ w) ?_
 conv=>whnf
 refine br_f rfl ?_
 refine gGw ?_
 exact fin1 rfl rfl (fun w' hm=>⟨_,⟨rfl,rfl⟩,hm⟩)
def zb8 (at_:Nat):Nat:=(at_+7)/8*8
theorem zoA (n:Int):bits .and .i64 n 7=n%8:=by
 have h7:(BitVec.ofInt 64 7).toNat=2 ^ 3-1:=by decide
 have key:(BitVec.ofInt 64 n &&& BitVec.ofInt 64 7).toNat=(n%((2 ^ 64:Nat):Int)).toNat%2 ^ 3:=by
  rw [BitVec.toNat_and,BitVec.toNat_ofInt,h7,Nat.and_two_pow_sub_one_eq_mod]
 show IntKind.i64.wrap ((BitVec.ofInt 64 n &&& BitVec.ofInt 64 7).toNat:Nat)=n%8
 rw [key,IntKind.wrap_i64]
 omega
theorem zvg {a:Nat}:(a:Int)+Go.bits .and .i64 (0-(a:Int)) 7=((zb8 a:Nat):Int):=by
 rw [zoA];unfold zb8;omega
theorem zeO {w:World} {A:Option Addr} {cap n t:Nat} {xs:List Value} (h:w.ownsRow 0 t 1 (.slice A n cap) n xs):n≤cap:=by
 have hl:=h.1
 rcases h.2 with ⟨_,h0⟩|⟨b,cap',cur,hv,_,hb,hc,_⟩
 ·subst h0;simp at hl;omega
 ·injection hv with e1 _ e3
  omega
theorem zsN (q:Rdr) (at_:Nat) (w:World) (hl:q.bs.length≤20000000) (ha:at_≤8*q.bs.length) (hm:MemOk w (Foot (RM q at_)) (RM q at_) w) :
  Ctr Tryz.prog 194 [.pointer (some ⟨q.B,0,none⟩)] (RM q at_) (fun e m'=>e=.returned (.int .i64 0)∧m'=RM q (zb8 at_)) w:=by
 refine enter (cx:=CXS 18 [15] w (Foot (RM q at_))) [(0,.pointer (some ⟨q.B,0,none⟩))] zaa Tryz.func194 rfl rfl rfl rfl hm ?_
 refine gGw ?_
 refine Rd.n (zco fun w=>eqRd _ _ w) ?_
 conv=>whnf
 refine br_f rfl ?_
 conv=>whnf
 refine zcH 11 zaa mixed (by kernel_rfl) rfl rfl ?_
 refine gGw ?_
 refine fin1 rfl rfl (fun w' hm=>⟨_,⟨rfl,rfl⟩,?_⟩)
 have e:IntKind.i64.wrap ((at_:Int)+Go.bits .and .i64 (0-(at_:Int)) 7)=((zb8 at_:Nat):Int):=by
  rw [zvg];exact IntWalk.i64_in _ (by unfold zb8;omega)
 rw [e] at hm
 exact hm
def rawB (q:Rdr) (at_ n:Nat):Prop:=at_%8=0∧n≤(8*q.bs.length-at_)/8
instance (q:Rdr) (at_ n:Nat):Decidable (rawB q at_ n):=inferInstanceAs (Decidable (_∧_))
def RawR (q:Rdr) (at_ n:Nat) (e:Ending) (m':Mem):Prop :=
 if rawB q at_ n then ∃ A c,e=.returned (.tuple #[.slice A n c,.int .i64 0])∧m'=.row A c n 5 1 ((zah ((q.bs.drop (at_/8)).take n)).map (.int .u8))::RM q (at_+8*n)
 else e=.returned (.tuple #[.slice none 0 0,.int .i64 120])∧m'=RM q at_
theorem zwE (q:Rdr) (at_ n:Nat) (w:World) (hl:q.bs.length≤20000000) (ha:at_≤8*q.bs.length) (hn:n≤65535) (hm:MemOk w (Foot (RM q at_)) (RM q at_) w) :
  Ctr Tryz.prog 196 [.pointer (some ⟨q.B,0,none⟩),.int .i64 (n:Int)] (RM q at_) (RawR q at_ n) w:=by
 refine enter (cx:=CXS 50 [] w (Foot (RM q at_))) [(0,.pointer (some ⟨q.B,0,none⟩)),(1,.int .i64 (n:Int))] zaa Tryz.func196 rfl rfl rfl rfl hm ?_
 have ed:IntKind.i64.wrap ((at_:Int).tdiv 8)=((at_/8:Nat):Int):=by
  rw [Int.tdiv_eq_ediv_of_nonneg (by omega)];exact (IntWalk.i64_in _ (by omega)).trans (by omega)
 have el:IntKind.i64.wrap ((8*(q.bs.length:Int)-at_).tdiv 8)=(((8*q.bs.length-at_)/8:Nat):Int):=by
  rw [Int.tdiv_eq_ediv_of_nonneg (by omega)];exact (IntWalk.i64_in _ (by omega)).trans (by omega)
 have hcap:q.bs.length≤q.c:=zeO (hm.ok (.row q.A q.c q.bs.length 5 1 ((zah q.bs).map (.int .u8))) (by simp))
 unfold RawR
 refine gGw ?_
 refine Rd.n (zco fun w=>eqRd _ _ w) ?_
 conv=>whnf
 refine br_f rfl ?_
 refine gGw ?_
 refine br_f (decide_eq_false (by omega)) ?_
 refine gGw ?_
 rw [zoA]
 refine br_n (br_d (fun hx=>?_) (fun hx=>?_))
 ·refine gGw ?_
  refine⟨zfX,zac (m1:=RM q at_) (by repeat constructor) (fun w' hm'=>zkF q at_ w' hl (by omega) hm'.part) ?_⟩
  rintro e m' ⟨rfl,rfl⟩
  refine gGw ?_
  rw [el]
  refine br_d (fun hgt=>?_) (fun hle=>?_)
  ·have hr:¬ rawB q at_ n:=fun h=>by have:=h.2;omega
   simp only [hr,if_false]
   refine gGw ?_
   exact fin2 rfl rfl rfl (fun w' hm=>⟨_,⟨rfl,rfl⟩,hm⟩)
  ·have hr:rawB q at_ n:=⟨by omega,by omega⟩
   simp only [hr,if_true]
   have hn2:Nat.min (zah (q.bs.drop (at_/8))).length n=n:=by
    rw [zag,List.length_drop];exact Nat.min_eq_right (by omega)
   have hdl:(zah (q.bs.drop (at_/8))).length=q.bs.length-at_/8:=by rw [zag,List.length_drop]
   refine gGw ?_
   refine zc6 zaa rfl rfl rfl rfl rfl (by omega) (by simp only [Int.toNat_natCast];have:ty5.bytes=1:=rfl;rw [this];omega) (by omega) (fun zB=>?_)
   rw [Int.toNat_natCast]
   conv=>whnf
   have hsrc:∀ w',MemOk w (Foot (RM q at_)) (.row (some ⟨zB,0,none⟩) n n 5 1 (List.replicate n (.int .u8 0))::RM q at_) w'→BytsIn w' (cutA q.A q.c (at_/8) 1) (q.bs.drop (at_/8)):=fun w' hm'=>by
    have h1:BytsIn w' q.A q.bs:=rowI (hm'.ok (.row q.A q.c q.bs.length 5 1 ((zah q.bs).map (.int .u8))) (by simp))
    have h2:=BytsIn.sub h1 q.c (at_/8) (q.bs.length-at_/8) (by omega) hcap
    rwa [List.take_of_length_le (by rw [List.length_drop];omega)] at h2
   refine ziM (γ:=Unit) 20 (Tr.hs [0,1,2,3,4,5,6,7,8,9,10,11,12,13,14] (.sq [15] (.hs [16,17] (.sq [18,19,20] .done)))) (RM q at_) zaa mixed (by kernel_rfl) rfl (fun _=>True)
    (fun _=>[(6,.slice (some ⟨zB,0,none⟩) n n)]) (fun _=>.row (some ⟨zB,0,none⟩) n n 5 1 ((zah ((q.bs.drop (at_/8)).take n)).map (.int .u8))::RM q (at_+8*n)) SubM.sl ?_ ?_
   ·refine gGw ?_
    rw [ed]
    refine And.intro ⟨by omega,by omega,by omega,Classical.or_iff_not_imp_left.2 (fun hne=>?_)⟩ ?_
    ·cases hA:q.A with
     | none=>exact absurd hA hne
     | some a=>exact zhu (hA ▸ hm.ok (.row q.A q.c q.bs.length 5 1 ((zah q.bs).map (.int .u8))) (by simp))
    refine gGw ?_
    rw [Int.toNat_natCast,Int.toNat_natCast,← hdl]
    refine zhv zaa rfl rfl rfl rfl (by repeat constructor) (by rfl:some (⟨zB,0,none⟩:Addr)=pl (some ⟨zB,0,none⟩) 0) (k:=.u8) (ys:=zah (q.bs.drop (at_/8))) (fun w' hm'=>hsrc w' (hm'.sel (by repeat constructor))) (by omega) ?_
    rw [hn2]
    conv=>whnf
    refine gGs ?_
    refine gGt ?_
    rw [zb3 _ _ (by rw [List.length_map,List.length_take,List.length_replicate,hdl];omega),← zm8]
    exact⟨(),trivial,⟨rfl,trivial⟩,SubM.sl⟩
   ·rintro ⟨⟩ -
    refine gGw ?_
    exact fin2 rfl rfl rfl (fun w' hm=>⟨_,⟨_,_,rfl,rfl⟩,hm⟩)
 ·have hr:¬ rawB q at_ n:=fun h=>hx (by have:=h.1;omega)
  simp only [hr,if_false]
  refine gGw ?_
  refine br_t rfl ?_
  refine gGw ?_
  exact fin2 rfl rfl rfl (fun w' hm=>⟨_,⟨rfl,rfl⟩,hm⟩)
theorem zkB (A:Option Addr) (c:Nat) (bs:List UInt8) (w:World) (hb:BytsIn w A bs) (hn:bs.length≤20000000) :
  Ctr Tryz.prog 166 [.slice A bs.length c] [] (fun e m'=>∃ q:Rdr,q.bs=bs∧e=.returned (.pointer (some ⟨q.B,0,none⟩))∧m'=RM q 0) w:=by
 have hF:∀ w',Fr (Foot []) w w'→BytsIn w' A bs:=fun w' hf=>Byts.in_ (BytsIn.byts (cx:=CX 0 [] w) (m:=[]) hb (fun _ h=>h)) ((MemOk.nil w _).same (hf.mono (fun k _ ⟨r,hr,_⟩=>by cases hr)))
 refine enter (cx:=CXS 16 [] w (Foot [])) [(0,.slice A bs.length c)] zaa Tryz.func166 rfl rfl rfl rfl (MemOk.nil w _) ?_
 have hl:(zah bs).length=bs.length:=zag bs
 refine gGw ?_
 refine zc6 zaa rfl rfl rfl rfl rfl (by omega) (by simp only [Int.toNat_natCast];have:ty5.bytes=1:=rfl;rw [this];omega) (by omega) (fun zB=>?_)
 rw [Int.toNat_natCast]
 conv=>whnf
 intro rB
 refine gGw ?_
 rw [← hl]
 refine zhv zaa rfl rfl rfl rfl (by repeat constructor) (by rfl:some (⟨zB,0,none⟩:Addr)=pl (some ⟨zB,0,none⟩) 0) (k:=.u8) (ys:=zah bs) (fun w' hm'=>hF w' hm'.fr) (by rw [Nat.zero_add];exact Nat.min_le_left _ _) ?_
 have hn2:Nat.min (zah bs).length (zah bs).length=(zah bs).length:=Nat.min_self _
 rw [hn2]
 refine gGw ?_
 have hs:=zb3 (((zah bs).take (zah bs).length).map (Value.int .u8)) (List.replicate (zah bs).length (.int .u8 0)) (by simp)
 rw [List.take_of_length_le (Nat.le_refl _)] at hs ⊢
 rw [hs,hl]
 exact fin1 rfl rfl (fun w' hm=>⟨_,⟨⟨rB,some ⟨zB,0,none⟩,bs.length,bs⟩,rfl,rfl,rfl⟩,hm.sl⟩)
end Go.Proofs.YtlmgelmloddfgaaGreat
namespace Go.Proofs.YtlmgelmloddfgaaGreat
open Go Go.RowKit Eng
def zsR (g:Nat) (p:Int→Bool):Prop:=Eng.Enters Tryz.prog g∧∀ (x:Int) (w:World),Calls Tryz.prog g #[.int .i64 x] w fun e w'=>e=.returned (.bool (p x))∧Fr (fun _=>False) w w'
def idxP (p:Int→Bool) (xs:List Int):Int:=if xs.findIdx p<xs.length then (xs.findIdx p:Nat) else -1
theorem zp6 {p:Int→Bool} {xs:List Int} {i:Nat} (hi:i<xs.length) (h:p (xs.getD i 0)=true) (hj:∀ j,j<i→p (xs.getD j 0)=false):xs.findIdx p=i:=by
 rw [List.findIdx_eq hi]
 have e:∀ j (hj:j<xs.length),xs.getD j 0=xs[j]:=fun j hj=>by rw [List.getD_eq_getElem?_getD,List.getElem?_eq_getElem hj];rfl
 refine⟨by rw [← e];exact h,fun j hj2=>?_⟩
 rw [← e];exact hj j hj2
theorem zp5 {p:Int→Bool} {xs:List Int} (hj:∀ j,j<xs.length→p (xs.getD j 0)=false):xs.findIdx p=xs.length:=by
 rw [List.findIdx_eq_length]
 intro x hx
 obtain ⟨j,hj2,rfl⟩:=List.getElem_of_mem hx
 have:=hj j hj2
 rw [List.getD_eq_getElem?_getD,List.getElem?_eq_getElem hj2] at this
 exact this
attribute [local irreducible] Br Rn RnU Cl RdG CpG Ld Rd Lp Dr Oth Cut fin Fits Eng.Enters Md NA
theorem zfD:Eng.Enters Tryz.prog 259:=zab fun _ _=>by kernel_rfl
theorem zgX:Eng.Enters Tryz.prog 253:=zab fun _ _=>by kernel_rfl
theorem zkN:Eng.Enters Tryz.prog 237:=zab fun _ _=>by kernel_rfl
theorem zeg:Eng.Enters Tryz.prog 218:=zab fun _ _=>by kernel_rfl
theorem zix (g:Nat) (p:Int→Bool) (hp:zsR g p) (xs:List Int) (A:Option Addr) (c:Nat) (w:World) (hb:IntsIn .i64 w A xs) (hl:xs.length≤140737488355328) :
  Calls Tryz.prog 259 #[.slice A xs.length c,.func (.func g) #[] #[]] w fun e w'=>e=.returned (.int .i64 (idxP p xs))∧Fr (fun _=>False) w w':=by
 refine enter (cx:=CX 19 [] w) [(0,.slice A xs.length c),(1,.func (.func g) #[] #[])] zaa Tryz.func259 rfl rfl rfl rfl (MemOk.nil w _) ?_
 have h1:=fun m=>IntsIn.ints (cx:=CX 19 [] w) (m:=m) hb (fun _ h=>h)
 refine gGw ?_
 refine lp zaa (γ:=Nat) (fun i=>i≤xs.length∧∀ j,j<i→p (xs.getD j 0)=false) (fun i=>[(8,.int .i64 (i:Int)),(7,.int .i64 (xs.length:Int)),(0,.slice A xs.length c),(1,.func (.func g) #[] #[])]) (fun _=>[]) (fun i=>xs.length-i) 0 ⟨by omega,fun j hj=>by omega⟩ ⟨rfl,rfl,rfl,rfl,trivial⟩ (SubM.refl _ _) ?_
 rintro i ⟨hi,hj⟩
 dsimp only
 conv=>whnf
 refine br_d (fun hlt=>?_) (fun hge=>?_)
 ·have hlt':i<xs.length:=by omega
  have hpl:Pl A:=(h1 []).plain (by omega)
  refine gGw ?_
  refine And.intro ⟨by omega,by omega,hpl⟩ ?_
  conv=>whnf
  refine zaj ((h1 _).ld zaa rfl rfl (j:=i) (by omega)) ?_
  conv=>whnf
  refine⟨hp.1,zae _ (fun w' _=>hp.2 (xs.getD i 0) w') ?_⟩
  refine gGw ?_
  refine br (fun ht=>?_) (fun hf=>?_)
  ·refine gGw ?_
   refine fin1 rfl rfl (fun w' hm=>⟨?_,hm.fr⟩)
   rw [idxP,zp6 hlt' ht hj,if_pos hlt']
  ·refine gGw ?_
   refine⟨i+1,⟨by omega,fun j hj2=>?_⟩,by omega,⟨rfl,rfl,rfl,rfl,trivial⟩,SubM.refl _ _⟩
   by_cases h:j=i
   ·rw [h];exact hf
   ·exact hj j (by omega)
 ·have hil:i=xs.length:=by omega
  subst hil
  refine gGw ?_
  refine fin1 rfl rfl (fun w' hm=>⟨?_,hm.fr⟩)
  rw [idxP,zp5 hj,if_neg (by omega)]
theorem zja (g:Nat) (p:Int→Bool) (hp:zsR g p) (xs:List Int) (A:Option Addr) (c:Nat) (w:World) (hb:IntsIn .i64 w A xs) (hl:xs.length≤140737488355328) :
  Calls Tryz.prog 253 #[.slice A xs.length c,.func (.func g) #[] #[]] w fun e w'=>e=.returned (.bool (xs.any p))∧Fr (fun _=>False) w w':=by
 refine enter (cx:=CX 9 [] w) [(0,.slice A xs.length c),(1,.func (.func g) #[] #[])] zaa Tryz.func253 rfl rfl rfl rfl (MemOk.nil w _) ?_
 refine gGw ?_
 refine⟨zfD,zae _ (fun w' hm=>zix g p hp xs A c w' (Ints.in_ (IntsIn.ints (cx:=CX 9 [] w) (m:=[]) hb (fun _ h=>h)) hm) hl) ?_⟩
 refine gGw ?_
 refine fin1 rfl rfl (fun w' hm=>⟨?_,hm.fr⟩)
 have e:xs.any p=decide (xs.findIdx p<xs.length):=by
  rw [Bool.eq_iff_iff,decide_eq_true_eq,List.findIdx_lt_length,List.any_eq_true]
 rw [e]
 refine congrArg (fun b=>Ending.returned (.bool b)) ?_
 unfold idxP
 split<;>simp_all
theorem zr4:zsR 254 (fun n=>decide (n<0)||decide (15<n)):=by
 refine⟨zab fun _ _=>by kernel_rfl,fun x w=>?_⟩
 refine enter (cx:=CX 9 [] w) [(0,.int .i64 x)] zaa Tryz.func254 rfl rfl rfl rfl (MemOk.nil w _) ?_
 refine gGw ?_
 exact fin1 rfl rfl (fun w' hm=>⟨rfl,hm.fr⟩)
theorem zxL:zsR 241 (fun n=>decide (n=0)):=by
 refine⟨zab fun _ _=>by kernel_rfl,fun x w=>?_⟩
 refine enter (cx:=CX 5 [] w) [(0,.int .i64 x)] zaa Tryz.func241 rfl rfl rfl rfl (MemOk.nil w _) ?_
 refine gGw ?_
 exact fin1 rfl rfl (fun w' hm=>⟨rfl,hm.fr⟩)
def zbM (xs:List Int):Int:=if xs.any (fun n=>decide (n<0)||decide (15<n)) then 2 else if 320<xs.length then 3 else 0
theorem zp1 (xs:List Int) (A:Option Addr) (c:Nat) (w:World) (hb:IntsIn .i64 w A xs) (hl:xs.length≤140737488355328) :
  Calls Tryz.prog 237 #[.slice A xs.length c] w fun e w'=>e=.returned (.int .i64 (zbM xs))∧Fr (fun _=>False) w w':=by
 refine enter (cx:=CX 10 [] w) [(0,.slice A xs.length c)] zaa Tryz.func237 rfl rfl rfl rfl (MemOk.nil w _) ?_
 refine gGw ?_
 refine⟨zgX,zae _ (fun w' hm=>zja _ _ zr4 xs A c w' (Ints.in_ (IntsIn.ints (cx:=CX 10 [] w) (m:=[]) hb (fun _ h=>h)) hm) hl) ?_⟩
 refine gGw ?_
 refine br (fun hany=>?_) (fun hany=>?_)
 ·refine gGw ?_
  refine fin1 rfl rfl (fun w' hm=>⟨?_,hm.fr⟩)
  rw [zbM,hany];rfl
 ·refine gGw ?_
  refine br_d (fun h=>?_) (fun h=>?_)
  ·refine gGw ?_
   refine fin1 rfl rfl (fun w' hm=>⟨?_,hm.fr⟩)
   rw [zbM,hany,if_neg (by decide),if_pos (by omega)]
  ·refine gGw ?_
   refine fin1 rfl rfl (fun w' hm=>⟨?_,hm.fr⟩)
   rw [zbM,hany,if_neg (by decide),if_neg (by omega)]
def zbf:List Int→Int
 | []=>0
 | n::r=>(if 0<n then 32768/2 ^ n.toNat else 0)+zbf r
theorem zgz:∀ xs:List Int,0≤zbf xs∧zbf xs≤16384*xs.length
 | []=>by simp [zbf]
 | n::r=>by
  have ih:=zgz r
  rw [zbf,List.length_cons]
  split
  ·rename_i h
   have h1:(2:Int)≤2 ^ n.toNat:=by
    obtain ⟨k,hk⟩:∃ k,n.toNat=k+1:=⟨n.toNat-1,by omega⟩
    rw [hk,Int.pow_succ]
    have:(0:Int)<2 ^ k:=Int.pow_pos (by omega)
    omega
   have h2:0≤(32768:Int)/2 ^ n.toNat:=Int.ediv_nonneg (by omega) (by omega)
   have h3:(32768:Int)/2 ^ n.toNat≤16384:=Int.ediv_le_of_le_mul (by omega) (by omega)
   push_cast;omega
  ·push_cast;omega
theorem zg6 (xs:List Int) (i:Nat) (h:i<xs.length):zbf (xs.take (i+1))=zbf (xs.take i)+(if 0<xs.getD i 0 then 32768/2 ^ (xs.getD i 0).toNat else 0):=by
 induction xs generalizing i with
 | nil=>simp at h
 | cons a r ih =>
  cases i with
  | zero=>simp [zbf]
  | succ i =>
   have:=ih i (by simpa using h)
   simp only [List.take_succ_cons,zbf,List.getD_cons_succ]
   rw [this];omega
def zeh (xs:List Int):Int × Int:=if zbM xs=0 then (zbf xs,0) else (0,zbM xs)
theorem zfl {xs:List Int} (h:zbM xs=0):(∀ x∈xs,0≤x∧x≤15)∧xs.length≤320:=by
 unfold zbM at h
 split at h
 ·omega
 ·rename_i h1
  split at h
  ·omega
  ·rename_i h2
   refine⟨fun x hx=>?_,by omega⟩
   have:¬ ((decide (x<0)||decide (15<x))=true):=fun h3=>h1 (List.any_eq_true.2 ⟨x,hx,h3⟩)
   simp only [Bool.or_eq_true,decide_eq_true_eq] at this
   omega
theorem zbF {xs:List Int} {i:Nat} (h:i<xs.length):xs.getD i 0∈xs:=by
 rw [List.getD_eq_getElem?_getD,List.getElem?_eq_getElem h];exact List.getElem_mem h
theorem zgy (xs:List Int) (A:Option Addr) (c:Nat) (w:World) (hb:IntsIn .i64 w A xs) (hl:xs.length≤140737488355328) :
  Calls Tryz.prog 218 #[.slice A xs.length c] w fun e w'=>e=.returned (.tuple #[.int .i64 (zeh xs).1,.int .i64 (zeh xs).2])∧Fr (fun _=>False) w w':=by
 refine enter (cx:=CX 27 [] w) [(0,.slice A xs.length c)] zaa Tryz.func218 rfl rfl rfl rfl (MemOk.nil w _) ?_
 have h1:=fun m=>IntsIn.ints (cx:=CX 27 [] w) (m:=m) hb (fun _ h=>h)
 refine gGw ?_
 refine⟨zkN,zae _ (fun w' hm=>zp1 xs A c w' (Ints.in_ (h1 _) hm) hl) ?_⟩
 refine gGw ?_
 refine br_n (br_d (fun he=>?_) (fun he=>?_))
 ·have hok:=zfl he
  have eW:zeh xs=(zbf xs,0):=if_pos he
  rw [eW]
  refine gGw ?_
  refine lp zaa (γ:=Nat) (fun i=>i≤xs.length) (fun i=>[(15,.int .i64 (i:Int)),(14,.int .i64 (xs.length:Int)),(13,.slice A xs.length c),(5,.int .i64 (zbf (xs.take i)))]) (fun _=>[]) (fun i=>xs.length-i) 0 (by omega) ⟨rfl,rfl,rfl,rfl,trivial⟩ (SubM.refl _ _) ?_
  rintro i hi
  dsimp only
  conv=>whnf
  refine br_d (fun hlt=>?_) (fun hge=>?_)
  ·have hlt':i<xs.length:=by omega
   have hpl:Pl A:=(h1 []).plain (by omega)
   have hbd:=hok.1 _ (zbF hlt')
   have hwl:=zgz (xs.take i)
   have hlen:(xs.take i).length=i:=by rw [List.length_take];omega
   rw [hlen] at hwl
   have hst:=zg6 xs i hlt'
   refine gGw ?_
   refine And.intro ⟨by omega,by omega,hpl⟩ ?_
   conv=>whnf
   refine zaj ((h1 _).ld zaa rfl rfl (j:=i) (by omega)) ?_
   refine gGw ?_
   generalize xs.getD i 0=x at hbd hst ⊢
   refine br_d (fun hpos=>?_) (fun hz=>?_)
   ·rw [if_pos hpos] at hst
    have h32:0≤(32768:Int)/2 ^ x.toNat∧(32768:Int)/2 ^ x.toNat≤32768:=⟨Int.ediv_nonneg (by omega) (Int.le_of_lt (Int.pow_pos (by omega))),Int.ediv_le_self _ (by omega)⟩
    refine gGw ?_
    refine And.intro ⟨by omega,show x≤(64:Int) by omega⟩ ?_
    refine gGw ?_
    refine⟨i+1,by omega,by omega,⟨rfl,rfl,rfl,?_,trivial⟩,SubM.refl _ _⟩
    rw [hst]
    rfl
   ·rw [if_neg (by omega)] at hst
    refine gGw ?_
    refine⟨i+1,by omega,by omega,⟨rfl,rfl,rfl,?_,trivial⟩,SubM.refl _ _⟩
    rw [hst,Int.add_zero]
    rfl
  ·have hil:i=xs.length:=by omega
   subst hil
   refine gGw ?_
   refine fin2 rfl rfl rfl (fun w' hm=>⟨?_,hm.fr⟩)
   rw [List.take_of_length_le (Nat.le_refl _)]
 ·refine gGw ?_
  refine fin2 rfl rfl rfl (fun w' hm=>⟨?_,hm.fr⟩)
  rw [zeh,if_neg he]
end Go.Proofs.YtlmgelmloddfgaaGreat
namespace Go.Proofs.YtlmgelmloddfgaaGreat.Eng
open Go Go.RowKit
section
variable {cx:Cx}
theorem zn9 {m m':Mem} {dT e ty:Nat} {i:TyI} {A D:Option Addr} {cap n off k c:Nat} {xs:List Value} {z:Value} {K:Value→Mem→Prop} (ht:TabOk cx.P cx.tab)
  (hi:cx.tab.get dT=some i) (hk:i.kind=.slice e) (hu:Out m (.row A cap n e 1 xs) m') (hD:0<k→D=pl A off) (hv:∀ w,(zeroValue e).run cx.P w=.ok z w) (hz:z.cells=#[z]) (h1:z.oneCell'=true) (hfit:off+k≤n)
  (hK:K (.tuple #[]) (.row A cap n e 1 (zbu off (List.replicate k z) xs)::m')) :
  Rn cx m (Builtin.clear_ #[dT] ty #[.slice D k c]) K:=by
 intro w hm
 have hu2:=TyI.sliceOf (ht _ _ hi) hk
 by_cases h0:k=0
 ·subst h0
  refine⟨.tuple #[],w,_,?_,hm.perm hu.perm,hK⟩
  cases D<;>simp [Builtin.clear_,run_underlying hu2]
 ·obtain ⟨b,cur,rfl,hb,hcs,hm2⟩:=zmZ (off:=off) (vs:=List.replicate k z) hm hu (by rw [List.length_replicate];omega) (by rw [List.length_replicate];omega)
  have hst:=run_storeCells_at cx.P b off e (List.replicate k z) 0 cur w hb (by simpa using hcs) (fun v hv=>by rw [List.eq_of_mem_replicate hv];exact h1)
  have hzc:(Builtin.zeroCells z.cells k).toList=List.replicate k z:=by
   rw [hz]
   simp [Builtin.zeroCells]
   apply List.ext_getElem
   ·simp
   ·intro i h1 h2
    simp [Nat.mod_one]
  rw [zaS _ off cur.toList (by rw [Array.length_toList];exact hcs)] at hm2
  refine⟨.tuple #[],_,_,?_,hm2,hK⟩
  rw [hD (by omega)]
  simp only [pl,Option.map_some,Addr.add_lit,Nat.zero_add]
  obtain ⟨k',rfl⟩:∃ k',k=k'+1:=⟨k-1,by omega⟩
  simp only [Nat.add_zero] at hst
  simp [Builtin.clear_,run_underlying hu2,hv,hzc,hst]
end
end Go.Proofs.YtlmgelmloddfgaaGreat.Eng
namespace Go.Proofs.YtlmgelmloddfgaaGreat
open Go Go.RowKit Eng
abbrev IR (A:Option Addr) (c n:Nat) (xs:List Int):Res:=.row A c n 3 1 (xs.map (.int .i64))
theorem zbm {xs:List Int} {j:Nat} (h:j<xs.length):(xs.map (Value.int .i64))[j]?=some (.int .i64 (xs.getD j 0)):=by
 rw [List.getElem?_map,List.getD_eq_getElem?_getD,List.getElem?_eq_getElem h];rfl
theorem zdL {xs:List Int} {j:Nat} (h:j<xs.length):xs.take (j+1)=xs.take j++[xs.getD j 0]:=by
 rw [List.take_add_one,List.getD_eq_getElem?_getD,List.getElem?_eq_getElem h];rfl
theorem zhW (ys xs:List Int) (off:Nat) (h:off+ys.length≤xs.length):zbu off (ys.map (Value.int .i64)) (xs.map (.int .i64))=(xs.take off++ys++xs.drop (off+ys.length)).map (.int .i64):=by
 rw [zaS _ _ _ (by simpa using h)]
 simp [List.map_take,List.map_drop]
attribute [local irreducible] Br Rn RnU Cl RdG CpG Ld Rd Lp Dr Oth Cut fin Fits Eng.Enters Md NA
theorem zmr:Eng.Enters Tryz.prog 240:=zab fun _ _=>by kernel_rfl
theorem znu:Eng.Enters Tryz.prog 223:=zab fun _ _=>by kernel_rfl
def zeX (p:Int→Bool) (xs:List Int):List Int:=xs.filter fun x=>!p x
theorem zsu (g:Nat) (p:Int→Bool) (hp:zsR g p) (xs:List Int) (A:Option Addr) (c:Nat) (w:World) (hl:xs.length≤140737488355328) (hm:MemOk w (Foot [IR A c xs.length xs]) [IR A c xs.length xs] w) :
  Ctr Tryz.prog 240 [.slice A xs.length c,.func (.func g) #[] #[]] [IR A c xs.length xs]
   (fun e m'=>e=.returned (.slice A (zeX p xs).length c)∧m'=[IR A c xs.length (zeX p xs++List.replicate (xs.length-(zeX p xs).length) 0)]) w:=by
 have hcap:xs.length≤c:=zeO (hm.ok _ (List.mem_cons_self ..))
 have hkl:(zeX p xs).length≤xs.length:=List.length_filter_le _ _
 refine enter (cx:=CXS 42 [] w (Foot [IR A c xs.length xs])) [(0,.slice A xs.length c),(1,.func (.func g) #[] #[])] zaa Tryz.func240 rfl rfl rfl rfl hm ?_
 refine gGw ?_
 refine⟨zfD,zae _ (fun w' hm'=>zix g p hp xs A c w' (rowI (hm'.ok _ (List.mem_cons_self ..))) hl) ?_⟩
 refine gGw ?_
 refine br_d (fun hno=>?_) (fun hyes=>?_)
 ·have hf:zeX p xs=xs:=by
   unfold zeX
   rw [List.filter_eq_self]
   intro x hx
   unfold idxP at hno
   split at hno
   ·omega
   ·rename_i h
    have h2:xs.findIdx p=xs.length:=Nat.le_antisymm (List.findIdx_le_length) (by omega)
    rw [List.findIdx_eq_length] at h2
    rw [h2 x hx];rfl
  refine gGw ?_
  refine fin1 rfl rfl (fun w' hm=>⟨_,⟨by rw [hf],by rw [hf,Nat.sub_self,List.replicate_zero,List.append_nil]⟩,hm⟩)
 ·have hlt0:xs.findIdx p<xs.length:=by
   unfold idxP at hyes
   split at hyes
   ·assumption
   ·exact absurd rfl hyes
  have e0:idxP p xs=(xs.findIdx p:Nat):=if_pos hlt0
  rw [e0]
  obtain ⟨i0,hi0⟩:∃ i0,i0=xs.findIdx p:=⟨_,rfl⟩
  have hk0:xs.take i0=(xs.take (i0+1)).filter fun x=>!p x:=by
   have h1:p (xs.getD i0 0)=true:=by
    rw [List.getD_eq_getElem?_getD,List.getElem?_eq_getElem (hi0 ▸ hlt0)]
    subst hi0
    exact List.findIdx_getElem
   have h2:(xs.take i0).filter (fun x=>!p x)=xs.take i0:=by
    rw [List.filter_eq_self]
    intro x hx
    obtain ⟨j,hj,rfl⟩:=List.getElem_of_mem hx
    rw [List.length_take] at hj
    rw [List.getElem_take]
    have:=List.not_of_lt_findIdx (p:=p) (xs:=xs) (i:=j) (by omega)
    simpa using this
   rw [zdL (hi0 ▸ hlt0),List.filter_append,h2,List.filter_cons_of_neg (by rw [h1];decide),List.filter_nil,List.append_nil]
  rw [← hi0] at hlt0 ⊢
  clear hi0 e0 hyes
  refine gGw ?_
  refine lp zaa (γ:=Nat × Nat × List Int) (fun q=>q.1≤q.2.1∧q.2.1≤xs.length∧q.2.2.length=xs.length∧q.2.2.take q.1=(xs.take q.2.1).filter (fun x=>!p x)∧q.2.2.drop q.2.1=xs.drop q.2.1)
   (fun q=>[(6,.int .i64 (q.2.1:Int)),(5,.int .i64 (q.1:Int)),(0,.slice A xs.length c),(1,.func (.func g) #[] #[])]) (fun q=>[IR A c xs.length q.2.2]) (fun q=>xs.length-q.2.1) (i0,i0+1,xs) ⟨by simp,by simp only;omega,rfl,hk0,rfl⟩ ⟨rfl,rfl,rfl,rfl,trivial⟩ (SubM.refl _ _) ?_
  rintro ⟨i,j,ys⟩ ⟨hij,hj,hyl,htk,hdr⟩
  simp only at hij hj hyl htk hdr
  dsimp only
  refine gGw ?_
  refine br_d (fun hlt=>?_) (fun hge=>?_)
  ·have hlt':j<xs.length:=by omega
   have hpl:Pl A:=zc0 (hm.ok _ (List.mem_cons_self ..)) (by omega)
   have hyj:ys.getD j 0=xs.getD j 0:=by
    have:=congrArg (fun l=>l.getD 0 (0:Int)) hdr
    simpa [List.getD_eq_getElem?_getD,List.getElem?_drop] using this
   have hgj:=zbm (xs:=ys) (j:=j) (by omega)
   rw [hyj] at hgj
   have hdr2:ys.drop (j+1)=xs.drop (j+1):=by
    have:=congrArg (List.drop 1) hdr
    simpa [List.drop_drop,Nat.add_comm] using this
   have htk2:=zdL hlt'
   refine gGw ?_
   refine And.intro ⟨by omega,by omega,hpl⟩ ?_
   conv=>whnf
   refine zaj (ldR zaa .here rfl rfl hgj) ?_
   refine gGw ?_
   refine⟨hp.1,zae _ (fun w' _=>hp.2 _ w') ?_⟩
   refine gGw ?_
   refine br_n (br (fun hf=>?_) (fun ht=>?_))
   ·refine gGw ?_
    refine⟨(i,j+1,ys),⟨by simp only;omega,by simp only;omega,hyl,?_,hdr2⟩,by simp only;omega,⟨rfl,rfl,rfl,rfl,trivial⟩,SubM.refl _ _⟩
    rw [htk,htk2,List.filter_append,List.filter_cons_of_neg (by rw [hf];decide),List.filter_nil,List.append_nil]
   ·refine gGw ?_
    refine And.intro ⟨by omega,by omega,hpl⟩ ?_
    conv=>whnf
    refine zaz (off:=i) (xs':=(ys.set i (xs.getD j 0)).map (.int .i64)) zaa rfl .here rfl rfl (by show i+1≤xs.length*1;omega) (Nat.one_pos) (by rw [List.map_set];rfl) ?_
    refine gGw ?_
    refine⟨(i+1,j+1,ys.set i (xs.getD j 0)),⟨by simp only;omega,by simp only;omega,by simp only [List.length_set];exact hyl,?_,?_⟩,by simp only;omega,⟨rfl,rfl,rfl,rfl,trivial⟩,SubM.refl _ _⟩
    ·rw [htk2,List.filter_append,← htk]
     have:(ys.set i (xs.getD j 0)).getD i 0=xs.getD j 0:=by
      rw [List.getD_eq_getElem?_getD,List.getElem?_set_self (by omega)];rfl
     rw [zdL (by rw [List.length_set];omega),this,List.take_set_of_le (Nat.le_refl _),List.filter_cons_of_pos (by rw [ht];rfl),List.filter_nil]
    ·show (ys.set i (xs.getD j 0)).drop (j+1)=xs.drop (j+1)
     rw [List.drop_set_of_lt (by omega)]
     exact hdr2
  ·have hje:j=xs.length:=by omega
   subst hje
   have hil:i=(zeX p xs).length:=by
    have:=congrArg List.length htk
    rw [List.length_take,List.take_of_length_le (Nat.le_refl _)] at this
    unfold zeX;omega
   have htk3:ys.take i=zeX p xs:=by rw [htk,List.take_of_length_le (Nat.le_refl _)];rfl
   refine gGw ?_
   refine And.intro ⟨by omega,by omega,by omega,Classical.or_iff_not_imp_left.2 (fun hne=>?_)⟩ ?_
   ·cases hA:A with
    | none=>exact absurd hA hne
    | some a=>exact zhu (hA ▸ hm.ok _ (List.mem_cons_self ..))
   refine gGw ?_
   refine zn9 zaa rfl rfl .here (off:=i) (fun hk=>?_) (z:=.int .i64 0) zbH rfl rfl (by omega) ?_
   ·obtain ⟨b,o,rfl⟩:=zc0 (hm.ok _ (List.mem_cons_self ..)) (by omega)
    rw [Int.toNat_natCast]
    unfold cutA
    rw [if_neg (by omega)];rfl
   refine gGw ?_
   refine And.intro ⟨by omega,by omega,by omega,Classical.or_iff_not_imp_left.2 (fun hne=>?_)⟩ ?_
   ·cases hA:A with
    | none=>exact absurd hA hne
    | some a=>exact zhu (hA ▸ hm.ok _ (List.mem_cons_self ..))
   refine gGw ?_
   have hcz:cutA A c 0 1=A:=by
    cases hA:A with
    | none=>unfold cutA;split<;>rfl
    | some a =>
     obtain ⟨b,o,e⟩:=zhu (hA ▸ hm.ok _ (List.mem_cons_self ..))
     rw [e]
     unfold cutA
     split<;>rfl
   refine fin1 rfl rfl (fun w' hm=>⟨_,⟨?_,?_⟩,hm⟩)
   ·show Ending.returned (.slice (cutA A c 0 1) (i-0) (c-0))=_
    rw [hcz,← hil];rfl
   rw [Int.toNat_natCast,Int.toNat_natCast,show (List.replicate (xs.length-i) (Value.int .i64 0))=(List.replicate (xs.length-i) (0:Int)).map (.int .i64) from by simp,zhW _ _ _ (by simp;omega),htk3,← hil]
   rw [List.drop_of_length_le (by simp;omega),List.append_nil]
def mayL (xs:List Int) (none:Bool):Bool :=
 (decide ((zeh xs).2=0)&&decide ((zeh xs).1=32768))||(decide ((zeX (fun n=>decide (n=0)) xs).length=0)&&none||(decide ((zeX (fun n=>decide (n=0)) xs).length=1)&&decide ((zeX (fun n=>decide (n=0)) xs).getD 0 0=1)))
theorem zu4 (xs:List Int) (none:Bool) (A:Option Addr) (c:Nat) (w:World) (hb:IntsIn .i64 w A xs) (hl:xs.length≤1048576) :
  Ctr Tryz.prog 223 [.slice A xs.length c,.bool none] [] (fun e m'=>e=.returned (.bool (mayL xs none))∧m'=[]) w:=by
 have hF:∀ w',Fr (Foot []) w w'→IntsIn .i64 w' A xs:=fun w' hf=>Ints.in_ (IntsIn.ints (cx:=CX 0 [] w) (m:=[]) hb (fun _ h=>h)) ((MemOk.nil w _).same (hf.mono (fun k _ ⟨r,hr,_⟩=>by cases hr)))
 refine enter (cx:=CXS 39 [] w (Foot [])) [(0,.slice A xs.length c),(1,.bool none)] zaa Tryz.func223 rfl rfl rfl rfl (MemOk.nil w _) ?_
 refine gGw ?_
 refine⟨zeg,zae _ (fun w' hm'=>zgy xs A c w' (hF w' hm'.fr) (by omega)) ?_⟩
 refine gGw ?_
 refine br (fun h=>?_) (fun h=>?_)
 ·refine gGw ?_
  refine fin1 rfl rfl (fun w' hm=>⟨_,⟨?_,rfl⟩,hm⟩)
  unfold mayL
  rw [h,Bool.true_or]
 ·refine gGw ?_
  refine⟨zgs,zac (m1:=[]) .nil (fun w' hm'=>Eng.Ctr.ex (zjK A c xs w' (hF w' hm'.fr) (by omega))) ?_⟩
  rintro e m' ⟨⟨A1,c1,rfl,rfl⟩,wx,hwx⟩
  have hplA:0<xs.length→Pl A1:=fun h=>zfw (hwx _ (List.mem_cons_self ..)) (by rw [List.length_map];exact h)
  refine gGw ?_
  refine⟨zmr,zac (m1:=[IR A1 c1 xs.length xs]) (by repeat constructor) (fun w' hm'=>zsu _ _ zxL xs A1 c1 w' (by omega) hm'.part) ?_⟩
  rintro e m' ⟨rfl,rfl⟩
  have eM:mayL xs none=(decide ((zeX (fun n=>decide (n=0)) xs).length=0)&&none||(decide ((zeX (fun n=>decide (n=0)) xs).length=1)&&decide ((zeX (fun n=>decide (n=0)) xs).getD 0 0=1))):=by
   unfold mayL
   rw [h,Bool.false_or]
  rw [eM]
  have hkl:(zeX (fun n=>decide (n=0)) xs).length≤xs.length:=List.length_filter_le _ _
  generalize zeX (fun n=>decide (n=0)) xs=ks at hkl ⊢
  refine gGw ?_
  refine br (fun h0=>?_) (fun h0=>?_)
  ·have e0:(decide (ks.length=0)&&none)=true:=by rw [← h0];congr 1;exact decide_eq_decide.2 (by omega)
   rw [e0]
   refine gGw ?_
   exact fin1 rfl rfl (fun w' hm=>⟨_,⟨rfl,rfl⟩,hm.sel .nil⟩)
  ·have e0:(decide (ks.length=0)&&none)=false:=by rw [← h0];congr 1;exact decide_eq_decide.2 (by omega)
   rw [e0]
   refine gGw ?_
   refine br_d (fun h1=>?_) (fun h1=>?_)
   ·have hg:=zbm (xs:=ks++List.replicate (xs.length-ks.length) 0) (j:=0) (by rw [List.length_append];omega)
    have hk0:(ks++List.replicate (xs.length-ks.length) 0).getD 0 0=ks.getD 0 0:=by
     rw [List.getD_eq_getElem?_getD,List.getD_eq_getElem?_getD,List.getElem?_append_left (by omega)]
    rw [hk0] at hg
    rw [decide_eq_true (show ks.length=1 by omega)]
    refine gGw ?_
    refine And.intro ⟨by omega,by omega,hplA (by omega)⟩ ?_
    conv=>whnf
    refine zaj (ldR zaa (by repeat constructor) rfl rfl (j:=0) hg) ?_
    refine gGw ?_
    exact fin1 rfl rfl (fun w' hm=>⟨_,⟨rfl,rfl⟩,hm.sel .nil⟩)
   ·rw [decide_eq_false (show ¬ ks.length=1 by omega)]
    refine gGw ?_
    exact fin1 rfl rfl (fun w' hm=>⟨_,⟨rfl,rfl⟩,hm.sel .nil⟩)
end Go.Proofs.YtlmgelmloddfgaaGreat
namespace Go.Proofs.YtlmgelmloddfgaaGreat
open Go Go.RowKit Eng
abbrev BR8 (A:Option Addr) (c n:Nat) (bs:List UInt8):Res:=.row A c n 5 1 ((zah bs).map (.int .u8))
theorem z_u8:∀ w,(zeroValue 5).run Tryz.prog w=.ok (.int .u8 0) w:=fun w=>by kernel_rfl
theorem zaB {w:World} {A:Option Addr} {c n:Nat} {bs:List UInt8} (h:(BR8 A c n bs).ok w):BytsIn w A bs:=rowI h
theorem zsA {w:World} {A:Option Addr} {c n:Nat} {bs:List UInt8} (h:(BR8 A c n bs).ok w):n=bs.length:=by
 have:=h.1
 rw [List.length_map,zag,Nat.mul_one] at this
 exact this.symm
def leB (x:Nat):Nat→List UInt8
 | 0=>[]
 | n+1=>UInt8.ofNat (x%256)::leB (x/256) n
theorem zad:∀ (n x:Nat),(leB x n).length=n
 | 0,_=>rfl
 | n+1,x=>by rw [leB,List.length_cons,zad]
theorem zkG:∀ (n x:Nat),leB x (n+1)=leB x n++[UInt8.ofNat (x/256 ^ n%256)]
 | 0,x=>by simp [leB]
 | n+1,x=>by
  rw [leB,zkG n (x/256),leB,List.cons_append,Nat.div_div_eq_div_mul,Nat.pow_succ,Nat.mul_comm 256]
def setB (bs:List UInt8) (at_:Nat) (ys:List UInt8):List UInt8:=bs.take at_++ys++bs.drop (at_+ys.length)
theorem zt6 (bs:List UInt8) (at_:Nat):setB bs at_ []=bs:=by unfold setB;simp
theorem zrb {bs:List UInt8} {at_:Nat} {ys:List UInt8} (v:UInt8) (h:at_+ys.length<bs.length):(setB bs at_ ys).set (at_+ys.length) v=setB bs at_ (ys++[v]):=by
 unfold setB
 have h1:(bs.take at_++ys).length=at_+ys.length:=by simp;omega
 rw [List.set_append,if_neg (by omega),h1,Nat.sub_self]
 obtain ⟨b,r,hr⟩:∃ b r,bs.drop (at_+ys.length)=b::r:=by
  cases hd:bs.drop (at_+ys.length) with
  | nil=>have:=congrArg List.length hd;simp at this;omega
  | cons b r=>exact⟨b,r,rfl⟩
 have hr2:bs.drop (at_+(ys++[v]).length)=r:=by
  have:=congrArg (List.drop 1) hr
  rw [List.drop_drop] at this
  simpa [Nat.add_assoc] using this
 rw [hr,hr2,List.set_cons_zero]
 simp
theorem zpK (ys:List UInt8) (i:Nat) (v:UInt8):((zah (ys.set i v)).map (Value.int .u8))=((zah ys).map (Value.int .u8)).set i (.int .u8 (v.toNat:Int)):=by
 unfold zah;rw [List.map_set,List.map_set]
theorem zv1 (x:Nat):IntKind.u8.wrap (x:Int)=((UInt8.ofNat (x%256)).toNat:Int):=by
 rw [UInt8.toNat_ofNat']
 show (x:Int)%256=_
 omega
def zhg (l:Nat) (at_ most:Int):Int:=if most<0∨1048576<most then 2 else if zpR l at_ (4+most) then 0 else 4
attribute [local irreducible] Br Rn RnU Cl RdG CpG Ld Rd Lp Dr Oth Cut fin Fits Eng.Enters Md NA
theorem zhf:Eng.Enters Tryz.prog 127:=zab fun _ _=>by kernel_rfl
theorem zi5:Eng.Enters Tryz.prog 128:=zab fun _ _=>by kernel_rfl
theorem zlg:Eng.Enters Tryz.prog 86:=zab fun _ _=>by kernel_rfl
theorem zfK:Eng.Enters Tryz.prog 131:=zab fun _ _=>by kernel_rfl
theorem ziZ:Eng.Enters Tryz.prog 132:=zab fun _ _=>by kernel_rfl
theorem zml (A:Option Addr) (l c:Nat) (at_ most:Int) (w:World) (hl:l≤140737488355328) (hm:-140737488355328≤most∧most≤140737488355328) :
  Calls Tryz.prog 127 #[.slice A l c,.int .i64 at_,.int .i64 most] w fun e w'=>e=.returned (.int .i64 (zhg l at_ most))∧Fr (fun _=>False) w w':=by
 refine enter (cx:=CX 21 [] w) [(0,.slice A l c),(1,.int .i64 at_),(2,.int .i64 most)] zaa Tryz.func127 rfl rfl rfl rfl (MemOk.nil w _) ?_
 refine gGw ?_
 refine br (fun h=>?_) (fun h=>?_)
 ·refine gGw ?_
  refine fin1 rfl rfl (fun w' hm=>⟨?_,hm.fr⟩)
  simp only [Bool.or_eq_true,decide_eq_true_eq] at h
  rw [zhg,if_pos h]
 ·simp only [Bool.or_eq_false_iff,decide_eq_false_iff_not] at h
  refine gGw ?_
  refine⟨zfW,zae _ (fun w' _=>zkE A l c at_ (4+most) w' hl (by omega)) ?_⟩
  refine gGw ?_
  refine br_n (br (fun hl=>?_) (fun hl=>?_))
  ·refine gGw ?_
   refine fin1 rfl rfl (fun w' hm=>⟨?_,hm.fr⟩)
   rw [zhg,if_neg (by omega),hl];rfl
  ·refine gGw ?_
   refine fin1 rfl rfl (fun w' hm=>⟨?_,hm.fr⟩)
   rw [zhg,if_neg (by omega),hl];rfl
def zg3 (l:List UInt8):Bool:=l.all fun x=>x == 0
theorem zerosB_iff {l:List UInt8}:zg3 l=true↔∀ i,i<l.length→l.getD i 0=0:=by
 unfold zg3
 rw [List.all_eq_true]
 constructor
 ·intro h i hi
  have:=h _ (List.getElem_mem hi)
  rw [List.getD_eq_getElem?_getD,List.getElem?_eq_getElem hi]
  simpa using this
 ·intro h x hx
  obtain ⟨i,hi,rfl⟩:=List.getElem_of_mem hx
  have:=h i hi
  rw [List.getD_eq_getElem?_getD,List.getElem?_eq_getElem hi] at this
  simpa using this
theorem zqB {l:List UInt8} {i:Nat} (hi:i<l.length) (h:l.getD i 0≠0):zg3 l=false:=by
 rw [← Bool.not_eq_true,zerosB_iff]
 exact fun h2=>h (h2 i hi)
theorem u8_zero {x:UInt8}:(x.toNat:Int)=0↔x=0:=by
 constructor
 ·intro h;apply UInt8.toNat_inj.1;simpa using h
 ·rintro rfl;rfl
theorem znb (bs:List UInt8) (A:Option Addr) (c lo hi:Nat) (w:World) (hb:BytsIn w A bs) (hc:bs.length≤c) (hl:bs.length≤140737488355328) (h1:lo≤hi) (h2:hi≤bs.length) (h0:0<bs.length) :
  Calls Tryz.prog 128 #[.slice A bs.length c,.int .i64 (lo:Int),.int .i64 (hi:Int)] w fun e w'=>e=.returned (.tuple #[.bool (zg3 ((bs.drop lo).take (hi-lo))),.int .i64 0])∧Fr (fun _=>False) w w':=by
 have hsub:BytsIn w (cutA A c lo 1) ((bs.drop lo).take (hi-lo)):=BytsIn.sub hb c lo _ (by omega) hc
 have hpl:Pl A:=(BytsIn.byts (cx:=CX 37 [] w) (m:=[]) hb (fun _ h=>h)).plain h0
 have hyl:((bs.drop lo).take (hi-lo)).length=hi-lo:=by rw [List.length_take,List.length_drop];omega
 refine enter (cx:=CX 37 [] w) [(0,.slice A bs.length c),(1,.int .i64 (lo:Int)),(2,.int .i64 (hi:Int))] zaa Tryz.func128 rfl rfl rfl rfl (MemOk.nil w _) ?_
 have hy:=fun m=>BytsIn.byts (cx:=CX 37 [] w) (m:=m) hsub (fun _ h=>h)
 generalize (bs.drop lo).take (hi-lo)=ys at hsub hyl hy ⊢
 conv=>whnf
 refine zdh zaa ?_
 refine gGw ?_
 refine br_f (by rw [decide_eq_false (by omega),decide_eq_false (by omega),decide_eq_false (by omega)];rfl) ?_
 refine gGw ?_
 refine And.intro ⟨by omega,by omega,by omega,.inr hpl⟩ ?_
 refine gGw ?_
 rw [show (hi:Int).toNat-(lo:Int).toNat=ys.length by omega,Int.toNat_natCast]
 refine lp zaa (γ:=Nat) (fun i=>i≤ys.length∧∀ j,j<i→ys.getD j 0=0) (fun i=>[(29,.int .i64 (i:Int)),(28,.int .i64 (ys.length:Int)),(27,.slice (cutA A c lo 1) ys.length (c-lo)),(8,.bool true)]) (fun _=>[]) (fun i=>ys.length-i) 0 ⟨by omega,fun j hj=>by omega⟩ ⟨rfl,rfl,rfl,rfl,trivial⟩ (SubM.refl _ _) ?_
 rintro i ⟨hi,hj⟩
 dsimp only
 conv=>whnf
 refine br_d (fun hlt=>?_) (fun hge=>?_)
 ·have hlt':i<ys.length:=by omega
  have hpl2:Pl (cutA A c lo 1):=(hy []).plain (by omega)
  refine gGw ?_
  refine And.intro ⟨by omega,by omega,hpl2⟩ ?_
  conv=>whnf
  refine zaj ((hy _).ld zaa rfl rfl (j:=i) (by omega)) ?_
  refine gGw ?_
  refine br_n (br_d (fun hz=>?_) (fun hz=>?_))
  ·refine gGw ?_
   refine⟨i+1,⟨by omega,fun j hj2=>?_⟩,by omega,⟨rfl,rfl,rfl,rfl,trivial⟩,SubM.refl _ _⟩
   by_cases h:j=i
   ·rw [h];exact u8_zero.1 hz
   ·exact hj j (by omega)
  ·refine gGw ?_
   refine fin2 rfl rfl rfl (fun w' hm=>⟨?_,hm.fr⟩)
   rw [zqB hlt' (fun h=>hz (u8_zero.2 h))]
 ·have hil:i=ys.length:=by omega
  subst hil
  refine gGw ?_
  refine fin2 rfl rfl rfl (fun w' hm=>⟨?_,hm.fr⟩)
  rw [zerosB_iff.2 hj]
def zdX (bs:List UInt8) (at_ most:Nat):ByteArray × Int :=
 if getV bs at_ 4≤most∧zg3 ((bs.drop (at_+4+getV bs at_ 4)).take (most-getV bs at_ 4))=true then (Str ((bs.drop (at_+4)).take (getV bs at_ 4)),0) else (Str [],110)
theorem zqD (bs:List UInt8) (A:Option Addr) (c at_ most:Nat) (w:World) (hb:BytsIn w A bs) (hc:bs.length≤c) (hl:bs.length≤140737488355328) (h1:most≤1048576) (h2:at_+4+most≤bs.length) :
  Calls Tryz.prog 86 #[.slice A bs.length c,.int .i64 (at_:Int),.int .i64 (most:Int)] w fun e w'=>e=.returned (.tuple #[.string (zdX bs at_ most).1,.int .i64 (zdX bs at_ most).2])∧Fr (fun _=>False) w w':=by
 have hpl:Pl A:=(BytsIn.byts (cx:=CX 54 [] w) (m:=[]) hb (fun _ h=>h)).plain (by omega)
 have hF:∀ w',Fr (fun _=>False) w w'→BytsIn w' A bs:=fun w' hf=>Byts.in_ (BytsIn.byts (cx:=CX 54 [] w) (m:=[]) hb (fun _ h=>h)) ((MemOk.nil w _).same hf)
 refine enter (cx:=CX 54 [] w) [(0,.slice A bs.length c),(1,.int .i64 (at_:Int)),(2,.int .i64 (most:Int))] zaa Tryz.func86 rfl rfl rfl rfl (MemOk.nil w _) ?_
 have eF:zhg bs.length at_ most=0:=by
  rw [zhg,if_neg (by omega),liesB_iff.2 ⟨by omega,by omega,by omega⟩];rfl
 have eG:getF bs at_ 4=(getV bs at_ 4,0):=by
  rw [getF,if_neg (by omega),liesB_iff.2 ⟨by omega,by omega,by omega⟩,if_pos rfl,Int.toNat_natCast];rfl
 have hv:getV bs at_ 4<4294967296:=by
  have:=zjz ((bs.drop at_).take 4)
  have h4:((bs.drop at_).take 4).length=4:=by rw [List.length_take,List.length_drop];omega
  rw [h4] at this
  exact this
 refine gGw ?_
 refine⟨zhf,zae _ (fun w' _=>zml A bs.length c at_ most w' hl (by omega)) ?_⟩
 rw [eF]
 refine gGw ?_
 refine br_n (br_t rfl ?_)
 refine gGw ?_
 refine⟨zfm,zae _ (fun w' hm=>zkQ bs A c at_ 4 w' (hF w' hm.fr) hl (by omega)) ?_⟩
 rw [eG]
 unfold zdX
 generalize getV bs at_ 4=v at hv ⊢
 refine gGw ?_
 refine br_d (fun hgt=>?_) (fun hle=>?_)
 ·refine gGw ?_
  refine fin2 rfl rfl rfl (fun w' hm=>⟨?_,hm.fr⟩)
  rw [if_neg (by omega)]
 ·have e1:(at_:Int)+4+(v:Int)=((at_+4+v:Nat):Int):=by push_cast;rfl
  have e2:(at_:Int)+4+(most:Int)=((at_+4+most:Nat):Int):=by push_cast;rfl
  refine gGw ?_
  rw [e1,e2]
  refine⟨zi5,zae _ (fun w' hm=>znb bs A c (at_+4+v) (at_+4+most) w' (hF w' hm.fr) hc hl (by omega) (by omega) (by omega)) ?_⟩
  rw [show at_+4+most-(at_+4+v)=most-v by omega]
  refine gGw ?_
  refine br_n (br (fun hz=>?_) (fun hz=>?_))
  ·refine gGw ?_
   refine And.intro ⟨by omega,by omega,by omega,.inr hpl⟩ ?_
   conv=>whnf
   have hvl:((bs.drop (at_+4)).take v).length=v:=by rw [List.length_take,List.length_drop];omega
   rw [show ((at_+4+v:Nat):Int).toNat-((at_:Int)+4).toNat=((bs.drop (at_+4)).take v).length by omega,show ((at_:Int)+4).toNat=at_+4 by omega]
   refine Rd.n (zcB (bs:=(bs.drop (at_+4)).take v) zaa rfl rfl rfl rfl rfl rfl (BytsIn.byts (BytsIn.sub hb c (at_+4) v (by omega) hc) (fun _ h=>h)) _) ?_
   refine gGw ?_
   refine fin2 rfl rfl rfl (fun w' hm=>⟨?_,hm.fr⟩)
   rw [if_pos ⟨by omega,hz⟩]
  ·refine gGw ?_
   refine fin2 rfl rfl rfl (fun w' hm=>⟨?_,hm.fr⟩)
   rw [if_neg (fun h=>by rw [h.2] at hz;cases hz)]
def SetR (A:Option Addr) (c:Nat) (bs:List UInt8) (at_ n x:Nat) (e:Ending) (m':Mem):Prop:=e=.returned (.int .i64 0)∧m'=[BR8 A c bs.length (setB bs at_ (leB x n))]
theorem znO (bs:List UInt8) (A:Option Addr) (c at_ n x:Nat) (w:World) (hl:bs.length≤140737488355328) (hn:1≤n∧n≤8) (hfit:at_+n≤bs.length) (hx:x<256 ^ n) (hm:MemOk w (Foot [BR8 A c bs.length bs]) [BR8 A c bs.length bs] w) :
  Ctr Tryz.prog 131 [.slice A bs.length c,.int .i64 (at_:Int),.int .i64 (n:Int),.int .u64 (x:Int)] [BR8 A c bs.length bs] (SetR A c bs at_ n x) w:=by
 refine enter (cx:=CXS 47 [42] w (Foot [BR8 A c bs.length bs])) [(0,.slice A bs.length c),(1,.int .i64 (at_:Int)),(2,.int .i64 (n:Int)),(3,.int .u64 (x:Int))] zaa Tryz.func131 rfl rfl rfl rfl hm ?_
 have hpl:Pl A:=zc0 (hm.ok _ (List.mem_cons_self ..)) (by omega)
 have hx8:x<18446744073709551616:=by
  have:256 ^ n≤256 ^ 8:=Nat.pow_le_pow_right (by omega) hn.2
  have:(256:Nat) ^ 8=18446744073709551616:=by decide
  omega
 have eL:zpR bs.length at_ n=true:=liesB_iff.2 ⟨by omega,by omega,by omega⟩
 refine gGw ?_
 refine br_f (by rw [decide_eq_false (by omega),decide_eq_false (by omega)];rfl) ?_
 refine gGw ?_
 refine⟨zfW,zae _ (fun w' _=>zkE A bs.length c at_ n w' hl (by omega)) ?_⟩
 rw [eL]
 refine gGw ?_
 refine br_n (br_t rfl ?_)
 refine gGw ?_
 have e256:(256:Nat) ^ n=2 ^ (8*n):=by rw [show (256:Nat)=2 ^ 8 from rfl,← Nat.pow_mul]
 have hxz:(x:Int)/2 ^ Int.toNat (8*(n:Int))=0:=by
  rw [show Int.toNat (8*(n:Int))=8*n by omega]
  refine Int.ediv_eq_zero_of_lt (by omega) ?_
  have:(x:Int)<((2 ^ (8*n):Nat):Int):=Int.ofNat_lt.2 (by omega)
  push_cast at this
  exact this
 refine And.intro (fun _=>⟨by omega,show 8*(n:Int)≤(64:Int) by omega⟩) ?_
 refine gGw ?_
 refine br_f (by rw [hxz];simp) ?_
 refine gGw ?_
 refine lp zaa (γ:=Nat) (fun i=>i≤n) (fun i=>[(34,.int .i64 (i:Int)),(33,.int .i64 (n:Int)),(3,.int .u64 ((x/256 ^ i:Nat):Int)),(0,.slice A bs.length c),(1,.int .i64 (at_:Int))]) (fun i=>[BR8 A c bs.length (setB bs at_ (leB x i))]) (fun i=>n-i) 0 (by omega)
  ⟨rfl,rfl,by rw [Nat.pow_zero,Nat.div_one];rfl,rfl,rfl,trivial⟩ (by rw [show leB x 0=[] from rfl,zt6];exact SubM.refl _ _) ?_
 rintro i hi
 dsimp only
 conv=>whnf
 refine br_d (fun hlt=>?_) (fun hge=>?_)
 ·have hlt':i<n:=by omega
  have hll:=zad i x
  have hsn:=zkG i x
  have hset:=zrb (bs:=bs) (at_:=at_) (ys:=leB x i) (UInt8.ofNat (x/256 ^ i%256)) (by omega)
  rw [hll,← hsn] at hset
  have hxi:x/256 ^ i<18446744073709551616:=Nat.lt_of_le_of_lt (Nat.div_le_self _ _) hx8
  have hnx:x/256 ^ (i+1)=x/256 ^ i/256:=by rw [Nat.pow_succ,Nat.div_div_eq_div_mul]
  refine gGw ?_
  refine And.intro ⟨by omega,by omega,hpl⟩ ?_
  conv=>whnf
  refine zaz (off:=at_+i) (xs':=(zah (setB bs at_ (leB x (i+1)))).map (.int .u8)) zaa rfl .here rfl rfl (by show at_+i+1≤bs.length*1;omega) (Nat.one_pos) (by rw [← hset,zpK,← zv1];rfl) ?_
  refine gGw ?_
  refine⟨i+1,by omega,by omega,⟨rfl,rfl,?_,rfl,rfl,trivial⟩,SubM.refl _ _⟩
  refine congrArg (fun x=>some (Value.int .u64 x)) ?_
  rw [hnx]
  generalize x/256 ^ i=y
  show (y:Int)/256=_
  omega
 ·have hin:i=n:=by omega
  subst hin
  refine gGw ?_
  exact fin1 rfl rfl (fun w' hm=>⟨_,⟨rfl,rfl⟩,hm⟩)
end Go.Proofs.YtlmgelmloddfgaaGreat
namespace Go.Proofs.YtlmgelmloddfgaaGreat
open Go Go.RowKit Eng
attribute [local irreducible] Br Rn RnU Cl RdG CpG Ld Rd Lp Dr Oth Cut fin Fits Eng.Enters Md NA
theorem zel:Eng.Enters Tryz.prog 34:=zab fun _ _=>by kernel_rfl
theorem zbJ:Eng.Enters Tryz.prog 119:=zab fun _ _=>by kernel_rfl
theorem zfe:Eng.Enters Tryz.prog 120:=zab fun _ _=>by kernel_rfl
theorem zbn:Eng.Enters Tryz.prog 73:=zab fun _ _=>by kernel_rfl
theorem zdA:Eng.Enters Tryz.prog 74:=zab fun _ _=>by kernel_rfl
theorem zfx:Eng.Enters Tryz.prog 33:=zab fun _ _=>by kernel_rfl
theorem zuK {bs:List UInt8} {i:Nat} (h:i<bs.length):leV (bs.drop i)=(bs.getD i 0).toNat+256*leV (bs.drop (i+1)):=by
 rw [List.drop_eq_getElem_cons h,leV,List.getD_eq_getElem?_getD,List.getElem?_eq_getElem h];rfl
theorem zgI (bs:List UInt8) (A:Option Addr) (c:Nat) (w:World) (hb:BytsIn w A bs) (hl:bs.length≤8) :
  Calls Tryz.prog 34 #[.slice A bs.length c] w fun e w'=>e=.returned (.int .u64 (leV bs:Nat))∧Fr (fun _=>False) w w':=by
 refine enter (cx:=CX 21 [] w) [(0,.slice A bs.length c)] zaa Tryz.func34 rfl rfl rfl rfl (MemOk.nil w _) ?_
 have h1:=fun m=>BytsIn.byts (cx:=CX 21 [] w) (m:=m) hb (fun _ h=>h)
 refine gGw ?_
 refine lp zaa (γ:=Nat) (fun i=>i≤bs.length) (fun i=>[(4,.int .i64 ((i:Int)-1)),(3,.int .u64 (leV (bs.drop i):Nat)),(0,.slice A bs.length c)]) (fun _=>[]) (fun i=>i) bs.length (Nat.le_refl _)
  ⟨rfl,by rw [List.drop_of_length_le (Nat.le_refl _)];rfl,rfl,trivial⟩ (SubM.refl _ _) ?_
 rintro i hi
 dsimp only
 refine gGw ?_
 refine br_d (fun hge=>?_) (fun hlt=>?_)
 ·obtain ⟨j,rfl⟩:∃ j,i=j+1:=⟨i-1,by omega⟩
  have ej:((j+1:Nat):Int)-1=(j:Int):=by omega
  have hv:=znj (l:=bs.drop (j+1)) (by rw [List.length_drop];omega)
  have hs:=zuK (bs:=bs) (i:=j) (by omega)
  have hb8:=(bs.getD j 0).toNat_lt
  have hpl:Pl A:=(h1 []).plain (by omega)
  rw [ej]
  refine gGw ?_
  refine And.intro ⟨by omega,by omega,hpl⟩ ?_
  conv=>whnf
  refine zaj ((h1 _).ld zaa rfl rfl (j:=j) (by omega)) ?_
  refine gGw ?_
  refine⟨j,by omega,by omega,⟨rfl,?_,rfl,trivial⟩,SubM.refl _ _⟩
  refine congrArg (fun x=>some (Value.int .u64 x)) ?_
  rw [hs];push_cast;omega
 ·have hi0:i=0:=by omega
  subst hi0
  refine gGw ?_
  exact fin1 rfl rfl (fun w' hm=>⟨rfl,hm.fr⟩)
theorem zwF {n:Nat} (h:n≤60):1≤(2:Int) ^ n∧(2:Int) ^ n≤1152921504606846976:=by
 have h1:(2:Nat) ^ n≤2 ^ 60:=Nat.pow_le_pow_right (by omega) h
 have h2:0<2 ^ n:=Nat.two_pow_pos n
 have h3:(2:Nat) ^ 60=1152921504606846976:=by decide
 have e:(2:Int) ^ n=((2 ^ n:Nat):Int):=by push_cast;rfl
 rw [e];omega
theorem zcQ (bits:Int) (w:World) (hb:bits≤60) :
  Calls Tryz.prog 119 #[.int .i64 bits] w fun e w'=>e=.returned (.int .i64 (clus bits))∧Fr (fun _=>False) w w':=by
 refine enter (cx:=CX 13 [] w) [(0,.int .i64 bits)] zaa Tryz.func119 rfl rfl rfl rfl (MemOk.nil w _) ?_
 refine gGw ?_
 refine lp zaa (γ:=Nat) (fun i=>i≤bits.toNat) (fun i=>[(4,.int .i64 (i:Int)),(3,.int .i64 (2 ^ i)),(0,.int .i64 bits)]) (fun _=>[]) (fun i=>bits.toNat-i) 0 (by omega) ⟨rfl,rfl,rfl,trivial⟩ (SubM.refl _ _) ?_
 rintro i hi
 dsimp only
 refine gGw ?_
 refine br_d (fun hlt=>?_) (fun hge=>?_)
 ·have hp:=zwF (n:=i) (by omega)
  refine gGw ?_
  refine⟨i+1,by omega,by omega,⟨rfl,?_,rfl,trivial⟩,SubM.refl _ _⟩
  refine congrArg (fun x=>some (Value.int .i64 x)) ?_
  rw [Int.pow_succ,Int.mul_comm]
 ·have hi2:i=bits.toNat:=by omega
  subst hi2
  refine gGw ?_
  exact fin1 rfl rfl (fun w' hm=>⟨rfl,hm.fr⟩)
def upF' (a b:Int):Int:=if a.tmod b=0 then a.tdiv b else a.tdiv b+1
theorem zkf (a b:Int) (w:World) (ha:-4611686018427387904≤a∧a≤4611686018427387904) (hb:1≤b) :
  Calls Tryz.prog 120 #[.int .i64 a,.int .i64 b] w fun e w'=>e=.returned (.int .i64 (upF' a b))∧Fr (fun _=>False) w w':=by
 have hd:=zmD (c:=b) (by omega) ha
 have e1:IntKind.i64.wrap (a.tdiv b)=a.tdiv b:=IntWalk.i64_in _ (by omega)
 refine enter (cx:=CX 16 [] w) [(0,.int .i64 a),(1,.int .i64 b)] zaa Tryz.func120 rfl rfl rfl rfl (MemOk.nil w _) ?_
 refine gGw ?_
 refine br_d (fun h=>?_) (fun h=>?_)
 ·refine gGw ?_
  rw [e1]
  refine fin1 rfl rfl (fun w' hm=>⟨?_,hm.fr⟩)
  rw [upF',if_pos h]
 ·refine gGw ?_
  rw [e1]
  refine gG0 ?_
  refine fin1 rfl rfl (fun w' hm=>⟨?_,hm.fr⟩)
  rw [upF',if_neg h]
theorem zva (bits:Int):1≤clus bits:=by
 unfold clus
 have:(0:Int)<2 ^ bits.toNat:=Int.pow_pos (by omega)
 omega
end Go.Proofs.YtlmgelmloddfgaaGreat
namespace Go.Proofs.YtlmgelmloddfgaaGreat
open Go Go.RowKit Eng
theorem zfc (X R ys:List UInt8):setB (X++R) X.length ys=X++ys++R.drop ys.length:=by
 unfold setB
 rw [List.take_left',List.drop_append,List.drop_of_length_le (by omega),Nat.add_sub_cancel_left,List.nil_append]
 rfl
theorem zfQ (bs ys:List UInt8) (off:Nat) (h:off+ys.length≤bs.length):zbu off ((zah ys).map (Value.int .u8)) ((zah bs).map (.int .u8))=(zah (setB bs off ys)).map (.int .u8):=by
 rw [zaS _ _ _ (by rw [List.length_map,List.length_map,zag,zag];exact h)]
 unfold setB zah
 simp only [List.map_append,List.map_take,List.map_drop,List.length_map]
theorem zgx (k:Nat):List.replicate k (Value.int .u8 0)=(zah (List.replicate k (0:UInt8))).map (.int .u8):=by
 unfold zah
 rw [List.map_replicate,List.map_replicate];rfl
attribute [local irreducible] Br Rn RnU Cl RdG CpG Ld Rd Lp Dr Oth Cut fin Fits Eng.Enters Md NA
theorem zmN (X R:List UInt8) (A:Option Addr) (c most:Nat) (s:ByteArray) (w:World) (hl:X.length+R.length≤100000000) (hs:s.size≤most) (h1:1≤most∧most≤1048576) (h2:4+most≤R.length) (hm:MemOk w (Foot [BR8 A c (X++R).length (X++R)]) [BR8 A c (X++R).length (X++R)] w) :
  Ctr Tryz.prog 132 [.slice A (X++R).length c,.int .i64 (X.length:Int),.int .i64 (most:Int),.string s] [BR8 A c (X++R).length (X++R)] (fun e m'=>e=.returned (.int .i64 0)∧m'=[BR8 A c (X++R).length (X++leB s.size 4++s.data.toList++List.replicate (most-s.size) 0++R.drop (4+most))]) w:=by
 have hxr:(X++R).length=X.length+R.length:=List.length_append
 have hsl:s.data.toList.length=s.size:=rfl
 refine enter (cx:=CXS 40 [] w (Foot [BR8 A c (X++R).length (X++R)])) [(0,.slice A (X++R).length c),(1,.int .i64 (X.length:Int)),(2,.int .i64 (most:Int)),(3,.string s)] zaa Tryz.func132 rfl rfl rfl rfl hm ?_
 have hpl:Pl A:=zc0 (hm.ok _ (List.mem_cons_self ..)) (by omega)
 have hcap:(X++R).length≤c:=zeO (hm.ok _ (List.mem_cons_self ..))
 have hs4:s.size<256 ^ 4:=Nat.lt_of_le_of_lt (show s.size≤1048576 by omega) (by decide)
 have eF:zhg (X++R).length X.length most=0:=by
  unfold zhg
  rw [if_neg (by omega),if_pos (liesB_iff.2 ⟨by omega,by omega,by omega⟩)]
 refine gGw ?_
 refine⟨zhf,zae _ (fun w' _=>zml A (X++R).length c X.length most w' (by omega) (by omega)) ?_⟩
 rw [eF]
 refine gGw ?_
 refine br_n (br_t rfl ?_)
 refine gGw ?_
 refine br_f (decide_eq_false (by omega)) ?_
 refine gGw ?_
 refine⟨zfK,zac (m1:=[BR8 A c (X++R).length (X++R)]) (by repeat constructor) (fun w' hm'=>znO (X++R) A c X.length 4 s.size w' (by omega) (by omega) (by omega) hs4 hm'.part) ?_⟩
 rintro e m' ⟨rfl,rfl⟩
 rw [zfc,zad]
 have hA:(X++leB s.size 4).length=X.length+4:=by rw [List.length_append,zad]
 have hD:(R.drop 4).length=R.length-4:=List.length_drop
 generalize hY:X++leB s.size 4=Y at hA ⊢
 refine gGw ?_
 refine And.intro ⟨by omega,by omega,by omega,.inr hpl⟩ ?_
 refine gGw ?_
 have hcut:cutA A c ((X.length:Int)+4).toNat ty5.cells=pl A (X.length+4):=by
  show cutA A c ((X.length:Int)+4).toNat 1=_
  rw [show ((X.length:Int)+4).toNat=X.length+4 by omega]
  unfold cutA
  rw [if_neg (by omega),zcD,Nat.mul_one]
 have hlen:((X.length:Int)+4+most).toNat-((X.length:Int)+4).toNat=most:=by omega
 rw [hcut,hlen]
 refine zn9 (off:=X.length+4) zaa rfl rfl .here (fun _=>rfl) (z:=.int .u8 0) z_u8 rfl rfl (by omega) ?_
 rw [zgx,zfQ _ _ _ (by rw [List.length_append,List.length_replicate];omega)]
 have e1:setB (Y++R.drop 4) (X.length+4) (List.replicate most 0)=Y++List.replicate most 0++R.drop (4+most):=by
  rw [← hA,zfc,List.length_replicate,List.drop_drop]
 rw [e1]
 refine gGw ?_
 refine zn8 (off:=X.length+4) zaa rfl rfl rfl rfl .here rfl hs (by omega) ?_
 rw [zfQ _ _ _ (by rw [List.length_append,List.length_append,List.length_replicate,List.length_drop];omega)]
 have e2:setB (Y++List.replicate most 0++R.drop (4+most)) (X.length+4) s.data.toList=Y++s.data.toList++List.replicate (most-s.size) 0++R.drop (4+most):=by
  rw [← hA,List.append_assoc,zfc,hsl,List.drop_append,List.drop_replicate,List.length_replicate,show s.size-most=0 by omega,List.drop_zero]
  simp only [List.append_assoc]
 rw [e2,← hY]
 refine gGw ?_
 exact fin1 rfl rfl (fun w' hm=>⟨_,⟨rfl,rfl⟩,hm⟩)
end Go.Proofs.YtlmgelmloddfgaaGreat
namespace Go.Proofs.YtlmgelmloddfgaaGreat
open Go Go.RowKit Eng
def i64w (x:Nat):Int:=IntKind.i64.wrap (x:Int)
def zf0 (a b:Int):Int:=(a+b-1)/b
def zqT (h:Hd):Int:=zf0 (zf0 h.size (clus h.bits)) (clus h.bits/8)
def plB (at_ c:Int):Bool:=decide (0<at_)&&decide (at_≤268435456)&&decide (at_%c=0)
def liOk (n at_ long c:Int):Bool:=if n=0 then decide (at_=0)&&decide (long=0) else decide (0<n)&&decide (n≤64)&&plB at_ c&&decide (1≤long)&&decide (long≤65536)
def mayH (h:Hd):Bool :=
 decide (9≤h.bits)&&decide (h.bits≤16)&&decide (h.flags≤1)&&decide (0≤h.size)&&decide (h.size≤67108864)&&decide (h.size%512=0) &&
 (decide (0≤h.l1len)&&decide (h.l1len≤1048576)&&decide (zqT h≤h.l1len)) &&
 ((decide (h.l1len=0)&&decide (h.l1=0))||(decide (0<h.l1len)&&plB h.l1 (clus h.bits))) &&
 (decide (0≤h.order)&&decide (h.order≤6)) &&
 (plB h.counts (clus h.bits)&&decide (1≤h.countsLen)&&decide (h.countsLen≤65536)) &&
 liOk h.snaps h.snapsAt h.snapsLen (clus h.bits)&&liOk h.bitmaps h.bitmapsAt h.bitmapsLen (clus h.bits) &&
 (decide (h.backing.size≤64)&&h.backing.data.toList.all fun x=>!(x == 0))
def zit:List UInt8:=[80,65,76,49]
def zdG (h:Hd):List (Nat × Int) :=
 [(4,h.bits),(8,h.flags),(8,h.size),(8,h.l1),(4,h.l1len),(4,h.order),(8,h.counts),(4,h.countsLen),(4,h.snaps),(8,h.snapsAt),(4,h.snapsLen),(4,h.bitmaps),(8,h.bitmapsAt),(4,h.bitmapsLen)]
def zl1 (l:List (Nat × Int)):List UInt8:=l.flatMap fun q=>leB q.2.toNat q.1
def zbe (h:Hd):List UInt8:=zit++zl1 (zdG h)++leB h.backing.size 4++h.backing.data.toList++List.replicate (424-h.backing.size) 0
end Go.Proofs.YtlmgelmloddfgaaGreat
namespace Go.Proofs.YtlmgelmloddfgaaGreat
open Go Go.RowKit Eng
theorem zoi (a c:Int):(decide (0<a)&&decide (a≤268435456)&&decide (a.tmod c=0))=plB a c:=by
 unfold plB
 by_cases h:0<a
 ·rw [Int.tmod_eq_emod_of_nonneg (by omega)]
 ·rw [decide_eq_false h];rfl
attribute [local irreducible] Br Rn RnU Cl RdG CpG Ld Rd Lp Dr Oth Cut fin Fits Eng.Enters Md NA
theorem zcu:Eng.Enters Tryz.prog 161:=zab fun _ _=>by kernel_rfl
theorem zcl:Eng.Enters Tryz.prog 162:=zab fun _ _=>by kernel_rfl
theorem ziD:Eng.Enters Tryz.prog 192:=zab fun _ _=>by kernel_rfl
theorem zl9:Eng.Enters Tryz.prog 163:=zab fun _ _=>by kernel_rfl
theorem zd8 (a cc:Int) (cB:Nat) (w:World) (hc:w.cell? ⟨cB,0,none⟩=some (.int .i64 cc)) (h0:0<cc) :
  Calls Tryz.prog 161 #[.int .i64 a,.pointer (some ⟨cB,0,none⟩)] w fun e w'=>e=.returned (.bool (plB a cc))∧Fr (fun _=>False) w w':=by
 refine enter (cx:=CX 16 [] w) [(0,.int .i64 a),(1,.pointer (some ⟨cB,0,none⟩))] zaa Tryz.func161 rfl rfl rfl rfl (MemOk.nil w _) ?_
 refine gGw ?_
 refine⟨_,(ldF zaa hc (fun h=>h) rfl rfl).g,?_⟩
 refine gGw ?_
 exact fin1 rfl rfl (fun w' hm=>⟨by rw [zoi],hm.fr⟩)
theorem zoF (a b:Int) (w:World) (ha:0≤a∧a≤4611686018427387904) (hb:1≤b∧b≤1048576) :
  Calls Tryz.prog 192 #[.int .i64 a,.int .i64 b] w fun e w'=>e=.returned (.int .i64 (zf0 a b))∧Fr (fun _=>False) w w':=by
 refine enter (cx:=CX 11 [] w) [(0,.int .i64 a),(1,.int .i64 b)] zaa Tryz.func192 rfl rfl rfl rfl (MemOk.nil w _) ?_
 refine gGw ?_
 have hq:(a+b-1).tdiv b=zf0 a b:=by rw [Int.tdiv_eq_ediv_of_nonneg (by omega)];rfl
 have hb1:0≤zf0 a b:=Int.ediv_nonneg (by omega) (by omega)
 have hb2:zf0 a b≤a+b-1:=Int.ediv_le_self _ (by omega)
 rw [hq,IntWalk.i64_in _ (show _ by omega)]
 exact fin1 rfl rfl (fun w' hm=>⟨rfl,hm.fr⟩)
theorem zc4 {bits:Int} (h:9≤bits∧bits≤16):512≤clus bits∧clus bits≤65536∧clus bits%8=0:=by
 rcases zgY h with ⟨_,e⟩|⟨_,e⟩|⟨_,e⟩|⟨_,e⟩|⟨_,e⟩|⟨_,e⟩|⟨_,e⟩|⟨_,e⟩<;>rw [e]<;>decide
theorem zrV (h:Hd) (w:World) (hb:9≤h.bits∧h.bits≤16) (hs:0≤h.size∧h.size≤67108864) :
  Calls Tryz.prog 163 #[.agg h.cells.toArray] w fun e w'=>e=.returned (.int .i64 (zqT h))∧Fr (fun _=>False) w w':=by
 refine enter (cx:=CX 14 [] w) [(0,.agg h.cells.toArray)] zaa Tryz.func163 rfl rfl rfl rfl (MemOk.nil w _) ?_
 have hc:=zc4 hb
 have hcw:IntKind.i64.wrap (1*2 ^ h.bits.toNat)=clus h.bits:=by rw [Int.one_mul];exact IntWalk.i64_in (clus h.bits) (by omega)
 have hd1:0≤zf0 h.size (clus h.bits):=Int.ediv_nonneg (by omega) (by omega)
 have hd2:zf0 h.size (clus h.bits)≤h.size+clus h.bits-1:=Int.ediv_le_self _ (by omega)
 refine gGw ?_;(repeat ((first|refine .mk fun Ap capp=>?_|intro _);(conv=>whnf);refine gG0 ?_))
 refine And.intro ⟨by omega,by show h.bits≤(64:Int);omega⟩ ?_
 refine gGw ?_
 rw [hcw]
 refine⟨ziD,zae _ (fun w' _=>zoF h.size (clus h.bits) w' (by omega) (by omega)) ?_⟩
 refine gGw ?_
 have e8:IntKind.i64.wrap ((clus h.bits).tdiv 8)=clus h.bits/8:=by
  rw [Int.tdiv_eq_ediv_of_nonneg (by omega)];exact IntWalk.i64_in _ (by omega)
 rw [e8]
 refine⟨ziD,zae _ (fun w' _=>zoF (zf0 h.size (clus h.bits)) (clus h.bits/8) w' (by omega) (by omega)) ?_⟩
 refine gGw ?_
 exact fin1 rfl rfl (fun w' hm=>⟨rfl,hm.fr⟩)
theorem zd9 (n a long cc:Int) (cB pB:Nat) (w:World) (hc:w.cell? ⟨cB,0,none⟩=some (.int .i64 cc)) (hp:w.cell? ⟨pB,0,none⟩=some (.func (.func 161) #[] #[.pointer (some ⟨cB,0,none⟩)])) (h0:0<cc) :
  Calls Tryz.prog 162 #[.int .i64 n,.int .i64 64,.int .i64 a,.int .i64 long,.pointer (some ⟨pB,0,none⟩)] w fun e w'=>e=.returned (.bool (liOk n a long cc))∧Fr (fun _=>False) w w':=by
 refine enter (cx:=⟨Tryz.prog,38,w,fun _=>False,tab,[],[161],[],[]⟩) [(0,.int .i64 n),(1,.int .i64 64),(2,.int .i64 a),(3,.int .i64 long),(4,.pointer (some ⟨pB,0,none⟩))] zaa Tryz.func162 rfl rfl rfl rfl (MemOk.nil w _) ?_
 refine gGw ?_
 refine br_d (fun hn=>?_) (fun hn=>?_)
 ·have eL:liOk n a long cc=(decide (a=0)&&decide (long=0)):=if_pos hn
  rw [eL]
  refine gGw ?_
  exact fin1 rfl rfl (fun w' hm=>⟨rfl,hm.fr⟩)
 ·have eL:liOk n a long cc=(decide (0<n)&&decide (n≤64)&&plB a cc&&decide (1≤long)&&decide (long≤65536)):=if_neg hn
  rw [eL]
  refine gGw ?_
  refine br (fun ht=>?_) (fun hf=>?_)
  ·rw [ht,Bool.true_and]
   refine gGw ?_
   refine zaj (ldF zaa hp (fun h=>h) rfl rfl) ?_
   refine gGw ?_
   refine⟨zcu,zae _ (fun w' hm'=>zd8 a cc cB w' (hm'.far hc (fun h=>h)) h0) ?_⟩
   refine gGw ?_
   exact fin1 rfl rfl (fun w' hm=>⟨rfl,hm.fr⟩)
  ·rw [hf,Bool.false_and,Bool.false_and,Bool.false_and]
   refine gGw ?_
   exact fin1 rfl rfl (fun w' hm=>⟨rfl,hm.fr⟩)
end Go.Proofs.YtlmgelmloddfgaaGreat
namespace Go.Proofs.YtlmgelmloddfgaaGreat.Eng
open Go Go.RowKit
section last
variable {P:Program} {ops:Array Oper} {md:Region.Mode} {Q:Exit→Act→World→Prop} {C:World→Prop}
def inB (ops:Array Oper):Bool:=ops.toList.all fun o=>(o.after.toList.all fun e=>Nat.blt e.on ops.size)&&(match o.guard with
 | none=>true
 | some (j,_)=>Nat.blt j ops.size)
theorem zkI (h:inB ops=true) {i:Nat} {o:Oper} (hi:ops[i]?=some o):(∀ e∈o.after,e.on<ops.size)∧∀ j b,o.guard=some (j,b)→j<ops.size:=by
 unfold inB at h
 rw [List.all_eq_true] at h
 have hm:o∈ops.toList:=by
  obtain ⟨hl,he⟩:=Array.getElem?_eq_some_iff.1 hi
  rw [← he];exact Array.getElem_mem_toList hl
 have:=h o hm
 rw [Bool.and_eq_true,List.all_eq_true] at this
 refine⟨fun e he=>Nat.le_of_ble_eq_true (this.1 e (by simpa using he)),fun j b hg=>?_⟩
 have h2:=this.2
 rw [hg] at h2
 exact Nat.le_of_ble_eq_true h2
theorem zii {listed:Array Bool} {j:Nat} (d:Bool) (h:j<listed.size):(listed.push true).getD j d=listed.getD j d:=by
 rw [Array.getD_eq_getD_getElem?,Array.getD_eq_getD_getElem?,Array.getElem?_push_lt h,Array.getElem?_eq_getElem h]
theorem zlT {listed:Array Bool} {j:Nat} (h:¬ j<listed.size):(listed.push true).getD j true=true:=by
 rw [Array.getD_eq_getD_getElem?,Array.getElem?_push]
 split
 ·rfl
 ·rw [Array.getElem?_eq_none (by omega)];rfl
theorem zjs {z:Oper} (hin:inB ops=true) {listed:Array Bool} (hs:listed.size=ops.size) {j:Nat}:j∈Region.ready md (ops.push z) (listed.push true)↔j∈Region.ready md ops listed:=by
 rw [mem_ready,mem_ready]
 by_cases hj:j<ops.size
 ·rw [zii true (by omega),Array.getElem?_push_lt hj,Array.getElem?_eq_getElem hj]
  refine and_congr_right fun _=>⟨fun ⟨o,ho,h⟩=>⟨o,ho,fun e he hb=>?_⟩,fun ⟨o,ho,h⟩=>⟨o,ho,fun e he hb=>?_⟩⟩
  ·have:=h e he hb
   rwa [zii false (by have:=(zkI hin (i:=j) (by rw [Array.getElem?_eq_getElem hj];exact ho)).1 e he;omega)] at this
  ·rw [zii false (by have:=(zkI hin (i:=j) (by rw [Array.getElem?_eq_getElem hj];exact ho)).1 e he;omega)]
   exact h e he hb
 ·constructor
  ·rintro ⟨h,_⟩
   rw [zlT (by omega)] at h;cases h
  ·rintro ⟨_,o,ho,_⟩
   rw [Array.getElem?_eq_none (by omega)] at ho;cases ho
theorem zqF {z:Oper} (hin:inB ops=true) {i:Nat} (hi:i<ops.size) {K:Act→World→Prop} {a:Act} {w:World} (h:wpOp P ops Q i K a w):wpOp P (ops.push z) Q i K a w:=by
 have e1:(ops.push z)[i]?=ops[i]?:=by rw [Array.getElem?_push_lt hi,Array.getElem?_eq_getElem hi]
 have e0:=Array.getElem?_eq_getElem hi
 have hg:=(zkI hin e0).2
 unfold wpOp at *
 simp only [e1,e0] at h ⊢
 have e2:Region.wanted ops[i] (yielded (ops.push z) a.tmps)=Region.wanted ops[i] (yielded ops a.tmps):=by
  unfold Region.wanted
  split
  ·rfl
  ·rename_i j b hgg
   have hj:=hg j b hgg
   have:(ops.push z)[j]?=ops[j]?:=by rw [Array.getElem?_push_lt hj,Array.getElem?_eq_getElem hj]
   unfold yielded
   rw [this]
 rw [e2]
 exact h
theorem zoY {z:Oper} (hin:inB ops=true):∀ (f:Nat) (listed:Array Bool) (a:Act) (w:World),listed.size=ops.size→wpAny P md ops Q f listed a w→wpAny P md (ops.push z) Q f (listed.push true) a w:=by
 have hnil:∀ listed:Array Bool,listed.size=ops.size→(Region.ready md (ops.push z) (listed.push true)=[]↔Region.ready md ops listed=[]):=fun listed hs=>by
  rw [List.eq_nil_iff_forall_not_mem,List.eq_nil_iff_forall_not_mem]
  exact forall_congr' fun j=>not_congr (zjs hin hs)
 intro f
 induction f with
 | zero=>exact fun listed a w hs h=>⟨(hnil listed hs).2 h.1,h.2⟩
 | succ f ih =>
  refine fun listed a w hs h=>⟨fun h0=>h.1 ((hnil listed hs).1 h0),fun i hi=>?_⟩
  have hi':=(zjs hin hs).1 hi
  obtain ⟨_,o,ho,_⟩:=mem_ready.1 hi'
  have hlt:i<ops.size:=(Array.getElem?_eq_some_iff.1 ho).1
  refine zqF hin hlt (wpOp_mono (fun a' w' h'=>?_) (h.2 i hi'))
  have e:(listed.push true).setIfInBounds i true=(listed.setIfInBounds i true).push true:=by
   apply Array.ext_getElem?
   intro j
   rw [Array.getElem?_setIfInBounds,Array.getElem?_push,Array.getElem?_push,Array.getElem?_setIfInBounds]
   simp only [Array.size_push,Array.size_setIfInBounds]
   by_cases hij:i=j
   ·subst hij
    rw [if_pos rfl,if_pos (by omega),if_neg (by omega),if_pos rfl,if_pos (by omega)]
   ·rw [if_neg hij,if_neg hij]
  rw [e]
  exact ih _ a' w' (by simpa using hs) h'
theorem zmu:∀ (f:Nat) (listed:Array Bool) (a:Act) (w:World),wpAny P md ops Q f listed a w→AnyC P md ops (fun _=>True) Q f listed a w
 | 0,_,_,_,h=>h
 | f+1,_,_,_,h=>⟨h.1,fun i hi=>wpOp_mono (fun a' w' h'=>⟨trivial,zmu f _ a' w' h'⟩) (h.2 i hi)⟩
theorem zhk {a:Act} {w:World} (n:Nat) (hB:Region.lexTailB .any ops n=true) (hC:C w)
  (h:wpQuiet P ops C (fun a'=>∀ w',C w'→wpList P ops Q (ops.toList.drop n) a' w') (ops.toList.take n) a):wpAny P .any ops Q ops.size (Array.replicate ops.size false) a w:=by
 simp only [Region.lexTailB,Bool.and_eq_true,decide_eq_true_eq] at hB
 obtain ⟨⟨⟨⟨hsel,hn⟩,hs⟩,hc⟩,hlex⟩:=hB
 have htl:(ops.toList.take n).length=n:=by simp;omega
 have hdl:(ops.toList.drop n).length=ops.size-n:=by simp
 have inv0:HeadInv .any ops n (Array.replicate ops.size false) :=
  ⟨by simp,fun j oj _ hl=>(by rw [getD_replicate_false] at hl;cases hl),fun t _ ht=>getD_in (by simpa using ht) (getD_replicate_false _ _)⟩
 have H:=AnyHead.lex (md:=.any) (g:=ops.size-n) hsel hs hc hn (ops.toList.take n) 0 _ a (fun j hj=>by
  have hj':j<n:=by rw [htl] at hj;exact hj
  simp [hj']) (by simpa using htl) inv0 (by rw [htl];exact hlex) h
 have:=AnyHead.all (Q:=Q) (g:=ops.size-n) (fun listed a' w' hw' hL=>by
  have:=wpAny_of_seq (md:=.any) (Q':=Q) (ops.toList.drop n) n listed a' w' (fun j=>by simp [List.getElem?_drop]) (by rw [hdl];exact hL.1) (hL.2 w' hw')
  rwa [hdl] at this) _ _ _ _ hC H
 rw [htl,show n+(ops.size-n)=ops.size by omega] at this
 exact this
end last
section lastE
variable {cx:Cx}
def noP (k:Exit→Env→Mem→Prop):Exit→Env→Mem→Prop
 | .panic _,_,_=>False
 | ex,e,m=>k ex e m
theorem zrI {k:Exit→Env→Mem→Prop}:zqy (Qk cx (noP k)):=fun _ _ _ _ _ ⟨_,_,_,_,h⟩=>h.elim
theorem zwM {k:Exit→Env→Mem→Prop} {ex:Exit} {a:Act} {w:World} (h:Qk cx (noP k) ex a w):Qk cx k ex a w:=by
 obtain ⟨e,m,h1,h2,h3⟩:=h
 cases ex with
 | panic ch=>exact h3.elim
 | normal=>exact⟨e,m,h1,h2,h3⟩
 | exit id=>exact⟨e,m,h1,h2,h3⟩
 | goto l=>exact⟨e,m,h1,h2,h3⟩
 | ret=>exact⟨e,m,h1,h2,h3⟩
 | outgrown=>exact⟨e,m,h1,h2,h3⟩
theorem zmn (n m0:Nat) (ht:TabOk cx.P cx.tab) (hmix:cx.P.follows .mixedOrders=true) {id:Nat} {ops:Array Oper} {d ty:Nat} {v:Value} {pos:String} (hlast:ze4 n ops.toList=[⟨some d,.move (.const v),ty,pos,#[],none⟩])
  (hB:(Region.noSelect ops&&Region.lexTailB .any (zcN n ops.toList).toArray m0&&inB (zcN n ops.toList).toArray&&Region.free .any ops (Array.replicate ops.size false) n)=true) (hd0:zbG cx.n (ze4 n ops.toList)=true)
  (hd1:zbG cx.n (zcN m0 (zcN n ops.toList))=true) (hd2:zbG cx.n (ze4 m0 (zcN n ops.toList))=true) {k:Exit→Env→Mem→Prop} {e:Env} {m:Mem}
  (h:XQ cx (zcN n ops.toList).toArray (fun _ e m=>XL cx (zcN n ops.toList).toArray (noP k) (ze4 m0 (zcN n ops.toList)) none [] e m) (zcN m0 (zcN n ops.toList)) none [] ((d,v)::e) m):Dr cx id ops k e m:=by
 simp only [Bool.and_eq_true] at hB
 obtain ⟨⟨⟨hsel,hB⟩,hin⟩,hfree⟩:=hB
 have hops:ops=((zcN n ops.toList).toArray).push ⟨some d,.move (.const v),ty,pos,#[],none⟩:=by
  apply Array.toList_inj.1
  rw [Array.toList_push,← hlast,zc5,zcK]
  exact (List.take_append_drop n ops.toList).symm
 have hdd:=zcY (i:=0) hd0 (by rw [hlast];rfl)
 generalize hR:(zcN n ops.toList)=L at *
 have hn:n=L.toArray.size:=by
  have h1:(ze4 n ops.toList).length=1:=by rw [hlast];rfl
  rw [zcK,List.length_drop] at h1
  have:L.length=n:=by rw [← hR,zc5,List.length_take];omega
  simpa using this.symm
 subst hn
 clear hR hlast hd0
 intro a w he hm
 refine wp_mono (Q:=Qk cx (noP k)) (wp_region_any hmix ?_) (fun ex a' w' hq=>zwM hq)
 have hm':=hm.same (zeu w (w.drawn+1))
 subst hops
 have hz:(L.toArray.push ⟨some d,.move (.const v),ty,pos,#[],none⟩)[L.toArray.size]?=some ⟨some d,.move (.const v),ty,pos,#[],none⟩:=Array.getElem?_push_size ..
 have hquiet:=zxo ht (zcN m0 L) none [] ((d,v)::e) (a.put (some d) v) hd1 (he.put hdd v) ScOk.none_ (KnOk.nil _) h
 have hw:wpAny cx.P .any L.toArray (Qk cx (noP k)) L.toArray.size (Array.replicate L.toArray.size false) (a.put (some d) v) { w with drawn:=w.drawn+1 }:=by
  refine zhk (C:=MemOk cx.w0 cx.S m) m0 hB hm' ?_
  rw [zc5] at hquiet
  refine zg4 _ _ _ _ (fun a' ⟨e',h1,h2⟩ w' hw'=>?_) hquiet
  rw [zcK] at h2 hd2
  exact zsQ ht _ none [] e' m a' w' hd2 h1 hw' ScOk.none_ (KnOk.nil e') h2
 have hw2:=zmu _ _ _ _ (zoY (z:=⟨some d,.move (.const v),ty,pos,#[],none⟩) hin _ _ _ _ (by simp) hw)
 have hrep:(Array.replicate (L.toArray.push (⟨some d,.move (.const v),ty,pos,#[],none⟩:Oper)).size false).setIfInBounds L.toArray.size true=(Array.replicate L.toArray.size false).push true:=by
  rw [Array.size_push]
  apply Array.toList_inj.1
  rw [Array.toList_setIfInBounds,Array.toList_push,Array.toList_replicate,Array.toList_replicate,List.replicate_succ',List.set_append_right _ _ (by simp)]
  simp
 rw [← hrep] at hw2
 have hready:L.toArray.size∈Region.ready .any (L.toArray.push ⟨some d,.move (.const v),ty,pos,#[],none⟩) (Array.replicate (L.toArray.push (⟨some d,.move (.const v),ty,pos,#[],none⟩:Oper)).size false) :=
  mem_ready.2 ⟨getD_in (by simp) (getD_replicate_false _ _),_,hz,fun e he=>by simp at he⟩
 have:=AnyC.first (md:=.any) (zrI (cx:=cx) (k:=k)) hz (Region.noSelect_spec hsel) _ _ a { w with drawn:=w.drawn+1 } trivial (Region.free_spec hz hfree) hready ⟨rfl,fun w _=>rfl⟩ hw2
 have h2:=this.any
 rw [Array.size_push] at h2 ⊢
 exact h2
end lastE
end Go.Proofs.YtlmgelmloddfgaaGreat.Eng
