/- Part of a proof: contracts of the functions that the law reaches. No statement of the seat is proved here. -/
import Derived.WalkKit
import Derived.Below
import Derived.Lib.Hide
import Derived.KernelRfl
import Derived.Laws.AppendOwn
import Derived.Laws.BytesArg
import Derived.Deep.Draws
import Derived.Laws.Tables
set_option linter.unusedVariables false
set_option linter.unusedSimpArgs false
set_option linter.unusedSectionVars false
set_option maxRecDepth 100000
namespace Go.Proofs.YtlmgelmloddfgaaGreat.Eng
open Go Go.RowKit
/-! ## the frame -/
abbrev Env:=List (Nat × Value)
def Env.get:Env→Nat→Option Value
 | [],_=>none
 | (k,v)::r,t=>match Nat.beq k t with
  | true=>some v
  | false=>Env.get r t
def Env.ev (e:Env):Operand→Option Value
 | .tmp t=>e.get t
 | .const v=>some v
 | .global g=>some (.pointer (some ⟨g,0,none⟩))
 | .func f=>some (.func (.func f) #[] #[])
def Env.putD (e:Env):Option Nat→Value→Env
 | none,_=>e
 | some d,v=>(d,v)::e
def EnvOk (n:Nat) (D:List Deferred) (e:Env) (a:Act):Prop:=a.defers=D∧a.tmps.size=n∧∀ t v,e.get t=some v→a.tmps.getD t undef=v
theorem Env.get_cons (k:Nat) (v:Value) (r:Env) (t:Nat):Env.get ((k,v)::r) t=if k=t then some v else Env.get r t:=by
 by_cases h:k=t
 ·subst h;simp [Env.get]
 ·have:Nat.beq k t=false:=by
   cases hb:Nat.beq k t with
   | false=>rfl
   | true=>exact absurd (Nat.eq_of_beq_eq_true hb) h
  rw [if_neg h]
  show (match Nat.beq k t with|true=>some v|false=>Env.get r t)=_
  rw [this]
theorem EnvOk.ev {n:Nat} {D:List Deferred} {e:Env} {a:Act} (h:EnvOk n D e a) {x:Operand} {v:Value} (hx:e.ev x=some v):a.eval x=v:=by
 cases x with
 | tmp t=>exact h.2.2 t v hx
 | const c=>simpa [Env.ev,Act.eval] using hx
 | global g=>simpa [Env.ev,Act.eval] using hx
 | func f=>simpa [Env.ev,Act.eval] using hx
theorem zoN (l:Array Value) (d t:Nat) (v:Value):(l.setIfInBounds d v).getD t undef=if d=t∧t<l.size then v else l.getD t undef:=by
 by_cases h:t<l.size
 ·simp only [Array.getD,Array.size_setIfInBounds,h,dite_true,and_true]
  show (l.setIfInBounds d v)[t]'_=_
  rw [Array.getElem_setIfInBounds]
  rfl
 ·simp [Array.getD,h]
theorem EnvOk.put {n:Nat} {D:List Deferred} {e:Env} {a:Act} (h:EnvOk n D e a) {d:Option Nat} (hd:d.all (fun i=>decide (i<n))=true) (v:Value):EnvOk n D (e.putD d v) (a.put d v):=by
 cases d with
 | none=>exact h
 | some d =>
  simp at hd
  refine⟨h.1,by simpa [Act.put] using h.2.1,fun t u hu=>?_⟩
  simp only [Env.putD,Env.get_cons] at hu
  simp only [Act.put,zoN]
  by_cases hdt:d=t
  ·subst hdt
   simp at hu
   subst hu
   rw [if_pos ⟨rfl,by rw [h.2.1];exact hd⟩]
  ·rw [if_neg (fun hh=>hdt hh.1)]
   rw [if_neg hdt] at hu
   exact h.2.2 t u hu
theorem EnvOk.put_off {n:Nat} {D:List Deferred} {e:Env} {a:Act} (h:EnvOk n D e a) {d:Nat} (v:Value) (hd:e.get d=none):EnvOk n D e (a.put (some d) v):=by
 refine⟨h.1,by simpa [Act.put] using h.2.1,fun t u hu=>?_⟩
 simp only [Act.put,zoN]
 by_cases hdt:d=t
 ·subst hdt;rw [hd] at hu;cases hu
 ·rw [if_neg (fun hh=>hdt hh.1)]
  exact h.2.2 t u hu
def Env.sub:Env→Env→Prop
 | [],_=>True
 | (t,v)::r,e=>e.get t=some v∧Env.sub r e
theorem Env.sub_get:∀ {e' e:Env},Env.sub e' e→∀ {t v},e'.get t=some v→e.get t=some v
 | [],_,_,_,_,h=>by cases h
 | (k,u)::r,e,hs,t,v,h=>by
  rw [Env.get_cons] at h
  by_cases hk:k=t
  ·subst hk
   rw [if_pos rfl] at h
   cases h
   exact hs.1
  ·rw [if_neg hk] at h
   exact Env.sub_get hs.2 h
theorem EnvOk.sub {n:Nat} {D:List Deferred} {e e':Env} {a:Act} (h:EnvOk n D e a) (hs:Env.sub e' e):EnvOk n D e' a:=⟨h.1,h.2.1,fun t v hv=>h.2.2 t v (Env.sub_get hs hv)⟩
theorem EnvOk.yielded {n:Nat} {D:List Deferred} {e:Env} {a:Act} (h:EnvOk n D e a) {ops:Array Oper} {j d:Nat} {b:Bool} (hj:(ops[j]?).bind (·.dst)=some d) (hd:e.get d=some (.bool b)):yielded ops a.tmps j=some b:=by
 have:=h.2.2 d _ hd
 simp only [Go.yielded,hj,Option.bind_some]
 rcases Nat.lt_or_ge d a.tmps.size with hlt|hge
 ·simp only [Array.getD,hlt,dite_true] at this
  rw [Array.getElem?_eq_getElem hlt]
  show (match some a.tmps[d] with|some (.bool b)=>some b|_=>none)=some b
  have h2:a.tmps[d]=.bool b:=this
  rw [h2]
 ·exfalso
  simp only [Array.getD] at this
  rw [dif_neg (by omega)] at this
  cases this
/-! ## the memory -/
structure Fr (S:Nat→Prop) (w w':World):Prop where
 os:w'.os=w.os
 tape:w'.tape=w.tape
 output:w'.output=w.output
 size:w.heap.size≤w'.heap.size
 block:∀ k,k<w.heap.size→¬ S k→w'.heap[k]?=w.heap[k]?
theorem Fr.refl (S:Nat→Prop) (w:World):Fr S w w:=⟨rfl,rfl,rfl,Nat.le_refl _,fun _ _ _=>rfl⟩
theorem Fr.trans {S:Nat→Prop} {a b c:World} (h:Fr S a b) (k:Fr S b c):Fr S a c :=
 ⟨k.os.trans h.os,k.tape.trans h.tape,k.output.trans h.output,Nat.le_trans h.size k.size,fun i hi hs=>(k.block i (Nat.lt_of_lt_of_le hi h.size) hs).trans (h.block i hi hs)⟩
theorem Fr.mono {S T:Nat→Prop} {a b:World} (h:Fr S a b) (hs:∀ k,k<a.heap.size→S k→T k):Fr T a b :=
 ⟨h.os,h.tape,h.output,h.size,fun k hk ht=>h.block k hk fun hh=>ht (hs k hk hh)⟩
theorem Fr.below {w w':World} (h:Fr (fun _=>False) w w'):Below w.heap.size w w':=⟨h.os,h.tape,h.output,h.size,fun k hk=>h.block k hk id⟩
theorem Fr.of_grown {w w':World} {row:Option Nat} {S:Nat→Prop} (h:w.grownBy w' row) (hr:∀ k,row=some k→S k):Fr S w w' :=
 ⟨h.os,h.tape,h.output,h.size,fun k hk hs=>h.block k hk fun e=>hs (hr k e.symm)⟩
inductive Res where
 | blk (b:Nat) (o:Obj)
 | row (A:Option Addr) (cap n:Nat) (t size:Nat) (xs:List Value)
def Res.foot:Res→Option Nat
 | .blk b _=>some b
 | .row A _ _ _ _ _=>A.map (·.block)
def Res.ok (w:World):Res→Prop
 | .blk b o=>w.heap[b]?=some o
 | .row A cap n t size xs=>w.ownsRow 0 t size (.slice A n cap) n xs
abbrev Mem:=List Res
structure MemOk (w0:World) (S:Nat→Prop) (m:Mem) (w:World):Prop where
 fr:Fr S w0 w
 ok:∀ r∈m,r.ok w
 own:∀ r∈m,∀ b,r.foot=some b→w0.heap.size≤b∨S b
 apart:m.Pairwise fun r s=>∀ b,r.foot=some b→s.foot≠some b
theorem Res.ok_lt {w:World} {r:Res} (h:r.ok w) {b:Nat} (hb:r.foot=some b):b<w.heap.size:=by
 cases r with
 | blk b' o =>
  simp [Res.foot] at hb;subst hb
  exact (Array.getElem?_eq_some_iff.1 h).1
 | row A cap n t size xs =>
  refine (World.ownsRow.lt h b ?_).2
  cases A with
  | none=>simp [Res.foot] at hb
  | some a=>simpa [Res.foot,Value.ownBlock] using hb
theorem Res.ok_of {w w':World} {r:Res} (h:r.ok w) (hb:∀ b,r.foot=some b→w'.heap[b]?=w.heap[b]?):r.ok w':=by
 cases r with
 | blk b o=>exact (hb b rfl).trans h
 | row A cap n t size xs =>
  refine⟨h.1,?_⟩
  rcases h.2 with hn|⟨g,cap',cur,hv,hg,hh,rest⟩
  ·exact .inl hn
  ·refine .inr ⟨g,cap',cur,hv,hg,?_,rest⟩
   injection hv with hA
   rw [hb g (by simp [Res.foot,hA])]
   exact hh
theorem MemOk.nil (w:World) (S:Nat→Prop):MemOk w S [] w:=⟨Fr.refl _ _,by simp,by simp,by simp⟩
theorem MemOk.step {w0 w w':World} {S T:Nat→Prop} {m:Mem} (h:MemOk w0 S m w) (hf:Fr T w w') (hT:∀ b,b<w0.heap.size→T b→S b) (hm:∀ r∈m,∀ b,r.foot=some b→¬ T b):MemOk w0 S m w' :=
 ⟨⟨hf.os.trans h.fr.os,hf.tape.trans h.fr.tape,hf.output.trans h.fr.output,Nat.le_trans h.fr.size hf.size,
   fun k hk hs=>(hf.block k (Nat.lt_of_lt_of_le hk h.fr.size) fun ht=>hs (hT k hk ht)).trans (h.fr.block k hk hs)⟩,
  fun r hr=>Res.ok_of (h.ok r hr) fun b hb=>hf.block b (Res.ok_lt (h.ok r hr) hb) (hm r hr b hb),h.own,h.apart⟩
theorem MemOk.same {w0 w w':World} {S:Nat→Prop} {m:Mem} (h:MemOk w0 S m w) (hf:Fr (fun _=>False) w w'):MemOk w0 S m w':=h.step hf (fun _ _ hh=>hh.elim) (fun _ _ _ _ hh=>hh.elim)
theorem MemOk.cons {w0 w:World} {S:Nat→Prop} {m:Mem} (h:MemOk w0 S m w) {r:Res} (hr:r.ok w) (ho:∀ b,r.foot=some b→w0.heap.size≤b∨S b) (ha:∀ b,r.foot=some b→∀ s∈m,s.foot≠some b):MemOk w0 S (r::m) w :=
 ⟨h.fr,fun s hs=>(List.mem_cons.1 hs).elim (fun e=>e ▸ hr) (h.ok s),
  fun s hs b hb=>(List.mem_cons.1 hs).elim (fun e=>ho b (e ▸ hb)) (fun hs=>h.own s hs b hb),
  List.pairwise_cons.2 ⟨fun s hs b hb=>ha b hb s hs,h.apart⟩⟩
theorem MemOk.tail {w0 w:World} {S:Nat→Prop} {r:Res} {m:Mem} (h:MemOk w0 S (r::m) w):MemOk w0 S m w :=
 ⟨h.fr,fun s hs=>h.ok s (List.mem_cons_of_mem _ hs),fun s hs=>h.own s (List.mem_cons_of_mem _ hs),(List.pairwise_cons.1 h.apart).2⟩
theorem MemOk.perm {w0 w:World} {S:Nat→Prop} {m m':Mem} (h:MemOk w0 S m w) (hp:m.Perm m'):MemOk w0 S m' w :=
 ⟨h.fr,fun s hs=>h.ok s (hp.mem_iff.2 hs),fun s hs=>h.own s (hp.mem_iff.2 hs),by
  refine (hp.pairwise_iff ?_).1 h.apart
  intro r s hrs b hb hr
  exact hrs b hr hb⟩
theorem MemOk.sublist {w0 w:World} {S:Nat→Prop} {m m':Mem} (h:MemOk w0 S m w) (hp:m'.Sublist m):MemOk w0 S m' w :=
 ⟨h.fr,fun s hs=>h.ok s (hp.subset hs),fun s hs=>h.own s (hp.subset hs),h.apart.sublist hp⟩
theorem MemOk.alloc {w0 w:World} {S:Nat→Prop} {m:Mem} (h:MemOk w0 S m w) (o:Obj):MemOk w0 S (.blk w.heap.size o::m) (w.alloc o):=by
 have hf:Fr (fun _=>False) w (w.alloc o):=⟨rfl,rfl,rfl,by simp,fun k hk _=>Below.heap_alloc w o k hk⟩
 refine (h.same hf).cons (heap_alloc_new w o) (fun b hb=>?_) (fun b hb s hs=>?_)
 ·simp [Res.foot] at hb;subst hb;exact .inl h.fr.size
 ·simp [Res.foot] at hb;subst hb
  intro hh
  exact Nat.lt_irrefl _ (Res.ok_lt (h.ok s hs) hh)
theorem MemOk.turn {w0 w w':World} {S:Nat→Prop} {m:Mem} {b:Nat} {o o':Obj} (h:MemOk w0 S (.blk b o::m) w) (hf:Fr (·=b) w w') (ho:w'.heap[b]?=some o'):MemOk w0 S (.blk b o'::m) w':=by
 have ha:=(List.pairwise_cons.1 h.apart).1
 have hb:=h.own _ (List.mem_cons_self ..) b rfl
 refine (h.tail.step hf (fun k hk hT=>?_) (fun r hr k hk hT=>?_)).cons ho (fun k hk=>?_) (fun k hk s hs=>?_)
 ·subst hT;exact hb.elim (fun hb=>absurd hk (by omega)) id
 ·subst hT;exact ha r hr k rfl hk
 ·simp [Res.foot] at hk;subst hk;exact hb
 ·exact ha s hs k hk
theorem MemOk.far {w0 w:World} {S:Nat→Prop} {m:Mem} (h:MemOk w0 S m w) {p:Addr} {v:Value} (hc:w0.cell? p=some v) (hs:¬ S p.block):w.cell? p=some v :=
 (World.cell?_of_block (h.fr.block p.block (World.block_lt_of_cell? w0 p hc) hs)).trans hc
/-! ## types -/
inductive TyK where
 | plain
 | struct (fs:List (Nat × Nat))
 | slice (e:Nat)
 | str
 | int (k:IntKind)
 | bool
 | iface
 | arr (n e:Nat)
def TyK.flat:TyK→Bool
 | .struct _=>false
 | .arr _ _=>false
 | _=>true
structure TyI where
 kind:TyK
 cells:Nat
 bytes:Nat
 zero:List Value
abbrev Tab:=List (Nat × TyI)
def Tab.get:Tab→Nat→Option TyI
 | [],_=>none
 | (k,v)::r,t=>match Nat.beq k t with
  | true=>some v
  | false=>Tab.get r t
def zmc:TypeDesc→Bool
 | .struct _|.array _ _=>true
 | _=>false
def zu5 (P:Program) (flds:Array Field) (fs:List (Nat × Nat)):Prop :=
 flds.toList.mapM (fun f=>(P.info? f.type).map fun i=>(f.offset,i.size))=some fs
theorem ziN {P:Program}:∀ {flds:List Field} {fs:List (Nat × Nat)},flds.mapM (fun f=>(P.info? f.type).map fun i=>(f.offset,i.size))=some fs →
  ∀ (j o s:Nat),fs[j]?=some (o,s)→∃ (f:Field) (i:TypeInfo),flds[j]?=some f∧f.offset=o∧P.info? f.type=some i∧i.size=s
 | [],fs,h,j,o,s,hj=>by simp at h;subst h;simp at hj
 | f::r,fs,h,j,o,s,hj=>by
  simp only [List.mapM_cons,Option.bind_eq_bind,Option.pure_def] at h
  cases hi:P.info? f.type with
  | none=>simp [hi] at h
  | some i =>
   cases hr:r.mapM (fun f=>(P.info? f.type).map fun i=>(f.offset,i.size)) with
   | none=>simp [hi,hr] at h
   | some rs =>
    simp [hi,hr] at h
    subst h
    cases j with
    | zero=>simp at hj;obtain ⟨rfl,rfl⟩:=hj;exact⟨f,i,by simp,rfl,hi,rfl⟩
    | succ j =>
     simp at hj
     obtain ⟨f',i',h1,h2⟩:=ziN hr j o s hj
     exact⟨f',i',by simpa using h1,h2⟩
def TyK.ok (P:Program) (k:TyK) (d:TypeDesc):Prop :=
 match k with
 | .plain=>zmc d=false∧∀ ms,d≠.interface ms
 | .struct fs=>∃ flds,d=.struct flds∧zu5 P flds fs
 | .slice e=>d=.slice e
 | .str=>d=.string
 | .int k=>d=.int k
 | .bool=>d=.bool
 | .iface=>∃ ms,d=.interface ms
 | .arr n e=>d=.array n e
structure TyI.ok (P:Program) (t:Nat) (i:TyI):Prop where
 info:∃ inf,P.info? t=some inf∧inf.size=i.cells∧inf.bytes=i.bytes∧(inf.zero).map Value.cells=some i.zero.toArray
 desc:∃ d,P.underlying t=some d∧i.kind.ok P d
def TabOk (P:Program) (tab:Tab):Prop:=∀ t i,tab.get t=some i→i.ok P t
theorem TabOk.nil (P:Program):TabOk P []:=fun _ _ h=>by cases h
theorem TabOk.cons {P:Program} {tab:Tab} {t:Nat} {i:TyI} (h:i.ok P t) (hr:TabOk P tab):TabOk P ((t,i)::tab):=by
 intro u j hj
 by_cases hk:t=u
 ·subst hk
  have:Tab.get ((t,i)::tab) t=some i:=by simp [Tab.get]
  rw [this] at hj
  cases hj
  exact h
 ·have hb:Nat.beq t u=false:=by
   cases hb:Nat.beq t u with
   | false=>rfl
   | true=>exact absurd (Nat.eq_of_beq_eq_true hb) hk
  have:Tab.get ((t,i)::tab) u=Tab.get tab u:=by
   show (match Nat.beq t u with|true=>some i|false=>Tab.get tab u)=_
   rw [hb]
  rw [this] at hj
  exact hr u j hj
/-! ## values -/
def kix:IntKind→Nat
 | .i8=>0|.i16=>1|.i32=>2|.i64=>3|.u8=>4|.u16=>5|.u32=>6|.u64=>7
theorem zwW {a b:IntKind} (h:Nat.beq (kix a) (kix b)=true):a=b:=by
 cases a<;>cases b<;>first|rfl|(exact absurd h (by decide))
def Fits (k:IntKind) (n:Int):Prop:=k.wrap n=n
theorem zaB {n:Int} (h:-9223372036854775808≤n∧n≤9223372036854775807):Fits .i64 n:=IntWalk.i64_in n h
theorem zbr {n:Int} (h:0≤n∧n≤18446744073709551615):Fits .u64 n:=IntWalk.u64_in n h
theorem zw6 {n:Int} (h:0≤n∧n≤255):Fits .u8 n:=IntWalk.u8_in n h
def ar (wr:Bool) (k:IntKind) (n:Int):Value × Option Prop :=
 match wr with
 | true=>(.int k (k.wrap n),none)
 | false=>(.int k n,some (Fits k n))
def ze2 (s:ByteArray) (i:Nat):Int:=((s.data.toList.getD i 0).toNat:Int)
def binI (wr:Bool) (op:BinOp) (k:IntKind) (a b:Int):Option (Value × Option Prop) :=
 match op with
 | .add=>some (ar wr k (a+b))
 | .sub=>some (ar wr k (a-b))
 | .mul=>some (ar wr k (a*b))
 | .quo=>some (.int k (k.wrap (a.tdiv b)),some (b≠0))
 | .rem=>some (.int k (a.tmod b),some (b≠0))
 | .lss=>some (.bool (decide (a<b)),none)
 | .leq=>some (.bool (decide (a≤b)),none)
 | .gtr=>some (.bool (decide (b<a)),none)
 | .geq=>some (.bool (decide (b≤a)),none)
 | .eql=>some (.bool (decide (a=b)),none)
 | .neq=>some (.bool (!decide (a=b)),none)
 | .and=>some (.int k (bits .and k a b),none)
 | .or=>some (.int k (bits .or k a b),none)
 | .xor=>some (.int k (bits .xor k a b),none)
 | .andNot=>some (.int k (bits .andNot k a b),none)
 | _=>none
def binS (op:BinOp) (a b:ByteArray):Option (Value × Option Prop) :=
 match op with
 | .add=>some (.string (a++b),some (a.size+b.size≤9223372036854775807))
 | .eql=>some (.bool (decide (a=b)),none)
 | .neq=>some (.bool (!decide (a=b)),none)
 | .lss=>some (.bool (Op.bytesLess a.data.toList b.data.toList),none)
 | _=>none
def binB (op:BinOp) (a b:Bool):Option (Value × Option Prop) :=
 match op with
 | .eql=>some (.bool (a == b),none)
 | .neq=>some (.bool (!(a == b)),none)
 | _=>none
def zvA (op:BinOp) (k:IntKind) (a b:Int):Option (Value × Option Prop) :=
 match op with
 | .shl=>some (.int k (k.wrap (a*2 ^ b.toNat)),some (0≤b∧b≤k.bits))
 | .shr=>some (.int k (a/2 ^ b.toNat),some (0≤b∧b≤k.bits))
 | _=>none
def zr2:BinOp→Bool
 | .shl|.shr=>true
 | _=>false
def bin (wr:Bool) (op:BinOp) (x y:Value):Option (Value × Option Prop) :=
 match x,y with
 | .int k a,.int k' b=>match zr2 op with
  | true=>zvA op k a b
  | false=>match Nat.beq (kix k) (kix k') with
   | true=>binI wr op k a b
   | false=>none
 | .string a,.string b=>binS op a b
 | .bool a,.bool b=>binB op a b
 | _,_=>none
def pl (A:Option Addr) (n:Nat):Option Addr:=A.map fun a=>⟨a.block,a.off+n,none⟩
def Pl (A:Option Addr):Prop:=∃ b o,A=some ⟨b,o,none⟩
theorem Pl.mk (b o:Nat):Pl (some ⟨b,o,none⟩):=⟨b,o,rfl⟩
def mulC (n:Nat):Nat→Nat
 | 1=>n
 | c=>n*c
theorem zcp (n c:Nat):mulC n c=n*c:=by
 unfold mulC
 split
 ·simp
 ·rfl
def cutA (A:Option Addr) (m l size:Nat):Option Addr:=if m=l then A else pl A (mulC l size)
def nth {α:Type}:List α→Nat→Option α
 | [],_=>none
 | x::_,0=>some x
 | _::r,n+1=>nth r n
theorem zco {α:Type}:∀ (l:List α) (n:Nat),nth l n=l[n]?
 | [],n=>by simp [nth]
 | x::r,0=>by simp [nth]
 | x::r,n+1=>by simp [nth,zco r n]
/-! ## one operation -/
structure Cx where
 P:Program
 n:Nat
 w0:World
 S:Nat→Prop
 tab:Tab
 wr:List Nat
 pf:List Nat
 st:List Nat
 df:List Deferred
def zow:List Nat→Nat→Bool
 | [],_=>false
 | k::r,t=>match Nat.beq k t with
  | true=>true
  | false=>zow r t
def Cx.wraps (cx:Cx):Option Nat→Bool
 | none=>false
 | some d=>zow cx.wr d
def Env.evs (e:Env):List Operand→Option (List Value)
 | []=>some []
 | x::r=>match e.ev x with
  | some v=>match Env.evs e r with
   | some vs=>some (v::vs)
   | none=>none
  | none=>none
def zaS:Value→List Value
 | .agg cs=>cs.toList
 | v=>[v]
def zbp (off:Nat):List Value→List Value→List Value
 | [],l=>l
 | v::r,l=>zbp (off+1) r (l.set off v)
def zhs (place:Nat→Option (Nat × Nat)) (cells:List Value):List (Nat × Value)→Option (List Value)
 | []=>some cells
 | (i,v)::rest=>match place i with
  | none=>none
  | some (off,size)=>match Nat.beq (zaS v).length size with
   | false=>none
   | true=>match Nat.ble (off+(zaS v).length) cells.length with
    | false=>none
    | true=>zhs place (zbp off (zaS v) cells) rest
def zst (place:Nat→Option (Nat × Nat)) (n:Nat) (cells:List Value):List (Nat × Value)→Option (List Value)
 | []=>some cells
 | (i,v)::rest=>match place i with
  | none=>none
  | some (off,size)=>match Nat.beq (zaS v).length size with
   | false=>none
   | true=>match Nat.ble (off+(zaS v).length) n with
    | false=>none
    | true=>zst place n (zbp off (zaS v) cells) rest
theorem zlA:∀ (vs:List Value) (off:Nat) (l:List Value),(zbp off vs l).length=l.length
 | [],_,_=>rfl
 | v::r,off,l=>by rw [zbp,zlA r];simp
theorem zkY (place:Nat→Option (Nat × Nat)):∀ (ps:List (Nat × Value)) (n:Nat) (cells:List Value),n=cells.length→zst place n cells ps=zhs place cells ps
 | [],_,_,_=>rfl
 | (i,v)::rest,n,cells,h=>by
  subst h
  have ih:=fun off=>zkY place rest cells.length (zbp off (zaS v) cells) (zlA _ _ _).symm
  simp only [zst,zhs,ih]
def zdJ (e:Env):List (Nat × Operand)→Option (List (Nat × Value))
 | []=>some []
 | (i,x)::r=>match e.ev x with
  | some v=>match zdJ e r with
   | some vs=>some ((i,v)::vs)
   | none=>none
  | none=>none
def NA (cx:Cx) (t:Nat) (v:Value) (name:String):Prop:=∀ W:World,(nilAhead (cx.P.types.size+Made.depth) t v name).run cx.P W=.ok (some false) W
def zkD (e:Env):Option Operand→Option (Option Value)
 | none=>some none
 | some x=>match e.ev x with
  | some v=>some (some v)
  | none=>none
def zdZ (d:Int):Option Value→Option Int
 | none=>some d
 | some (.int _ i)=>some i
 | some _=>none
def popV (cx:Cx) (dst:Option Nat) (op:Op) (e:Env):Option (Value × Option Prop) :=
 match op with
 | .move x|.assign x=>match e.ev x with
  | some v=>some (v,none)
  | none=>none
 | .pick c x y=>match e.ev c with
  | some (.bool t)=>match e.ev x,e.ev y with
   | some (.bool p),some (.bool q)=>some (.bool (cond t p q),none)
   | some (.bool p),_=>some (.bool p,some (t=true))
   | _,some (.bool q)=>some (.bool q,some (t=false))
   | _,_=>none
  | _=>none
 | .binOp op t x y _=>match e.ev x,e.ev y with
  | some u,some v=>match u with
   | .bool _=>match cx.tab.get t with
    | some ⟨.bool,_,_,_⟩=>bin (cx.wraps dst) op u v
    | _=>none
   | _=>bin (cx.wraps dst) op u v
  | _,_=>none
 | .unOp op _ x=>match op,e.ev x with
  | .not,some (.bool b)=>some (.bool (!b),none)
  | .neg,some (.int k n)=>some (ar (cx.wraps dst) k (0-n))
  | _,_=>none
 | .extract x i=>match e.ev x with
  | some (.tuple vs)=>match nth vs.toList i with
   | some v=>some (v,none)
   | none=>none
  | _=>none
 | .fieldAddr s x f=>match cx.tab.get s with
  | some ⟨.struct fs,_,_,_⟩=>match nth fs f,e.ev x with
   | some (o,.succ _),some (.pointer A)=>some (.pointer (pl A o),some (Pl A))
   | _,_=>none
  | _=>none
 | .indexAddr t x i=>match cx.tab.get t with
  | some ⟨.slice el,_,_,_⟩=>match cx.tab.get el,e.ev x,e.ev i with
   | some ti,some (.slice A n _),some (.int _ j)=>some (.pointer (pl A (mulC j.toNat ti.cells)),some (0≤j∧j<n∧Pl A))
   | _,_,_=>none
  | some ⟨.arr n el,_,_,_⟩=>match cx.tab.get el,e.ev x,e.ev i with
   | some ti,some (.pointer A),some (.int _ j)=>some (.pointer (pl A (mulC j.toNat ti.cells)),some (0≤j∧j<n∧Pl A))
   | _,_,_=>none
  | _=>none
 | .index t x i=>match cx.tab.get t with
  | some ⟨.str,_,_,_⟩=>match e.ev x,e.ev i with
   | some (.string s),some (.int _ j)=>some (.int .u8 (ze2 s j.toNat),some (0≤j∧j<s.size))
   | _,_=>none
  | _=>none
 | .slice t x lo hi none=>match cx.tab.get t with
  | some ⟨.str,_,_,_⟩=>match e.ev x,zkD e lo,zkD e hi with
   | some (.string s),some lo,some hi=>match zdZ 0 lo,zdZ s.size hi with
    | some l,some h=>some (.string (s.extract l.toNat h.toNat),some (0≤l∧l≤h∧h≤s.size))
    | _,_=>none
   | _,_,_=>none
  | some ⟨.slice el,_,_,_⟩=>match cx.tab.get el,e.ev x,zkD e lo,zkD e hi with
   | some ti,some (.slice A n c),some lo,some hi=>match zdZ 0 lo,zdZ n hi with
    | some l,some h=>some (.slice (cutA A c l.toNat ti.cells) (h.toNat-l.toNat) (c-l.toNat),some (0≤l∧l≤h∧h≤c∧(A=none∨Pl A)))
    | _,_=>none
   | _,_,_,_=>none
  | some ⟨.arr n el,_,_,_⟩=>match cx.tab.get el,e.ev x,zkD e lo,zkD e hi with
   | some ti,some (.pointer A),some lo,some hi=>match zdZ 0 lo,zdZ n hi with
    | some l,some h=>some (.slice (cutA A n l.toNat ti.cells) (h.toNat-l.toNat) (n-l.toNat),some (0≤l∧l≤h∧h≤n∧Pl A))
    | _,_=>none
   | _,_,_,_=>none
  | _=>none
 | .makeInterface t x=>match cx.tab.get t with
  | none=>none
  | some ⟨.iface,_,_,_⟩=>none
  | some _=>match e.ev x with
   | some v=>some (.iface t v,none)
   | none=>none
 | .makeFunc fn first cap=>match Env.evs e first.toList,Env.evs e cap.toList with
  | some f,some c=>some (.func fn f.toArray c.toArray,none)
  | _,_=>none
 | .nilCheck x=>match e.ev x with
  | some (.pointer A)=>some (.pointer A,some (A.isSome=true))
  | some (.iface t v)=>some (.iface t v,none)
  | some (.func (.func g) f c)=>some (.func (.func g) f c,none)
  | some (.func (.method name) f c)=>match f.toList with
   | [.iface t v]=>some (.func (.method name) #[.iface t v] c,some (NA cx t v name))
   | _=>none
  | _=>none
 | .convert s d x=>match cx.tab.get s with
  | none=>none
  | some _=>match cx.tab.get d with
   | some ⟨.int k,_,_,_⟩=>match e.ev x with
    | some (.int _ n)=>some (ar (cx.wraps dst) k n)
    | _=>none
   | _=>none
 | .call c=>match c.callee with
  | .builtin .len=>match c.args.toList,c.argTypes.toList with
   | [x],[t]=>match cx.tab.get t with
    | some ⟨.str,_,_,_⟩=>match e.ev x with
     | some (.string s)=>some (.int .i64 s.size,none)
     | _=>none
    | some ⟨.slice _,_,_,_⟩=>match e.ev x with
     | some (.slice _ n _)=>some (.int .i64 n,none)
     | _=>none
    | _=>none
   | _,_=>none
  | _=>none
 | .build t parts=>match cx.tab.get t with
  | some ⟨.struct fs,_,_,z⟩=>match zdJ e parts.toList with
   | some ps=>match zst (nth fs) z.length z ps with
    | some cs=>some (.agg cs.toArray,none)
    | none=>none
   | none=>none
  | some ⟨.arr _ el,_,_,z⟩=>match cx.tab.get el,zdJ e parts.toList with
   | some ti,some ps=>match zst (fun i=>some (mulC i ti.cells,ti.cells)) z.length z ps with
    | some cs=>some (.agg cs.toArray,none)
    | none=>none
   | _,_=>none
  | _=>none
 | _=>none
def Rn (cx:Cx) (m:Mem) (s:Sem Value) (K:Value→Mem→Prop):Prop :=
 ∀ w,MemOk cx.w0 cx.S m w→∃ v w' m',s.run cx.P w=.ok v w'∧MemOk cx.w0 cx.S m' w'∧K v m'
def RnU (cx:Cx) (m:Mem) (s:Sem Unit) (K:Mem→Prop):Prop :=
 ∀ w,MemOk cx.w0 cx.S m w→∃ w' m',s.run cx.P w=.ok () w'∧MemOk cx.w0 cx.S m' w'∧K m'
def Cl (cx:Cx) (m:Mem) (g:Nat) (args:List Value) (K:Value→Mem→Prop) (KP:List PanicEntry→Mem→Prop):Prop :=
 ∀ w,MemOk cx.w0 cx.S m w→Calls cx.P g args.toArray w fun e w'=>match e with
  | .returned v=>∃ m',MemOk cx.w0 cx.S m' w'∧K v m'
  | .panicked ch=>∃ m',MemOk cx.w0 cx.S m' w'∧KP ch m'
  | .outgrown=>False
def Md (cx:Cx) (t:Nat) (v:Value) (name:String) (g:Nat) (rv:Value):Prop :=
 ∀ W:World,(method (cx.P.types.size+Made.depth) t v name).run cx.P W=.ok (g,rv) W
def Enters (P:Program) (g:Nat):Prop:=∀ (args:Array Value) (w:World),(callFunc g args).run P w=.ok (.enter g args) w
def zdK (op:BinOp) (t:TypeId) (ox oy:Operand) (x y:Value):Sem Value:=do eqGuard op t ox oy x y;binOp op t x y
def zkB:Value→Value→Bool
 | .int _ _,.int _ _=>true
 | .string _,.string _=>true
 | .bool _,.bool _=>true
 | _,_=>false
def zcI (cx:Cx) (dst:Option Nat) (op:Op) (e:Env) (K:Value→Prop):Prop :=
 match popV cx dst op e with
 | some (v,none)=>K v
 | some (v,some p)=>p∧K v
 | none=>False
def XO (cx:Cx) (dst:Option Nat) (op:Op) (ty:Nat) (e:Env) (m:Mem) (K:Value→Mem→Prop) (KP:List PanicEntry→Mem→Prop):Prop :=
 match op with
 | .load t a=>match e.ev a with
  | some x=>Rn cx m (Instr.loadAt t x) K
  | none=>False
 | .store t a x=>match e.ev a,e.ev x with
  | some p,some v=>RnU cx m (Instr.storeAt t p v) (K undef)
  | _,_=>False
 | .alloc t=>match cx.tab.get t with
  | some i=>∀ b,K (.pointer (some ⟨b,0,none⟩)) (.blk b (.cells i.zero.toArray t)::m)
  | none=>False
 | .box t x=>match e.ev x with
  | some v=>∀ b,K (.pointer (some ⟨b,0,none⟩)) (.blk b (.cells (zaS v).toArray t)::m)
  | none=>False
 | .buildSlice t n parts=>match cx.tab.get t with
  | some ⟨.slice el,_,_,_⟩=>match cx.tab.get el,zdJ e parts.toList with
   | some ti,some ps=>match Nat.ble n 9 with
    | false=>∃ cs,(zhs (fun i=>some (i*ti.cells,ti.cells)) ((List.range (n*ti.cells)).map fun i=>ti.zero.getD (i%ti.cells) undef) ps=some cs∧Nat.ble (n*ti.cells) 16777216=true∧Nat.beq ti.zero.length ti.cells=true)∧∀ b,K (.slice (some ⟨b,0,none⟩) n n) (.blk b (.cells cs.toArray el)::m)
    | true=>match zhs (fun i=>some (i*ti.cells,ti.cells)) ((List.range (n*ti.cells)).map fun i=>ti.zero.getD (i%ti.cells) undef) ps,Nat.ble (n*ti.cells) 16777216,Nat.beq ti.zero.length ti.cells with
     | some cs,true,true=>∀ b,K (.slice (some ⟨b,0,none⟩) n n) (.blk b (.cells cs.toArray el)::m)
     | _,_,_=>False
   | _,_=>False
  | _=>False
 | .binOp op t x y ty=>match e.ev x,e.ev y with
  | some u,some v=>match zkB u v with
   | true=>zcI cx dst (.binOp op t x y ty) e (fun v=>K v m)
   | false=>Rn cx m (zdK op t x y u v) K
  | _,_=>False
 | .makeSlice t l c=>match e.ev l,e.ev c with
  | some x,some y=>Rn cx m (Instr.makeSlice t x y) K
  | _,_=>False
 | .convert s d x=>match cx.tab.get d with
  | some ⟨.int _,_,_,_⟩=>zcI cx dst op e (fun v=>K v m)
  | _=>match e.ev x with
   | some v=>Rn cx m (convert s d v) K
   | none=>False
 | .typeAssert x s t ok=>match e.ev x with
  | some v=>Rn cx m (Instr.typeAssert v s t ok) K
  | none=>False
 | .panic x=>match e.ev x with
  | some (.iface t v)=>KP [{ v:=.iface t v,recovered:=false }] m
  | _=>False
 | .index t x i=>match cx.tab.get t with
  | some ⟨.arr n el,_,_,_⟩=>match cx.tab.get el with
   | some ti=>match ti.kind.flat,Nat.beq ti.cells 1,e.ev x,e.ev i with
    | true,true,some (.agg cs),some (.int _ j)=>(0≤j∧j<n)∧∃ v,nth cs.toList j.toNat=some v∧K v m
    | _,_,_,_=>False
   | none=>False
  | _=>zcI cx dst op e (fun v=>K v m)
 | .lookup t x i ok=>match e.ev x,e.ev i with
  | some u,some v=>Rn cx m (Instr.lookup t u v ok) K
  | _,_=>False
 | .mapUpdate t x i y=>match e.ev x,e.ev i,e.ev y with
  | some u,some v,some z=>RnU cx m (Instr.mapUpdate t u v z) (K undef)
  | _,_,_=>False
 | .insert t x i y=>match e.ev x,e.ev i,e.ev y with
  | some u,some v,some z=>RnU cx m (Instr.mapUpdate t u v z) (K undef)
  | _,_,_=>False
 | .mapEntry t x i=>match e.ev x,e.ev i with
  | some u,some v=>Rn cx m (Instr.mapEntry t u v) K
  | _,_=>False
 | .entryStore t x s y=>match e.ev x,e.ev s,e.ev y with
  | some u,some v,some z=>RnU cx m (Instr.entryStore t u v z) (K undef)
  | _,_,_=>False
 | .makeMap t none=>∀ b,K (.map (some b)) (.blk b (.map #[] 0)::m)
 | .range t x=>match e.ev x with
  | some u=>Rn cx m (Instr.range t u) K
  | none=>False
 | .next x s=>match e.ev x with
  | some u=>Rn cx m (Instr.next u s ty) K
  | none=>False
 | .entry x=>match e.ev x with
  | some u=>Rn cx m (Instr.entry u) K
  | none=>False
 | .call c=>match c.callee with
  | .builtin .copy=>match Env.evs e c.args.toList with
   | some [x,y]=>Rn cx m (Builtin.copy_ c.argTypes ty #[x,y]) K
   | _=>False
  | .builtin .len=>match Env.evs e c.args.toList with
   | some [.map (some b)]=>Rn cx m (Builtin.len_ c.argTypes ty #[.map (some b)]) K
   | _=>zcI cx dst op e (fun v=>K v m)
  | .builtin .min=>match Env.evs e c.args.toList with
   | some [.int k a,.int _ b]=>K (.int k (if b<a then b else a)) m
   | _=>False
  | .builtin .max=>match Env.evs e c.args.toList with
   | some [.int k a,.int _ b]=>K (.int k (if b > a then b else a)) m
   | _=>False
  | .builtin .append=>match Env.evs e c.args.toList with
   | some [x,y]=>Rn cx m (Builtin.append_ c.argTypes ty #[x,y]) K
   | _=>False
  | .builtin .clear=>match Env.evs e c.args.toList with
   | some [x]=>Rn cx m (Builtin.clear_ c.argTypes ty #[x]) K
   | _=>False
  | .builtin _=>zcI cx dst op e (fun v=>K v m)
  | .value f=>match e.ev f,Env.evs e c.args.toList with
   | some (.func (.func g) f c),some as=>Enters cx.P g∧Cl cx m g (f.toList++as++c.toList) K KP
   | _,_=>False
  | .invoke r name=>match e.ev r,Env.evs e c.args.toList with
   | some (.iface t v),some as=>∃ g rv,Md cx t v name g rv∧Enters cx.P g∧Cl cx m g (rv::as) K KP
   | _,_=>False
 | _=>zcI cx dst op e (fun v=>K v m)
/-! ## it is sound: values -/
section sound
variable {P:Program} {w:World}
theorem zf8 {s:Sem Value} {v:Value} {w':World} (h:s.run P w=.ok v w'):(do pure (Next.value (← s)):Sem Next).run P w=.ok (.value v) w':=by
 simp [h]
theorem zvz (a b:ByteArray):(a.toList == b.toList)=decide (a=b):=by
 rw [ByteArray.toList_eq,ByteArray.toList_eq]
 rw [Bool.eq_iff_iff]
 simp only [beq_iff_eq,decide_eq_true_eq]
 constructor
 ·intro h
  exact ByteArray.ext (Array.toList_inj.1 h)
 ·rintro rfl;rfl
theorem znp (a b:Int):(a == b)=decide (a=b):=by rw [Bool.eq_iff_iff];simp
theorem zer (d:Nat) {t:TypeId} (a b:Bool) (h:P.underlying t=some .bool):(Op.equalIn (d+1) t (.bool a) (.bool b)).run P w=.ok (a == b) w:=by
 simp [Op.equalIn,run_underlying h]
theorem zlN {t:TypeId} (a b:Bool) (h:P.underlying t=some .bool):(binOp .eql t (.bool a) (.bool b)).run P w=.ok (.bool (a == b)) w:=by
 simp only [binOp]
 simp [Op.equal,Op.maxDepth,zer 9999 a b h]
theorem zlH {t:TypeId} (a b:Bool) (h:P.underlying t=some .bool):(binOp .neq t (.bool a) (.bool b)).run P w=.ok (.bool (!(a == b))) w:=by
 simp only [binOp]
 simp [Op.equal,Op.maxDepth,zer 9999 a b h]
theorem zsU {wr:Bool} {k:IntKind} {n:Int} {v:Value} {ob:Option Prop} (h:ar wr k n=(v,ob)) (hob:∀ p,ob=some p→p):Value.int k (k.wrap n)=v:=by
 cases wr with
 | true=>simp [ar] at h;exact h.1
 | false =>
  simp [ar] at h
  obtain ⟨rfl,rfl⟩:=h
  have hp:k.wrap n=n:=hob _ rfl
  rw [hp]
theorem zxm {wr:Bool} {op:BinOp} {t:TypeId} {ox oy:Operand} {k:IntKind} {a b:Int} {v:Value} {ob:Option Prop} (h:binI wr op k a b=some (v,ob)) (hob:∀ p,ob=some p→p) :
  (do eqGuard op t ox oy (.int k a) (.int k b);binOp op t (.int k a) (.int k b):Sem Value).run P w=.ok v w:=by
 cases op<;>simp only [binI,Option.some.injEq,Prod.mk.injEq,reduceCtorEq] at h
 case add=>have e:=zsU h hob;simp [eqGuard_add,binOp_add,Op.intArith,e]
 case sub=>have e:=zsU h hob;simp [eqGuard_sub,binOp_sub,Op.intArith,e]
 case mul=>have e:=zsU h hob;simp [eqGuard_mul,binOp_mul,Op.intArith,e]
 case quo=>obtain ⟨rfl,rfl⟩:=h;have hp:b≠0:=hob _ rfl;simp [eqGuard_quo,binOp_quo,Op.intDiv,hp]
 case rem=>obtain ⟨rfl,rfl⟩:=h;have hp:b≠0:=hob _ rfl;simp [eqGuard_rem,binOp_rem,Op.intDiv,hp]
 case lss=>obtain ⟨rfl,rfl⟩:=h;simp [eqGuard_lss,binOp_lss]
 case leq=>obtain ⟨rfl,rfl⟩:=h;simp [eqGuard_leq,binOp_leq]
 case gtr=>obtain ⟨rfl,rfl⟩:=h;simp [eqGuard_gtr,binOp_gtr]
 case geq=>obtain ⟨rfl,rfl⟩:=h;simp [eqGuard_geq,binOp_geq]
 case eql=>obtain ⟨rfl,rfl⟩:=h;simp [eqGuard_at_int,binOp_eql,znp]
 case neq=>obtain ⟨rfl,rfl⟩:=h;simp [eqGuard_at_int,binOp_neq,bne,znp]
 case and=>obtain ⟨rfl,rfl⟩:=h;simp [eqGuard_and,binOp_and,intBits_and]
 case or=>obtain ⟨rfl,rfl⟩:=h;simp [eqGuard_or,binOp_or,intBits_or]
 case xor=>obtain ⟨rfl,rfl⟩:=h;simp [eqGuard_xor,binOp_xor,intBits_xor]
 case andNot=>obtain ⟨rfl,rfl⟩:=h;simp [eqGuard_andNot,binOp_andNot,intBits_andNot]
theorem zyl {wr:Bool} {op:BinOp} {t:TypeId} {ox oy:Operand} {x y v:Value} {ob:Option Prop} (h:bin wr op x y=some (v,ob)) (hob:∀ p,ob=some p→p) (hb:∀ b,x=.bool b→P.underlying t=some .bool) :
  (do eqGuard op t ox oy x y;binOp op t x y:Sem Value).run P w=.ok v w:=by
 unfold bin at h
 split at h
 ·rename_i k a k' b
  split at h
  ·-- shifts
   rename_i hs
   cases op<;>simp [zr2] at hs<;>simp [zvA] at h<;>obtain ⟨rfl,rfl⟩:=h<;>have hp:=hob _ rfl <;>
    simp [eqGuard_shl,eqGuard_shr,binOp_shl,binOp_shr,shift_shl _ _ _ _ hp.1 hp.2,shift_shr _ _ _ _ hp.1 hp.2]
  ·split at h
   ·rename_i hk
    have hkk:=zwW hk
    subst hkk
    exact zxm h hob
   ·cases h
 ·rename_i a b
  cases op<;>simp only [binS,Option.some.injEq,Prod.mk.injEq,reduceCtorEq] at h<;>obtain ⟨rfl,rfl⟩:=h
  case add =>
   have hp:=hob _ rfl
   have hn:¬ ((a.size+b.size:Nat):Int) > IntKind.i64.max:=by rw [IntKind.max_i64];omega
   rw [eqGuard_at_string,binOp_string_add]
   simp only [Op.stringOp]
   rw [if_neg hn]
   simp
  case eql=>simp only [eqGuard_at_string,binOp_string_eql,zvz];simp
  case neq=>simp only [eqGuard_at_string,binOp_string_neq,zvz];simp
  case lss=>simp only [eqGuard_at_string,binOp_string_lss,ByteArray.toList_eq];simp
 ·rename_i a b
  have hbb:=hb _ rfl
  cases op<;>simp only [binB,Option.some.injEq,Prod.mk.injEq,reduceCtorEq] at h<;>obtain ⟨rfl,rfl⟩:=h
  ·simp only [eqGuard_at_bool];exact zlN a b hbb
  ·simp only [eqGuard_at_bool];exact zlH a b hbb
 ·cases h
end sound
section sound2
variable {cx:Cx} {n:Nat} {D:List Deferred} {e:Env} {a:Act} {w:World}
theorem zvM (he:EnvOk n D e a):∀ {l:List Operand} {vs:List Value},Env.evs e l=some vs→l.map a.eval=vs
 | [],vs,h=>by simp [Env.evs] at h;simp [h]
 | x::r,vs,h=>by
  simp only [Env.evs] at h
  split at h
  ·rename_i v hv
   split at h
   ·rename_i us hu
    simp at h
    subst h
    simp [he.ev hv,zvM he hu]
   ·cases h
  ·cases h
theorem zb0 (he:EnvOk n D e a) {l:Array Operand} {vs:List Value} (h:Env.evs e l.toList=some vs):l.map a.eval=vs.toArray:=by
 have:=zvM he h
 apply Array.toList_inj.1
 simpa using this
theorem zfk (he:EnvOk n D e a):∀ {l:List (Nat × Operand)} {vs:List (Nat × Value)},zdJ e l=some vs→l.map (fun (i,x)=>(i,a.eval x))=vs
 | [],vs,h=>by simp [zdJ] at h;simp [h]
 | (i,x)::r,vs,h=>by
  simp only [zdJ] at h
  split at h
  ·rename_i v hv
   split at h
   ·rename_i us hu
    simp at h
    subst h
    simp [he.ev hv,zfk he hu]
   ·cases h
  ·cases h
theorem zfb (he:EnvOk n D e a) {x:Option Operand} {v:Option Value} (h:zkD e x=some v):x.map a.eval=v:=by
 cases x with
 | none=>simp [zkD] at h;simp [← h]
 | some x =>
  simp only [zkD] at h
  split at h
  ·rename_i u hu
   simp at h
   subst h
   simp [he.ev hu]
  ·cases h
theorem zd5 (v:Value):v.cells.toList=zaS v:=by cases v<;>rfl
theorem zn8:∀ (vs:List Value) (off:Nat) (l:List Value) (j:Nat),((vs.zipIdx j).foldl (fun (cs:Array Value) (x:Value × Nat)=>cs.setIfInBounds (off+x.2) x.1) l.toArray)=(zbp (off+j) vs l).toArray
 | [],off,l,j=>by simp [zbp]
 | v::r,off,l,j=>by
  simp only [List.zipIdx_cons,List.foldl_cons,zbp,List.setIfInBounds_toArray]
  rw [zn8 r off _ (j+1)]
  rfl
theorem zhJ (place:Nat→Option (Nat × Nat)):∀ (ps:List (Nat × Value)) (cells out:List Value),zhs place cells ps=some out→Instr.fill place cells.toArray ps=some out.toArray
 | [],cells,out,h=>by simp [zhs] at h;simp [Instr.fill,h]
 | (i,v)::rest,cells,out,h=>by
  simp only [zhs] at h
  simp only [Instr.fill]
  split at h
  ·cases h
  ·rename_i off size hp
   rw [hp]
   split at h
   ·cases h
   ·rename_i hb
    split at h
    ·cases h
    ·rename_i hb2
     have h1:v.cells.size=size:=by
      have:=Nat.eq_of_beq_eq_true hb
      rw [← zd5] at this
      simpa using this
     have h2:off+v.cells.size≤cells.length:=by
      have:=Nat.le_of_ble_eq_true hb2
      rw [← zd5] at this
      simpa using this
     simp only
     rw [if_neg (by simp [h1];rw [← h1];omega)]
     have h3:=zn8 (zaS v) off cells 0
     have h4:v.cells.zipIdx.foldl (fun cs (x:Value × Nat)=>cs.setIfInBounds (off+x.2) x.1) cells.toArray=(zbp off (zaS v) cells).toArray:=by
      rw [← Array.foldl_toList,Array.toList_zipIdx,zd5]
      simpa using h3
     rw [h4]
     exact zhJ place rest _ _ h
end sound2
section sound3
variable {cx:Cx} {e:Env} {a:Act} {w:World}
theorem zcK {P:Program} {t:TypeId} {i:TypeInfo} (h:P.info? t=some i) (w:World):(typeInfo t).run P w=.ok i w:=by
 simp [typeInfo,h]
theorem za3 {P:Program} {t:Nat} {i:TyI} (h:i.ok P t) (w:World):(sizeOf t).run P w=.ok i.cells w:=by
 obtain ⟨inf,h1,h2,_⟩:=h.info
 simp [sizeOf,zcK h1,h2]
theorem zlE {P:Program} {t:Nat} {i:TyI} (h:i.ok P t) (w:World):∃ z,(zeroValue t).run P w=.ok z w∧z.cells=i.zero.toArray:=by
 obtain ⟨inf,h1,_,_,h4⟩:=h.info
 cases hz:inf.zero with
 | none=>rw [hz] at h4;cases h4
 | some z =>
  rw [hz] at h4
  simp at h4
  exact⟨z,by simp [zeroValue,zcK h1,hz],h4⟩
theorem zlM {P:Program} {s:Nat} {i:TyI} {fs:List (Nat × Nat)} (h:i.ok P s) (hk:i.kind=.struct fs) {f o z:Nat} (hf:nth fs f=some (o,z+1)) {A:Option Addr} (hA:Pl A) (w:World) :
  (Instr.fieldAt s (.pointer A) f).run P w=.ok (.pointer (pl A o)) w:=by
 obtain ⟨d,hd,hkd⟩:=h.desc
 rw [hk] at hkd
 obtain ⟨flds,rfl,hfl⟩:=hkd
 rw [zco] at hf
 obtain ⟨fl,ti,h1,h2,h3,h4⟩:=ziN hfl f o _ hf
 have h1:flds[f]?=some fl:=by simpa using h1
 obtain ⟨b,o',rfl⟩:=hA
 have hsz:(sizeOf fl.type).run P w=.ok (z+1) w:=by simp [sizeOf,zcK h3,h4]
 simp [Instr.fieldAt,run_underlying hd,h1,Instr.sureAddr,fieldPlace,hsz,h2,pl,Addr.add_lit]
theorem zlJ {P:Program} {t el:Nat} {i ti:TyI} (h:i.ok P t) (hk:i.kind=.slice el) (hti:ti.ok P el) {A:Option Addr} {n c:Nat} {k:IntKind} {j:Int} (hj:0≤j∧j<n∧Pl A) (w:World) :
  (Instr.indexAt t (.slice A n c) (.int k j)).run P w=.ok (.pointer (pl A (j.toNat*ti.cells))) w:=by
 obtain ⟨d,hd,hkd⟩:=h.desc
 rw [hk] at hkd
 have hkd:d=.slice el:=hkd
 subst hkd
 obtain ⟨h0,h1,b,o,rfl⟩:=hj
 simp [Instr.indexAt,asIntOf,run_underlying hd,h0,h1,za3 hti,pl,Addr.add_lit]
theorem zp0 {P:Program} {t:Nat} {i:TyI} (h:i.ok P t) (hk:i.kind.flat=true) (w:World):(isAgg t).run P w=.ok false w:=by
 obtain ⟨d,hd,hkd⟩:=h.desc
 have hagg:zmc d=false:=by
  cases hi:i.kind<;>rw [hi] at hkd hk<;>simp [TyK.ok,TyK.flat] at hkd hk
  ·exact hkd.1
  ·subst hkd;rfl
  ·subst hkd;rfl
  ·subst hkd;rfl
  ·subst hkd;rfl
  ·obtain ⟨ms,rfl⟩:=hkd;rfl
 cases d<;>simp [zmc] at hagg<;>simp [isAgg,run_underlying hd]
theorem zlK {P:Program} {t el m:Nat} {i ti:TyI} (h:i.ok P t) (hk:i.kind=.arr m el) (hti:ti.ok P el) {A:Option Addr} {k:IntKind} {j:Int} (hj:0≤j∧j<m∧Pl A) (w:World) :
  (Instr.indexAt t (.pointer A) (.int k j)).run P w=.ok (.pointer (pl A (j.toNat*ti.cells))) w:=by
 obtain ⟨d,hd,hkd⟩:=h.desc
 rw [hk] at hkd
 have hkd:d=.array m el:=hkd
 subst hkd
 obtain ⟨h0,h1,b,o,rfl⟩:=hj
 simp [Instr.indexAt,asIntOf,run_underlying hd,h0,h1,za3 hti,pl,Addr.add_lit,Instr.sureAddr]
theorem zpy {P:Program} {t:Nat} {i:TyI} (h:i.ok P t) (hk:i.kind=.str) {s:ByteArray} {k:IntKind} {j:Int} (hj:0≤j∧j<s.size) (w:World) :
  (Instr.index t (.string s) (.int k j)).run P w=.ok (.int .u8 (ze2 s j.toNat)) w:=by
 obtain ⟨d,hd,hkd⟩:=h.desc
 rw [hk] at hkd
 have hkd:d=.string:=hkd
 subst hkd
 have hlt:j.toNat<s.size:=by omega
 have hb:s[j.toNat]?=some (s[j.toNat]'hlt):=getElem?_pos s j.toNat hlt
 have hv:(s[j.toNat]'hlt)=s.data.toList.getD j.toNat 0:=by
  have:j.toNat<s.data.toList.length:=by rw [Array.length_toList];exact hlt
  rw [List.getD_eq_getElem?_getD,List.getElem?_eq_getElem this]
  rfl
 have h1:(Instr.index t (.string s) (.int k j)).run P w=(match (if 0≤j then s[j.toNat]? else none) with|some b=>(pure (.int .u8 b.toNat):Sem Value)|none=>boundsPanic k j s.size .index).run P w:=by
  simp [Instr.index,asIntOf,run_underlying hd]
  rfl
 rw [h1,if_pos hj.1,hb,ze2,← hv]
 rfl
theorem zgb {P:Program} (k:IntKind) (i:Int) (y:Nat) (code:BoundsCode) (h0:0≤i) (h1:i≤y) (w:World):(Instr.sliceBound (.int k i) y code).run P w=.ok i.toNat w:=by
 simp [Instr.sliceBound,asIntOf,h0,h1]
theorem zgM {P:Program} {len cap:Nat} {lo hi:Option Value} {l h:Int} (isS:Bool) (hl:zdZ 0 lo=some l) (hh:zdZ len hi=some h) (h0:0≤l) (h1:l≤h) (h2:h≤cap) (w:World) :
  (Instr.sliceBounds isS len cap lo hi none).run P w=.ok (l.toNat,h.toNat,cap) w:=by
 have hlo:l≤(h.toNat:Int):=by omega
 cases hi with
 | none =>
  simp [zdZ] at hh
  subst hh
  cases lo with
  | none=>simp [zdZ] at hl;subst hl;simp [Instr.sliceBounds]
  | some v=>cases v<;>simp [zdZ] at hl;subst hl;simp [Instr.sliceBounds,zgb _ _ _ _ h0 h1]
 | some u =>
  cases u<;>simp [zdZ] at hh
  subst hh
  cases lo with
  | none=>simp [zdZ] at hl;subst hl;simp [Instr.sliceBounds,zgb _ _ _ _ (show 0≤_ by omega) h2]
  | some v=>cases v<;>simp [zdZ] at hl;subst hl;simp [Instr.sliceBounds,zgb _ _ _ _ (show 0≤_ by omega) h2,zgb _ _ _ _ h0 hlo]
theorem zlF {P:Program} {t:Nat} {i:TyI} (ht:i.ok P t) (hk:i.kind=.str) {s:ByteArray} {lo hi:Option Value} {l h:Int} (hl:zdZ 0 lo=some l) (hh:zdZ s.size hi=some h) (hb:0≤l∧l≤h∧h≤s.size) (w:World) :
  (Instr.sliceAt t (.string s) lo hi none).run P w=.ok (.string (s.extract l.toNat h.toNat)) w:=by
 obtain ⟨d,hd,hkd⟩:=ht.desc
 rw [hk] at hkd
 have hkd:d=.string:=hkd
 subst hkd
 simp [Instr.sliceAt,run_underlying hd,Instr.slice,zgM false hl hh hb.1 hb.2.1 hb.2.2]
theorem zmY {P:Program} {t el:Nat} {i ti:TyI} (ht:i.ok P t) (hk:i.kind=.slice el) (hti:ti.ok P el) {A:Option Addr} {n c:Nat} {lo hi:Option Value} {l h:Int} (hl:zdZ 0 lo=some l) (hh:zdZ n hi=some h)
  (hb:0≤l∧l≤h∧h≤c∧(A=none∨Pl A)) (w:World) :
  (Instr.sliceAt t (.slice A n c) lo hi none).run P w=.ok (.slice (cutA A c l.toNat ti.cells) (h.toNat-l.toNat) (c-l.toNat)) w:=by
 obtain ⟨d,hd,hkd⟩:=ht.desc
 rw [hk] at hkd
 have hkd:d=.slice el:=hkd
 subst hkd
 simp only [Instr.sliceAt,Sem.run_bind,run_underlying hd,Result.andThen_ok,Instr.slice,zgM true hl hh hb.1 hb.2.1 hb.2.2.1,za3 hti,Sem.run_pure,cutA,zcp]
 rcases hb.2.2.2 with rfl|⟨b,o,rfl⟩
 ·simp [pl]
 ·simp [pl,Addr.add_lit]
theorem zlG {P:Program} {t el m:Nat} {i ti:TyI} (ht:i.ok P t) (hk:i.kind=.arr m el) (hti:ti.ok P el) {A:Option Addr} {lo hi:Option Value} {l h:Int} (hl:zdZ 0 lo=some l) (hh:zdZ m hi=some h)
  (hb:0≤l∧l≤h∧h≤m∧Pl A) (w:World) :
  (Instr.sliceAt t (.pointer A) lo hi none).run P w=.ok (.slice (cutA A m l.toNat ti.cells) (h.toNat-l.toNat) (m-l.toNat)) w:=by
 obtain ⟨d,hd,hkd⟩:=ht.desc
 rw [hk] at hkd
 have hkd:d=.array m el:=hkd
 subst hkd
 obtain ⟨b,o,rfl⟩:=hb.2.2.2
 simp only [Instr.sliceAt,Instr.sureAddr,Sem.run_bind,run_underlying hd,Result.andThen_ok,zgM false hl hh hb.1 hb.2.1 hb.2.2.1,za3 hti,Sem.run_pure,cutA,zcp]
 by_cases hm:m=l.toNat
 ·simp [hm,pl]
 ·simp [hm,pl,Addr.add_lit]
theorem zi5 {P:Program} {t el ty:TypeId} {i:TyI} (ht:i.ok P t) (hk:i.kind=.slice el) (A:Option Addr) (n c:Nat) (w:World):(Builtin.len_ #[t] ty #[.slice A n c]).run P w=.ok (.int .i64 n) w:=by
 obtain ⟨d,hd,hkd⟩:=ht.desc
 rw [hk] at hkd
 have hkd:d=.slice el:=hkd
 subst hkd
 simp [Builtin.len_,run_underlying hd,goInt]
theorem zlI {P:Program} {t ty:TypeId} {i:TyI} (ht:i.ok P t) (hk:i.kind=.str) (s:ByteArray) (w:World):(Builtin.len_ #[t] ty #[.string s]).run P w=.ok (.int .i64 s.size) w:=by
 obtain ⟨d,hd,hkd⟩:=ht.desc
 rw [hk] at hkd
 have hkd:d=.string:=hkd
 subst hkd
 simp [Builtin.len_,run_underlying hd,goInt]
theorem zpA {P:Program} {t:Nat} {i:TyI} (h:i.ok P t) {fs:List (Nat × Nat)} (hk:i.kind=.struct fs) {ps:List (Nat × Value)} {cs:List Value} (hf:zhs (nth fs) i.zero ps=some cs) (w:World) :
  (Instr.build t ps.toArray).run P w=.ok (.agg cs.toArray) w:=by
 obtain ⟨d,hd,hkd⟩:=h.desc
 rw [hk] at hkd
 obtain ⟨flds,rfl,hfl⟩:=hkd
 obtain ⟨inf,h1,_,_,h4⟩:=h.info
 have hff:=zhJ _ _ _ _ hf
 cases hz:inf.zero with
 | none=>rw [hz] at h4;cases h4
 | some z =>
  rw [hz] at h4
  simp at h4
  have hz2:(zeroValue t).run P w=.ok z w:=by simp [zeroValue,zcK h1,hz]
  have hpl:(fun x=>fs[x]?)=nth fs:=funext fun x=>(zco fs x).symm
  have hff':Instr.fill (fun x=>fs[x]?) z.cells ps=some cs.toArray:=by rw [hpl,h4];exact hff
  simp [Instr.build,run_underlying hd,hz2,Array.mapM_eq_mapM_toList,run_places w _ _ hfl,hff']
theorem zlO {P:Program} {t el m:Nat} {i ti:TyI} (h:i.ok P t) (hk:i.kind=.arr m el) (hti:ti.ok P el) {ps:List (Nat × Value)} {cs:List Value} (hf:zhs (fun i=>some (mulC i ti.cells,ti.cells)) i.zero ps=some cs) (w:World) :
  (Instr.build t ps.toArray).run P w=.ok (.agg cs.toArray) w:=by
 obtain ⟨d,hd,hkd⟩:=h.desc
 rw [hk] at hkd
 have hkd:d=.array m el:=hkd
 subst hkd
 obtain ⟨inf,h1,_,_,h4⟩:=h.info
 have hff:=zhJ _ _ _ _ hf
 cases hz:inf.zero with
 | none=>rw [hz] at h4;cases h4
 | some z =>
  rw [hz] at h4
  simp at h4
  have hz2:(zeroValue t).run P w=.ok z w:=by simp [zeroValue,zcK h1,hz]
  have hff':Instr.fill (fun i=>some (i*ti.cells,ti.cells)) z.cells ps=some cs.toArray:=by
   rw [h4]
   have:(fun i=>some (i*ti.cells,ti.cells))=fun i=>some (mulC i ti.cells,ti.cells):=funext fun i=>by rw [zcp]
   rw [this];exact hff
  simp [Instr.build,run_underlying hd,hz2,za3 hti,hff']
theorem zga {P:Program} {t:Nat} {i:TyI} (h:i.ok P t) (hni:i.kind≠.iface) (v:Value) (w:World):(Instr.makeInterface t v).run P w=.ok (.iface t v) w:=by
 obtain ⟨d,hd,hkd⟩:=h.desc
 have hn:∀ ms,d≠.interface ms:=by
  rintro ms rfl
  cases hk:i.kind<;>rw [hk] at hkd<;>simp [TyK.ok] at hkd
  exact hni hk
 cases d with
 | interface ms=>exact absurd rfl (hn ms)
 | _=>simp only [Instr.makeInterface,Sem.run_bind,run_underlying hd,Result.andThen_ok];rfl
end sound3
section sound4
variable {cx:Cx} {n:Nat} {D:List Deferred} {e:Env} {a:Act} {w:World}
theorem zaZ (ρ:Operand→Value) (o:Oper) {P:Program} {s:Sem Value} {v:Value} {w':World} (h:execOp ρ o=(do pure (Next.value (← s)))) (hs:s.run P w=.ok v w'):(execOp ρ o).run P w=.ok (.value v) w':=by
 rw [h];exact zf8 hs
theorem zcX (ht:TabOk cx.P cx.tab) (he:EnvOk n D e a) {o:Oper} {v:Value} {ob:Option Prop} (h:popV cx o.dst o.op e=some (v,ob)) (hob:∀ p,ob=some p→p) :
  (execOp a.eval o).run cx.P w=.ok (.value v) w:=by
 obtain ⟨dst,op,ty,pos,after,guard⟩:=o
 dsimp only at h
 unfold popV at h
 split at h
 ·-- move
  rename_i x
  split at h
  ·rename_i u hu;simp at h;obtain ⟨rfl,rfl⟩:=h
   simp [execOp,he.ev hu]
  ·cases h
 ·rename_i x
  split at h
  ·rename_i u hu;simp at h;obtain ⟨rfl,rfl⟩:=h
   simp [execOp,he.ev hu]
  ·cases h
 ·-- pick
  rename_i c x y
  split at h
  ·rename_i t hc
   split at h
   ·rename_i p q hx hy;simp at h;obtain ⟨rfl,rfl⟩:=h
    cases t<;>simp [execOp,he.ev hc,he.ev hx,he.ev hy,asBool]
   ·rename_i p hx _;simp at h;obtain ⟨rfl,rfl⟩:=h
    have ht:=hob _ rfl
    subst ht
    simp [execOp,he.ev hc,he.ev hx,asBool]
   ·rename_i q hy _;simp at h;obtain ⟨rfl,rfl⟩:=h
    have ht:=hob _ rfl
    subst ht
    simp [execOp,he.ev hc,he.ev hy,asBool]
   ·cases h
  ·cases h
 ·-- binOp
  rename_i op t x y yt
  split at h
  ·rename_i u v' hx hy
   have key:∀ (hb:∀ b,u=.bool b→cx.P.underlying t=some .bool),bin (cx.wraps dst) op u v'=some (v,ob)→(execOp a.eval ⟨dst,.binOp op t x y yt,ty,pos,after,guard⟩).run cx.P w=.ok (.value v) w:=by
    intro hb hh
    refine zaZ (s:=do eqGuard op t x y (a.eval x) (a.eval y);binOp op t (a.eval x) (a.eval y)) _ _ rfl ?_
    rw [he.ev hx,he.ev hy]
    exact zyl hh hob hb
   split at h
   ·split at h
    ·rename_i hti
     refine key (fun _ _=>?_) h
     obtain ⟨d,hd,hk⟩:=(ht _ _ hti).desc
     have hk:d=.bool:=hk
     rw [hd,hk]
    ·cases h
   ·rename_i hnb
    exact key (fun b hb=>absurd hb (hnb b)) h
  ·cases h
 ·-- unOp
  rename_i op t x
  split at h
  ·rename_i b hx;simp at h;obtain ⟨rfl,rfl⟩:=h
   refine zaZ (s:=Op.unary .not (a.eval x)) _ _ rfl ?_
   rw [he.ev hx];rfl
  ·rename_i k m hx
   simp at h
   have e2:=zsU h hob
   refine zaZ (s:=Op.unary .neg (a.eval x)) _ _ rfl ?_
   rw [he.ev hx,← e2];simp [Op.unary,Op.intArith]
  ·cases h
 ·-- extract
  rename_i x i
  split at h
  ·rename_i vs hx
   split at h
   ·rename_i u hu;simp at h;obtain ⟨rfl,rfl⟩:=h
    rw [zco] at hu
    refine zaZ (s:=Instr.extract (a.eval x) i) _ _ rfl ?_
    rw [he.ev hx]
    have hu':vs[i]?=some u:=by simpa using hu
    simp [Instr.extract,hu']
   ·cases h
  ·cases h
 ·-- fieldAddr
  rename_i s x f
  split at h
  ·rename_i fs c by_ z hti
   split at h
   ·rename_i o sz A hf hx;simp at h;obtain ⟨rfl,rfl⟩:=h
    refine zaZ (s:=Instr.fieldAt s (a.eval x) f) _ _ rfl ?_
    rw [he.ev hx]
    exact zlM (ht _ _ hti) rfl hf (hob _ rfl) w
   ·cases h
  ·cases h
 ·-- indexAddr
  rename_i t x i
  split at h
  ·rename_i el c by_ z hti
   split at h
   ·rename_i ti A m cc k j htl hx hi;simp at h;obtain ⟨rfl,rfl⟩:=h
    refine zaZ (s:=Instr.indexAt t (a.eval x) (a.eval i)) _ _ rfl ?_
    rw [he.ev hx,he.ev hi]
    rw [zcp]
    exact zlJ (ht _ _ hti) rfl (ht _ _ htl) (hob _ rfl) w
   ·cases h
  ·rename_i nn el c by_ z hti
   split at h
   ·rename_i ti A k j htl hx hi;simp at h;obtain ⟨rfl,rfl⟩:=h
    refine zaZ (s:=Instr.indexAt t (a.eval x) (a.eval i)) _ _ rfl ?_
    rw [he.ev hx,he.ev hi]
    rw [zcp]
    exact zlK (ht _ _ hti) rfl (ht _ _ htl) (hob _ rfl) w
   ·cases h
  ·cases h
 ·-- index
  rename_i t x i
  split at h
  ·rename_i c by_ z hti
   split at h
   ·rename_i s k j hx hi;simp at h;obtain ⟨rfl,rfl⟩:=h
    refine zaZ (s:=Instr.index t (a.eval x) (a.eval i)) _ _ rfl ?_
    rw [he.ev hx,he.ev hi]
    exact zpy (ht _ _ hti) rfl (hob _ rfl) w
   ·cases h
  ·cases h
 ·-- slice
  rename_i t x lo hi
  split at h
  ·rename_i c by_ z hti
   split at h
   ·rename_i s lo' hi' hx hlo hhi
    split at h
    ·rename_i l hh hl hh';simp at h;obtain ⟨rfl,rfl⟩:=h
     refine zaZ (s:=Instr.sliceAt t (a.eval x) (lo.map a.eval) (hi.map a.eval) none) _ _ rfl ?_
     rw [he.ev hx,zfb he hlo,zfb he hhi]
     exact zlF (ht _ _ hti) rfl hl hh' (hob _ rfl) w
    ·cases h
   ·cases h
  ·rename_i el c by_ z hti
   split at h
   ·rename_i ti A m cc lo' hi' htl hx hlo hhi
    split at h
    ·rename_i l hh hl hh';simp at h;obtain ⟨rfl,rfl⟩:=h
     refine zaZ (s:=Instr.sliceAt t (a.eval x) (lo.map a.eval) (hi.map a.eval) none) _ _ rfl ?_
     rw [he.ev hx,zfb he hlo,zfb he hhi]
     exact zmY (ht _ _ hti) rfl (ht _ _ htl) hl hh' (hob _ rfl) w
    ·cases h
   ·cases h
  ·rename_i nn el c by_ z hti
   split at h
   ·rename_i ti A lo' hi' htl hx hlo hhi
    split at h
    ·rename_i l hh hl hh';simp at h;obtain ⟨rfl,rfl⟩:=h
     refine zaZ (s:=Instr.sliceAt t (a.eval x) (lo.map a.eval) (hi.map a.eval) none) _ _ rfl ?_
     rw [he.ev hx,zfb he hlo,zfb he hhi]
     exact zlG (ht _ _ hti) rfl (ht _ _ htl) hl hh' (hob _ rfl) w
    ·cases h
   ·cases h
  ·cases h
 ·-- makeInterface
  rename_i t x
  split at h
  ·cases h
  ·cases h
  ·rename_i ti hni hti
   split at h
   ·rename_i u hx;simp at h;obtain ⟨rfl,rfl⟩:=h
    refine zaZ (s:=Instr.makeInterface t (a.eval x)) _ _ rfl ?_
    rw [he.ev hx]
    refine zga (ht _ _ hti) (fun hk=>?_) u w
    obtain ⟨k,c,b,z⟩:=ti
    dsimp only at hk
    subst hk
    exact hni c b z rfl
   ·cases h
 ·-- makeFunc
  rename_i fn first cap
  split at h
  ·rename_i f c hf hc;simp at h;obtain ⟨rfl,rfl⟩:=h
   refine zaZ (s:=Instr.makeFunc fn (first.map a.eval) (cap.map a.eval)) _ _ rfl ?_
   rw [zb0 he hf,zb0 he hc]
   rfl
  ·cases h
 ·-- nilCheck
  rename_i x
  split at h
  ·rename_i A hx;simp at h;obtain ⟨rfl,rfl⟩:=h
   have hp:A.isSome=true:=hob _ rfl
   obtain ⟨ad,rfl⟩:=Option.isSome_iff_exists.1 hp
   simp [execOp,he.ev hx]
  ·rename_i t u hx;simp at h;obtain ⟨rfl,rfl⟩:=h
   simp [execOp,he.ev hx]
  ·rename_i g f c hx;simp at h;obtain ⟨rfl,rfl⟩:=h
   simp [execOp,he.ev hx]
  ·rename_i name f c hx
   split at h
   ·rename_i t u hf;simp at h;obtain ⟨rfl,rfl⟩:=h
    have hp:NA cx t u name:=hob _ rfl
    have hf2:f=#[.iface t u]:=by apply Array.toList_inj.1;simpa using hf
    subst hf2
    have:=hp w
    simp [execOp,he.ev hx,this]
   ·cases h
  ·cases h
 ·-- convert
  rename_i s d x
  split at h
  ·cases h
  ·rename_i ts hts
   split at h
   ·rename_i k c by_ z htd
    split at h
    ·rename_i k' m hx
     simp at h
     have e2:=zsU h hob
     refine zaZ (s:=convert s d (a.eval x)) _ _ rfl ?_
     rw [he.ev hx,← e2]
     obtain ⟨ds,hds,_⟩:=(ht _ _ hts).desc
     obtain ⟨dd,hdd,hkd⟩:=(ht _ _ htd).desc
     have hkd:dd=.int k:=hkd
     subst hkd
     simp [convert,run_underlying hds,run_underlying hdd,Conv.intToInt]
    ·cases h
   ·cases h
 ·-- len
  rename_i c
  obtain ⟨callee,args,argTypes⟩:=c
  dsimp only at h
  split at h
  ·split at h
   ·rename_i x t ha hat
    have ha2:args=#[x]:=by apply Array.toList_inj.1;simpa using ha
    have hat2:argTypes=#[t]:=by apply Array.toList_inj.1;simpa using hat
    subst ha2 hat2
    have hcall:∀ u u',a.eval x=u→(Builtin.len_ #[t] ty #[u]).run cx.P w=.ok u' w→(execOp a.eval ⟨dst,.call ⟨.builtin .len,#[x],#[t]⟩,ty,pos,after,guard⟩).run cx.P w=.ok (.value u') w:=by
     intro u u' hu hr
     simp only [execOp,resolve,invoke,builtin,Sem.run_bind,Sem.run_pure,Result.andThen_ok,List.map_toArray,List.map_cons,List.map_nil,hu,hr]
    split at h
    ·rename_i c by_ z hti
     split at h
     ·rename_i s hx;simp at h;obtain ⟨rfl,rfl⟩:=h
      exact hcall _ _ (he.ev hx) (zlI (ht _ _ hti) rfl s w)
     ·cases h
    ·rename_i el c by_ z hti
     split at h
     ·rename_i A m cc hx;simp at h;obtain ⟨rfl,rfl⟩:=h
      exact hcall _ _ (he.ev hx) (zi5 (ht _ _ hti) rfl A m cc w)
     ·cases h
    ·cases h
   ·cases h
  ·cases h
 ·-- build
  rename_i t parts
  split at h
  ·rename_i fs c by_ z hti
   split at h
   ·rename_i ps hps
    split at h
    ·rename_i cs hcs;simp at h;obtain ⟨rfl,rfl⟩:=h
     refine zaZ (s:=Instr.build t (parts.map fun (i,x)=>(i,a.eval x))) _ _ rfl ?_
     have:parts.map (fun (i,x)=>(i,a.eval x))=ps.toArray:=by
      apply Array.toList_inj.1
      have:=zfk he hps
      simpa using this
     rw [this]
     exact zpA (ht _ _ hti) rfl ((zkY _ _ _ _ rfl).symm.trans hcs) w
    ·cases h
   ·cases h
  ·rename_i nn el c by_ z hti
   split at h
   ·rename_i ti ps htl hps
    split at h
    ·rename_i cs hcs;simp at h;obtain ⟨rfl,rfl⟩:=h
     refine zaZ (s:=Instr.build t (parts.map fun (i,x)=>(i,a.eval x))) _ _ rfl ?_
     have:parts.map (fun (i,x)=>(i,a.eval x))=ps.toArray:=by
      apply Array.toList_inj.1
      have:=zfk he hps
      simpa using this
     rw [this]
     exact zlO (ht _ _ hti) rfl (ht _ _ htl) ((zkY _ _ _ _ rfl).symm.trans hcs) w
    ·cases h
   ·cases h
  ·cases h
 ·cases h
end sound4
/-! ## a list of operations, code -/
def Br (b:Bool) (X Y:Prop):Prop:=(b=true→X)∧(b=false→Y)
def RdG (cx:Cx) (g:Prop) (m:Mem) (s:Sem Value) (v:Value):Prop:=g→∀ w,MemOk cx.w0 cx.S m w→s.run cx.P w=.ok v w
def CpG (cx:Cx) (g:Prop) (m:Mem) (f:Nat) (args:List Value) (v:Value):Prop:=g→Enters cx.P f∧∀ w,MemOk cx.w0 cx.S m w→Calls cx.P f args.toArray w fun e w'=>e=.returned v∧Fr (fun _=>False) w w'
structure Sc where
 s:Nat
 w:Bool
 b:Bool
 ce:Env
def zjc:List (Nat × Bool)→Nat→Option Bool
 | [],_=>none
 | (k,v)::r,t=>match Nat.beq k t with
  | true=>some v
  | false=>zjc r t
def cont (kn:List (Nat × Bool)) (dst:Option Nat) (v:Value) (e:Env) (f:List (Nat × Bool)→Env→Prop):Prop :=
 match dst with
 | none=>f kn e
 | some d=>match zjc kn d with
  | none=>f kn ((d,v)::e)
  | some _=>f [] ((d,v)::e)
def zp8 (ops:Array Oper) (j:Nat):Option Nat:=match nth ops.toList j with
 | some o=>o.dst
 | none=>none
def beqB:Bool→Bool→Bool
 | true,b=>b
 | false,true=>false
 | false,false=>true
def zue (pf:List Nat):Op→Bool
 | .convert ..=>true
 | .move _|.assign _|.binOp ..|.unOp ..|.extract ..|.fieldAddr ..|.indexAddr ..|.index ..|.slice ..|.nilCheck _|.load ..=>true
 | .call c=>match c.callee with
  | .builtin .len=>true
  | .value (.func g)=>zow pf g
  | _=>false
 | _=>false
def zlP (pf:List Nat) (j:Nat) (w:Bool):List Oper→Bool
 | []=>true
 | o::r=>match o.guard with
  | none=>true
  | some (j',w')=>match Nat.beq j j',beqB w w' with
   | true,true=>match zue pf o.op with
    | true=>zlP pf j w r
    | false=>false
   | _,_=>false
def zuh (sc:Option Sc) (s:Nat) (w:Bool):Option Sc :=
 match sc with
 | none=>none
 | some c=>match Nat.beq c.s s,beqB c.w w with
  | true,true=>some c
  | _,_=>none
def evIn (sc:Option Sc) (s:Nat) (w:Bool) (e:Env) (x:Operand):Option Value :=
 match zuh sc s w with
 | some c=>c.ce.ev x
 | none=>e.ev x
def isT:Operand→Bool
 | .const (.bool true)=>true
 | _=>false
def isF:Operand→Bool
 | .const (.bool false)=>true
 | _=>false
def zwL (sc:Option Sc) (kn:List (Nat × Bool)) (e:Env) (c x y:Operand):Option Value :=
 match c with
 | .tmp s=>match zjc kn s with
  | some true=>e.ev x
  | some false=>e.ev y
  | none=>match e.get s with
   | some (.bool t)=>match evIn sc s true e x,evIn sc s false e y with
    | some (.bool p),some (.bool q)=>match isT x with
     | true=>some (.bool (t||q))
     | false=>match isF y with
      | true=>some (.bool (t&&p))
      | false=>some (.bool (cond t p q))
    | _,_=>none
   | _=>none
 | _=>none
def zju (cx:Cx) (b wnt:Bool) (d:Nat) (op:Op) (ce:Env) (m:Mem) (K:Env→Prop):Prop :=
 match op with
 | .load t x=>match ce.ev x with
  | some u=>∃ v,RdG cx (b=wnt) m (Instr.loadAt t u) v∧K ((d,v)::ce)
  | none=>(b=wnt→False)∧K ce
 | .convert s t x=>match cx.tab.get t with
  | some ⟨.int _,_,_,_⟩=>match popV cx (some d) (.convert s t x) ce with
   | some (v,none)=>K ((d,v)::ce)
   | some (v,some p)=>(b=wnt→p)∧K ((d,v)::ce)
   | none=>(b=wnt→False)∧K ce
  | _=>match ce.ev x with
   | some u=>∃ v,RdG cx (b=wnt) m (convert s t u) v∧K ((d,v)::ce)
   | none=>(b=wnt→False)∧K ce
 | .binOp op t x y ty=>match ce.ev x,ce.ev y with
  | some u,some v=>match zkB u v with
   | true=>match popV cx (some d) (.binOp op t x y ty) ce with
    | some (v,none)=>K ((d,v)::ce)
    | some (v,some p)=>(b=wnt→p)∧K ((d,v)::ce)
    | none=>(b=wnt→False)∧K ce
   | false=>∃ r,RdG cx (b=wnt) m (zdK op t x y u v) r∧K ((d,r)::ce)
  | _,_=>(b=wnt→False)∧K ce
 | .call ⟨.value (.func g),args,_⟩=>match Env.evs ce args.toList with
  | some as=>∃ v,CpG cx (b=wnt) m g as v∧K ((d,v)::ce)
  | none=>(b=wnt→False)∧K ce
 | op=>match popV cx (some d) op ce with
  | some (v,none)=>K ((d,v)::ce)
  | some (v,some p)=>(b=wnt→p)∧K ((d,v)::ce)
  | none=>(b=wnt→False)∧K ce
abbrev LK:=Option Sc→List (Nat × Bool)→Env→Mem→Prop
def XLn (k:Exit→Env→Mem→Prop):LK:=fun _ _ e m=>k .normal e m
def XLs (cx:Cx) (xo:Option Nat→Op→Nat→Env→Mem→(Value→Mem→Prop)→(List PanicEntry→Mem→Prop)→Prop) (ops:Array Oper) (k:Exit→Env→Mem→Prop) (o:Oper) (rest:List Oper) (ih:LK):LK:=fun sc kn e m =>
  match o.guard with
  | none=>match o.op with
   | .pick c x y=>match zwL sc kn e c x y with
    | some v=>cont kn o.dst v e fun kn' e'=>ih none kn' e' m
    | none=>False
   | _=>xo o.dst o.op o.type e m (fun v m'=>cont kn o.dst v e fun kn' e'=>ih none kn' e' m') (fun ch m'=>k (.panic ch) e m')
  | some (j,wnt)=>match zp8 ops j with
   | none=>False
   | some s=>match zjc kn s with
    | some lit=>match beqB lit wnt with
     | true=>xo o.dst o.op o.type e m (fun v m'=>cont kn o.dst v e fun kn' e'=>ih none kn' e' m') (fun ch m'=>k (.panic ch) e m')
     | false=>cont kn o.dst undef e fun kn' e'=>ih none kn' e' m
    | none=>match e.get s with
     | some (.bool b)=>match zlP cx.pf j wnt (o::rest) with
      | true=>match o.dst with
       | none=>False
       | some d=>match e.get d with
        | some _=>False
        | none=>match zuh sc s wnt with
         | some c=>zju cx b wnt d o.op c.ce m fun ce'=>ih (some ⟨s,wnt,b,ce'⟩) kn e m
         | none=>zju cx b wnt d o.op e m fun ce'=>ih (some ⟨s,wnt,b,ce'⟩) kn e m
      | false=>match wnt with
       | true=>Br b
        (xo o.dst o.op o.type ((s,.bool true)::e) m (fun v m'=>cont ((s,true)::kn) o.dst v ((s,.bool true)::e) fun kn' e'=>ih none kn' e' m') (fun ch m'=>k (.panic ch) e m'))
        (cont ((s,false)::kn) o.dst undef ((s,.bool false)::e) fun kn' e'=>ih none kn' e' m)
       | false=>Br b
        (cont ((s,true)::kn) o.dst undef ((s,.bool true)::e) fun kn' e'=>ih none kn' e' m)
        (xo o.dst o.op o.type ((s,.bool false)::e) m (fun v m'=>cont ((s,false)::kn) o.dst v ((s,.bool false)::e) fun kn' e'=>ih none kn' e' m') (fun ch m'=>k (.panic ch) e m'))
     | some (.tuple _)=>cont kn o.dst undef e fun kn' e'=>ih none kn' e' m
     | _=>False
noncomputable def XL (cx:Cx) (ops:Array Oper) (k:Exit→Env→Mem→Prop) (l:List Oper):LK :=
 List.rec (motive:=fun _=>LK) (XLn k) (XLs cx (XO cx) ops k) l
def XOq (cx:Cx) (dst:Option Nat) (op:Op) (_ty:Nat) (e:Env) (m:Mem) (K:Value→Mem→Prop) (_:List PanicEntry→Mem→Prop):Prop :=
 match op with
 | .load t a=>match e.ev a with
  | some x=>∃ v,RdG cx True m (Instr.loadAt t x) v∧K v m
  | none=>False
 | .convert s d x=>match cx.tab.get d with
  | some ⟨.int _,_,_,_⟩=>zcI cx dst op e (fun v=>K v m)
  | _=>match e.ev x with
   | some v=>∃ r,RdG cx True m (convert s d v) r∧K r m
   | none=>False
 | .binOp op t x y ty=>match e.ev x,e.ev y with
  | some u,some v=>match zkB u v with
   | true=>zcI cx dst (.binOp op t x y ty) e (fun v=>K v m)
   | false=>∃ r,RdG cx True m (zdK op t x y u v) r∧K r m
  | _,_=>False
 | .call c=>match c.callee with
  | .value (.func g)=>match Env.evs e c.args.toList with
   | some as=>∃ v,CpG cx True m g as v∧K v m
   | none=>False
  | .value f=>match e.ev f,Env.evs e c.args.toList with
   | some (.func (.func g) f c),some as=>∃ v,CpG cx True m g (f.toList++as++c.toList) v∧K v m
   | _,_=>False
  | .builtin .len=>zcI cx dst op e (fun v=>K v m)
  | _=>False
 | .store ..|.alloc ..|.box ..|.buildSlice ..|.makeSlice ..|.typeAssert ..|.panic ..=>False
 | _=>zcI cx dst op e (fun v=>K v m)
noncomputable def XQ (cx:Cx) (ops:Array Oper) (k:Exit→Env→Mem→Prop) (l:List Oper):LK :=
 List.rec (motive:=fun _=>LK) (XLn k) (XLs cx (XOq cx) ops k) l
def Qk (cx:Cx) (k:Exit→Env→Mem→Prop) (ex:Exit) (a:Act) (w:World):Prop:=∃ e m,EnvOk cx.n cx.df e a∧MemOk cx.w0 cx.S m w∧k ex e m
def Lp (cx:Cx) (c:Code) (k:Exit→Env→Mem→Prop) (e:Env) (m:Mem):Prop:=∀ a w,EnvOk cx.n cx.df e a→MemOk cx.w0 cx.S m w→(Code.loop c).wp cx.P (Qk cx k) a w
def Dr (cx:Cx) (id:Nat) (ops:Array Oper) (k:Exit→Env→Mem→Prop) (e:Env) (m:Mem):Prop:=∀ a w,EnvOk cx.n cx.df e a→MemOk cx.w0 cx.S m w→(Code.region id ops true).wp cx.P (Qk cx k) a w
def Oth (cx:Cx) (c:Code) (k:Exit→Env→Mem→Prop) (e:Env) (m:Mem):Prop:=∀ a w,EnvOk cx.n cx.df e a→MemOk cx.w0 cx.S m w→c.wp cx.P (Qk cx k) a w
def zbD (n:Nat):List Oper→Bool
 | []=>true
 | o::r=>match o.dst with
  | none=>zbD n r
  | some d=>match Nat.blt d n with
   | true=>zbD n r
   | false=>false
abbrev KK:=Exit→Env→Mem→Prop
abbrev CK:=KK→Env→Mem→Prop
def zyo:CK:=fun k e m=>k .normal e m
def Xseq (x y:CK):CK:=fun k e m=>x (fun ex e m=>match ex with
  | .normal=>y k e m
  | ex=>k ex e m) e m
def zyp (id:Nat) (x:CK):CK:=fun k e m=>x (fun ex e m=>match ex with
  | .exit i=>match Nat.beq i id with
   | true=>k .normal e m
   | false=>k (.exit i) e m
  | ex=>k ex e m) e m
def zxs (c:Operand) (x y:CK):CK:=fun k e m=>match e.ev c with
  | some (.bool b)=>Br b (x k e m) (y k e m)
  | _=>False
def Xret:CK:=fun k e m=>k .ret e m
def Xexit (id:Nat):CK:=fun k e m=>k (.exit id) e m
def lead:Code→Nat
 | .region id _ _=>id
 | .seq a _=>lead a
 | .block _ b=>lead b
 | .loop b=>lead b
 | .scope b=>lead b
 | _=>1000000
def Cut (cx:Cx) (x y:Code) (k:KK) (e:Env) (m:Mem):Prop:=∀ a w,EnvOk cx.n cx.df e a→MemOk cx.w0 cx.S m w→(Code.seq x y).wp cx.P (Qk cx k) a w
def zxr (cx:Cx) (c1 c2:Code) (x y:CK):CK:=fun k e m=>match zow cx.st (lead c1) with
  | true=>Cut cx c1 c2 k e m
  | false=>Xseq x y k e m
noncomputable def Xreg (cx:Cx) (id:Nat) (ops:Array Oper) (draw:Bool):CK:=fun k e m=>match draw with
  | false=>match zbD cx.n ops.toList with
   | true=>XL cx ops k ops.toList none [] e m
   | false=>False
  | true=>Dr cx id ops k e m
noncomputable def XC (cx:Cx) (c:Code):CK :=
 Code.rec (motive:=fun _=>CK) zyo (fun id ops draw=>Xreg cx id ops draw) (fun c1 c2 x y=>zxr cx c1 c2 x y) (fun c _ _ x y=>zxs c x y) (fun id _ x=>zyp id x) (fun c _=>Lp cx c)
  (fun f ps as bd _ _=>Oth cx (.rangeFunc f ps as bd)) Xexit (fun bd _=>Oth cx (.scope bd)) (fun _=>zyo) (fun l=>Oth cx (.goto l)) Xret (fun why=>Oth cx (.refuse why)) c
/-! ## it is sound: operations -/
section sound5
variable {cx:Cx} {e:Env} {m:Mem} {a:Act} {w:World}
theorem za2 {P:Program} {o:Oper} {next:Act→World→Prop} {Q:Exit→Act→World→Prop} {v:Value} {w':World}
  (h:(execOp a.eval o).run P w=.ok (.value v) w') (hn:next (a.put o.dst v) w'):o.wp P a w next Q:=by
 unfold Oper.wp
 rw [h]
 exact hn
theorem zg1 (v:Value):v.cells=(zaS v).toArray:=by apply Array.toList_inj.1;rw [zd5]
theorem zpM (z:Array Value) (n s:Nat) (hz:z.size=s):(Array.range (n*s)).map (z[·%z.size]!)=((List.range (n*s)).map fun i=>z.toList.getD (i%s) undef).toArray:=by
 apply Array.toList_inj.1
 simp only [Array.toList_map,Array.toList_range]
 apply List.map_congr_left
 intro i hi
 have hi':i<n*s:=by simpa using hi
 have hs:0<s:=by
  rcases Nat.eq_zero_or_pos s with h|h
  ·subst h;omega
  ·exact h
 have hlt:i%s<z.size:=by rw [hz];exact Nat.mod_lt _ hs
 rw [hz]
 rw [getElem!_pos z (i%s) hlt]
 rw [List.getD_eq_getElem?_getD,List.getElem?_eq_getElem (by simpa using hlt)]
 simp
theorem zia {P:Program} {t el:Nat} {i ti:TyI} (ht:i.ok P t) (hk:i.kind=.slice el) (hti:ti.ok P el) {n:Nat} {ps:List (Nat × Value)} {cs:List Value}
  (hf:zhs (fun i=>some (i*ti.cells,ti.cells)) ((List.range (n*ti.cells)).map fun i=>ti.zero.getD (i%ti.cells) undef) ps=some cs) (hz:ti.zero.length=ti.cells) (hb:n*ti.cells≤16777216) (w:World) :
  (Instr.buildSlice t n ps.toArray).run P w=.ok (.slice (some ⟨w.heap.size,0,none⟩) n n) (w.alloc (.cells cs.toArray el)):=by
 obtain ⟨d,hd,hkd⟩:=ht.desc
 rw [hk] at hkd
 have hkd:d=.slice el:=hkd
 subst hkd
 have hff:=zhJ _ _ _ _ hf
 obtain ⟨z,hz1,hz2⟩:=zlE hti w
 have hsz:z.cells.size=ti.cells:=by rw [hz2];simpa using hz
 have hr:=zpM z.cells n ti.cells hsz
 have hzl:z.cells.toList=ti.zero:=by rw [hz2]
 rw [hzl] at hr
 by_cases h0:n*ti.cells=0
 ·have e1:((List.range (n*ti.cells)).map fun i=>ti.zero.getD (i%ti.cells) undef)=[]:=by rw [h0];rfl
  rw [e1] at hff
  have hff':Instr.fill (fun i=>some (i*ti.cells,ti.cells)) #[] ps=some cs.toArray:=hff
  have e2:(Array.range (n*ti.cells)).map ((#[]:Array Value)[·%(#[]:Array Value).size]!)=#[]:=by rw [h0];simp
  simp only [Instr.buildSlice,Sem.run_bind,run_underlying hd,Result.andThen_ok,za3 hti]
  rw [if_neg (by omega),if_pos h0]
  have e3:∀ (f:Array Value→Sem Value),((pure #[]:Sem (Array Value)) >>= f)=f #[]:=fun _=>rfl
  rw [e3,e2,hff']
  rfl
 ·simp only [Instr.buildSlice,Sem.run_bind,run_underlying hd,Result.andThen_ok,za3 hti]
  rw [if_neg (by omega),if_neg h0]
  simp only [Sem.run_bind,hz1,Result.andThen_ok,Sem.run_pure]
  rw [hr,hff]
  rfl
theorem zs6 (ht:TabOk cx.P cx.tab) (he:EnvOk cx.n cx.df e a) {o:Oper} {K:Value→Prop} {next:Act→World→Prop} {Q:Exit→Act→World→Prop}
  (h:zcI cx o.dst o.op e K) (hK:∀ v,K v→next (a.put o.dst v) w):o.wp cx.P a w next Q:=by
 unfold zcI at h
 split at h
 ·rename_i v hv
  exact za2 (zcX ht he hv (fun p hp=>by cases hp)) (hK v h)
 ·rename_i v p hv
  exact za2 (zcX ht he hv (fun q hq=>by cases hq;exact h.1)) (hK v h.2)
 ·exact h.elim
theorem zgg {o:Oper} {s:Sem Value} {K:Value→Mem→Prop} {next:Act→World→Prop} {Q:Exit→Act→World→Prop} (hm:MemOk cx.w0 cx.S m w)
  (hs:execOp a.eval o=(do pure (Next.value (← s)))) (h:Rn cx m s K) (hK:∀ v m' w',MemOk cx.w0 cx.S m' w'→K v m'→next (a.put o.dst v) w'):o.wp cx.P a w next Q:=by
 obtain ⟨v,w',m',hr,hm',hk⟩:=h w hm
 exact za2 (zaZ _ _ hs hr) (hK v m' w' hm' hk)
theorem zyf {o:Oper} {g:Nat} {as:List Value} {K:Value→Mem→Prop} {KP:List PanicEntry→Mem→Prop} {next:Act→World→Prop} {Q:Exit→Act→World→Prop} (hm:MemOk cx.w0 cx.S m w)
  (hs:(execOp a.eval o).run cx.P w=.ok (.enter g as.toArray) w) (h:Cl cx m g as K KP) (hK:∀ v m' w',MemOk cx.w0 cx.S m' w'→K v m'→next (a.put o.dst v) w')
  (hP:∀ ch m' w',MemOk cx.w0 cx.S m' w'→KP ch m'→Q (.panic ch) a w'):o.wp cx.P a w next Q:=by
 unfold Oper.wp
 rw [hs]
 rw [Oper.upon_enter]
 refine (h w hm).mono fun en w' hh=>?_
 cases en with
 | returned v=>obtain ⟨m',h1,h2⟩:=hh;exact hK v m' w' h1 h2
 | panicked ch=>obtain ⟨m',h1,h2⟩:=hh;exact hP ch m' w' h1 h2
 | outgrown=>exact hh.elim
theorem zgw {t el n:Nat} {i ti:TyI} (ht:i.ok cx.P t) (hk:i.kind=.slice el) (hti:ti.ok cx.P el) (he:EnvOk cx.n cx.df e a) {parts:Array (Nat × Operand)} {ps:List (Nat × Value)} (hps:zdJ e parts.toList=some ps) {cs:List Value}
  (hf:zhs (fun i=>some (i*ti.cells,ti.cells)) ((List.range (n*ti.cells)).map fun i=>ti.zero.getD (i%ti.cells) undef) ps=some cs) (hz:ti.zero.length=ti.cells) (hb:n*ti.cells≤16777216)
  {dst:Option Nat} {ty:TypeId} {pos:String} {after:Array Edge} {guard:Option (Nat × Bool)} {next:Act→World→Prop} {Q:Exit→Act→World→Prop}
  (hn:next (a.put dst (.slice (some ⟨w.heap.size,0,none⟩) n n)) (w.alloc (.cells cs.toArray el))):(⟨dst,.buildSlice t n parts,ty,pos,after,guard⟩:Oper).wp cx.P a w next Q:=by
 have hps2:=zfk he hps
 have e1:parts.map (fun (i,x)=>(i,a.eval x))=ps.toArray:=by
  apply Array.toList_inj.1
  simpa using hps2
 have h:=zia ht hk hti hf hz hb w
 rw [← e1] at h
 generalize hs:Instr.buildSlice t n (parts.map fun (i,x)=>(i,a.eval x))=s at h
 have he2:execOp a.eval ⟨dst,.buildSlice t n parts,ty,pos,after,guard⟩=(do pure (Next.value (← s))):=by
  rw [← hs]
  simp only [execOp]
 have h3:=zaZ _ _ he2 h
 exact za2 h3 hn
set_option maxHeartbeats 1000000 in
theorem zsZ (ht:TabOk cx.P cx.tab) (he:EnvOk cx.n cx.df e a) (hm:MemOk cx.w0 cx.S m w) {o:Oper} {K:Value→Mem→Prop} {KP:List PanicEntry→Mem→Prop} {next:Act→World→Prop} {Q:Exit→Act→World→Prop}
  (h:XO cx o.dst o.op o.type e m K KP) (hK:∀ v m' w',MemOk cx.w0 cx.S m' w'→K v m'→next (a.put o.dst v) w')
  (hP:∀ ch m' w',MemOk cx.w0 cx.S m' w'→KP ch m'→Q (.panic ch) a w'):o.wp cx.P a w next Q:=by
 obtain ⟨dst,op,ty,pos,after,guard⟩:=o
 dsimp only at h
 have hval:zcI cx dst op e (fun v=>K v m)→(⟨dst,op,ty,pos,after,guard⟩:Oper).wp cx.P a w next Q:=fun h=>zs6 (o:=⟨dst,op,ty,pos,after,guard⟩) ht he h fun v hv=>hK v m w hm hv
 unfold XO at h
 split at h
 ·-- load
  rename_i t x
  split at h
  ·rename_i u hx
   exact zgg hm (s:=Instr.loadAt t u) (by simp only [execOp,he.ev hx]) h hK
  ·exact h.elim
 ·-- store
  rename_i t x y
  split at h
  ·rename_i p v hx hy
   obtain ⟨w',m',hr,hm',hk⟩:=h w hm
   unfold Oper.wp
   have:(execOp a.eval ⟨dst,.store t x y,ty,pos,after,guard⟩).run cx.P w=.ok .skip w':=by simp [execOp,he.ev hx,he.ev hy,hr]
   rw [this]
   exact hK undef m' w' hm' hk
  ·exact h.elim
 ·-- alloc
  rename_i t
  split at h
  ·rename_i i hti
   obtain ⟨z,hz1,hz2⟩:=zlE (ht _ _ hti) w
   refine za2 (v:=.pointer (some ⟨w.heap.size,0,none⟩)) (w':=w.alloc (.cells i.zero.toArray t)) ?_ (hK _ _ _ (hm.alloc _) (h _))
   simp only [execOp,Instr.alloc,Sem.run_bind,hz1,Result.andThen_ok,newVar,newRow,hz2]
   rfl
  ·exact h.elim
 ·-- box
  rename_i t x
  split at h
  ·rename_i v hx
   refine za2 (v:=.pointer (some ⟨w.heap.size,0,none⟩)) (w':=w.alloc (.cells (zaS v).toArray t)) ?_ (hK _ _ _ (hm.alloc _) (h _))
   simp only [execOp,Instr.box,he.ev hx,newVar,newRow,← zg1]
   rfl
  ·exact h.elim
 ·-- buildSlice
  rename_i t n parts
  split at h
  ·rename_i el c by_ z hti
   split at h
   ·rename_i ti ps htl hps
    split at h
    ·obtain ⟨cs,⟨hf,hb,hz⟩,hk⟩:=h
     exact zgw (ht _ _ hti) rfl (ht _ _ htl) he hps hf (Nat.eq_of_beq_eq_true hz) (Nat.le_of_ble_eq_true hb) (hK _ _ _ (hm.alloc _) (hk _))
    ·split at h
     ·rename_i cs hf hb hz
      exact zgw (ht _ _ hti) rfl (ht _ _ htl) he hps hf (Nat.eq_of_beq_eq_true hz) (Nat.le_of_ble_eq_true hb) (hK _ _ _ (hm.alloc _) (h _))
     ·exact h.elim
   ·exact h.elim
  ·exact h.elim
 ·-- binOp
  rename_i op t x y yt
  split at h
  ·rename_i u v hx hy
   split at h
   ·exact hval h
   ·refine zgg hm (s:=zdK op t x y u v) ?_ h hK
    simp only [execOp,he.ev hx,he.ev hy,zdK]
  ·exact h.elim
 ·-- makeSlice
  rename_i t l c
  split at h
  ·rename_i x y hx hy
   exact zgg hm (s:=Instr.makeSlice t x y) (by simp only [execOp,he.ev hx,he.ev hy]) h hK
  ·exact h.elim
 ·-- convert
  rename_i s d x
  split at h
  ·exact hval h
  ·split at h
   ·rename_i v hx
    exact zgg hm (s:=convert s d v) (by simp only [execOp,he.ev hx]) h hK
   ·exact h.elim
 ·-- typeAssert
  rename_i x s t ok
  split at h
  ·rename_i v hx
   exact zgg hm (s:=Instr.typeAssert v s t ok) (by simp only [execOp,he.ev hx]) h hK
  ·exact h.elim
 ·-- panic
  rename_i x
  split at h
  ·rename_i t v hx
   unfold Oper.wp
   have:(execOp a.eval ⟨dst,.panic x,ty,pos,after,guard⟩).run cx.P w=.halt (.panic (.iface t v)) w:=by simp [execOp,he.ev hx,Instr.panic,goPanic]
   rw [this]
   exact hP _ m w hm h
  ·exact h.elim
 ·-- index
  rename_i t x i
  split at h
  ·rename_i nn el c by_ z hti
   split at h
   ·rename_i ti htl
    split at h
    ·rename_i cs k j hfl hc1 hx hi
     obtain ⟨hj,v,hv,hk⟩:=h
     have hc1:=Nat.eq_of_beq_eq_true hc1
     refine za2 (v:=v) (w':=w) ?_ (hK _ _ _ hm hk)
     obtain ⟨d,hd,hkd⟩:=(ht _ _ hti).desc
     have hkd:d=.array nn el:=hkd
     subst hkd
     rw [zco] at hv
     have hv':cs[j.toNat]?=some v:=by simpa using hv
     have hfa:=zp0 (ht _ _ htl) hfl w
     simp only [execOp,he.ev hx,he.ev hi,Instr.index,asIntOf,Sem.run_bind,Sem.run_pure,Result.andThen_ok,run_underlying hd,hj.1,hj.2,and_self,if_true,part,hfa,za3 (ht _ _ htl),hc1,Nat.mul_one,hv',Bool.false_eq_true,if_false]
    ·exact h.elim
   ·exact h.elim
  ·exact hval h
 ·-- lookup
  rename_i t x i ok
  split at h
  ·rename_i u v hx hi
   exact zgg hm (s:=Instr.lookup t u v ok) (by simp only [execOp,he.ev hx,he.ev hi]) h hK
  ·exact h.elim
 ·-- mapUpdate
  rename_i t x i y
  split at h
  ·rename_i u v z hx hi hy
   obtain ⟨w',m',hr,hm',hk⟩:=h w hm
   unfold Oper.wp
   have:(execOp a.eval ⟨dst,.mapUpdate t x i y,ty,pos,after,guard⟩).run cx.P w=.ok .skip w':=by simp [execOp,he.ev hx,he.ev hi,he.ev hy,hr]
   rw [this]
   exact hK undef m' w' hm' hk
  ·exact h.elim
 ·-- insert
  rename_i t x i y
  split at h
  ·rename_i u v z hx hi hy
   obtain ⟨w',m',hr,hm',hk⟩:=h w hm
   unfold Oper.wp
   have:(execOp a.eval ⟨dst,.insert t x i y,ty,pos,after,guard⟩).run cx.P w=.ok .skip w':=by simp [execOp,he.ev hx,he.ev hi,he.ev hy,hr]
   rw [this]
   exact hK undef m' w' hm' hk
  ·exact h.elim
 ·-- mapEntry
  rename_i t x i
  split at h
  ·rename_i u v hx hi
   exact zgg hm (s:=Instr.mapEntry t u v) (by simp only [execOp,he.ev hx,he.ev hi]) h hK
  ·exact h.elim
 ·-- entryStore
  rename_i t x s y
  split at h
  ·rename_i u v z hx hi hy
   obtain ⟨w',m',hr,hm',hk⟩:=h w hm
   unfold Oper.wp
   have:(execOp a.eval ⟨dst,.entryStore t x s y,ty,pos,after,guard⟩).run cx.P w=.ok .skip w':=by simp [execOp,he.ev hx,he.ev hi,he.ev hy,hr]
   rw [this]
   exact hK undef m' w' hm' hk
  ·exact h.elim
 ·-- makeMap
  rename_i t
  refine za2 (v:=.map (some w.heap.size)) (w':=w.alloc (.map #[] 0)) ?_ (hK _ _ _ (hm.alloc _) (h _))
  simp only [execOp,Option.map_none,run_makeMap,Sem.run_bind,Result.andThen_ok,Sem.run_pure]
 ·-- range
  rename_i t x
  split at h
  ·rename_i u hx
   exact zgg hm (s:=Instr.range t u) (by simp only [execOp,he.ev hx]) h hK
  ·exact h.elim
 ·-- next
  rename_i x s
  split at h
  ·rename_i u hx
   exact zgg hm (s:=Instr.next u s ty) (by simp only [execOp,he.ev hx]) h hK
  ·exact h.elim
 ·-- entry
  rename_i x
  split at h
  ·rename_i u hx
   exact zgg hm (s:=Instr.entry u) (by simp only [execOp,he.ev hx]) h hK
  ·exact h.elim
 ·-- call
  rename_i c
  obtain ⟨callee,args,argTypes⟩:=c
  dsimp only at h
  split at h
  ·-- copy
   split at h
   ·rename_i x y hxy
    refine zgg hm (s:=Builtin.copy_ argTypes ty #[x,y]) ?_ h hK
    have:=zb0 he hxy
    simp only [execOp,resolve,invoke,builtin,this]
    rfl
   ·exact h.elim
  ·-- len
   split at h
   ·rename_i b hxy
    refine zgg hm (s:=Builtin.len_ argTypes ty #[.map (some b)]) ?_ h hK
    have:=zb0 he hxy
    simp only [execOp,resolve,invoke,builtin,this]
    rfl
   ·exact hval h
  ·-- min
   split at h
   ·rename_i k x k' y hxy
    refine za2 (v:=.int k (if y<x then y else x)) (w':=w) ?_ (hK _ _ _ hm h)
    have:=zb0 he hxy
    simp only [execOp,resolve,invoke,builtin,this]
    rfl
   ·exact h.elim
  ·-- max
   split at h
   ·rename_i k x k' y hxy
    refine za2 (v:=.int k (if y > x then y else x)) (w':=w) ?_ (hK _ _ _ hm h)
    have:=zb0 he hxy
    simp only [execOp,resolve,invoke,builtin,this]
    rfl
   ·exact h.elim
  ·-- append
   split at h
   ·rename_i x y hxy
    refine zgg hm (s:=Builtin.append_ argTypes ty #[x,y]) ?_ h hK
    have:=zb0 he hxy
    simp only [execOp,resolve,invoke,builtin,this]
    rfl
   ·exact h.elim
  ·-- clear
   split at h
   ·rename_i x hxy
    refine zgg hm (s:=Builtin.clear_ argTypes ty #[x]) ?_ h hK
    have:=zb0 he hxy
    simp only [execOp,resolve,invoke,builtin,this]
    rfl
   ·exact h.elim
  ·exact hval h
  ·-- a function value
   rename_i f
   split at h
   ·rename_i g fs cs as hf has
    refine zyf hm ?_ h.2 hK hP
    have h2:=zb0 he has
    have h3:=he.ev hf
    simp only [execOp,resolve,h2,h3,Deferred.ofValue,Sem.run_bind,Sem.run_pure,Result.andThen_ok,invoke]
    rw [h.1]
    congr 2
    apply Array.toList_inj.1
    simp
   ·exact h.elim
  ·-- a method of an interface value
   rename_i r name
   split at h
   ·rename_i t v as hr has
    obtain ⟨g,rv,hmd,hen,hcl⟩:=h
    refine zyf hm ?_ hcl hK hP
    have h2:=zb0 he has
    have h3:=he.ev hr
    have hext:(#[Value.iface t v]++as.toArray).extract 1 (#[Value.iface t v]++as.toArray).size=as.toArray:=by
     apply Array.toList_inj.1
     simp
    have h0:(#[Value.iface t v]++as.toArray)[0]?=some (.iface t v):=by simp
    simp only [execOp,resolve,h2,h3,Sem.run_bind,Sem.run_pure,Result.andThen_ok,invoke,h0,hext,callMethod]
    have hmd':=hmd w
    have hpr:(program:Sem Program).run cx.P w=.ok cx.P w:=rfl
    simp only [hpr,Result.andThen_ok,hmd']
    rw [hen]
    congr 2
    apply Array.toList_inj.1
    simp
   ·exact h.elim
 ·exact hval h
end sound5
end Go.Proofs.YtlmgelmloddfgaaGreat.Eng
