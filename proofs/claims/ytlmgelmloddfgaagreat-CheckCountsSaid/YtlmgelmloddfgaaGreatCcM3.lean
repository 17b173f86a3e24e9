/- Part of a proof: contracts of the functions that the law reaches. No statement of the seat is proved here. -/
import Derived.Test.YtlmgelmloddfgaaGreatCcM2
import Derived.Recover
import Derived.Test.YtlmgelmloddfgaaGreatProg
import Derived.RangeFuncRecord
import Derived.Maps.RangeRun
import Derived.Maps.Keyed
import Derived.TacticsIn
import Derived.Scope
import Derived.Lib.EndianBits
import Derived.Laws.StructEq
set_option linter.unusedVariables false
set_option linter.unusedSimpArgs false
set_option linter.unusedSectionVars false
set_option maxRecDepth 100000
namespace Go.Proofs.YtlmgelmloddfgaaGreat.Eng
open Go Go.RowKit
def WD (P:Program) (fn:Func) (R:Ending→World→Prop) (n:Nat) (w0:World) (S:Nat→Prop) (D:List Deferred) (y:Code) (e:Env) (m:Mem):Prop :=
 ∀ a w,EnvOk n D e a→MemOk w0 S m w→y.wp P (bodyPostD P fn R) a w
section
variable {cx:Cx}
def finD (cx:Cx) (fn:Func) (R:Ending→World→Prop) (ex:Exit) (e:Env) (m:Mem):Prop :=
 match ex with
 | .normal|.ret=>∀ a w,EnvOk cx.n cx.df e a→MemOk cx.w0 cx.S m w→Leaves cx.P fn a.tmps R cx.df .returning w
 | .panic ch=>∀ a w,EnvOk cx.n cx.df e a→MemOk cx.w0 cx.S m w→Leaves cx.P fn a.tmps R cx.df (.panicking ch) w
 | _=>False
theorem wd_of (ht:TabOk cx.P cx.tab) {fn:Func} {R:Ending→World→Prop} {y:Code} {e:Env} {m:Mem} (h:XC cx y (finD cx fn R) e m):WD cx.P fn R cx.n cx.w0 cx.S cx.df y e m:=by
 intro a w he hm
 refine wp_mono (zg5 ht y _ e m a w he hm h) ?_
 rintro ex a' w' ⟨e',m',he',hm',hk⟩
 cases ex with
 | normal=>have:=hk a' w' he' hm';rw [← he'.1] at this;exact this
 | ret=>have:=hk a' w' he' hm';rw [← he'.1] at this;exact this
 | panic ch=>have:=hk a' w' he' hm';rw [← he'.1] at this;exact this
 | exit id=>exact hk.elim
 | goto l=>exact hk.elim
 | outgrown=>exact hk.elim
theorem zxw (ht:TabOk cx.P cx.tab) {fn:Func} {R:Ending→World→Prop} {x y:Code} {e:Env} {m:Mem} (h:XC cx x (fun ex e m=>match ex with
   | .normal=>WD cx.P fn R cx.n cx.w0 cx.S cx.df y e m
   | ex=>finD cx fn R ex e m) e m):WD cx.P fn R cx.n cx.w0 cx.S cx.df (.seq x y) e m:=by
 intro a w he hm
 refine wp_seq (wp_mono (zg5 ht x _ e m a w he hm h) ?_)
 rintro ex a' w' ⟨e',m',he',hm',hk⟩
 cases ex with
 | normal=>exact hk a' w' he' hm'
 | ret=>have:=hk a' w' he' hm';rw [← he'.1] at this;exact this
 | panic ch=>have:=hk a' w' he' hm';rw [← he'.1] at this;exact this
 | exit id=>exact hk.elim
 | goto l=>exact hk.elim
 | outgrown=>exact hk.elim
theorem zqM {P:Program} (o:Oper) (a:Act) (next X:Act→World→Prop) (Q:Exit→Act→World→Prop) (r:Result Next) (h:o.upon P a next (Exit.then X Q) r):o.upon P a next Q r:=by
 cases r with
 | ok x w'=>cases x<;>exact h
 | halt x w'=>cases x<;>exact h
theorem zjX {P:Program} {ops:Array Oper}:∀ (l r:List Oper) (Q:Exit→Act→World→Prop) (a:Act) (w:World),wpList P ops (Exit.then (wpList P ops Q r) Q) l a w→wpList P ops Q (l++r) a w:=by
 intro l
 induction l with
 | nil=>intro r Q a w h;exact h
 | cons o l ih =>
  intro r Q a w h
  show wpList P ops Q (o::(l++r)) a w
  unfold wpList at h ⊢
  split
  ·rename_i hw
   rw [if_pos hw] at h
   refine h.imp (fun h=>?_) (fun h=>h)
   exact zqM o a _ _ Q _ (Oper.wp_mono (fun a w h=>ih r Q a w h) h)
  ·rename_i hw
   rw [if_neg hw] at h
   exact ih r Q _ _ h
theorem zqN {P:Program} (o:Oper) (a:Act) {next next':Act→World→Prop} {Q Q':Exit→Act→World→Prop} (hn:∀ a w,next a w→next' a w) (hq:∀ ex a w,Q ex a w→Q' ex a w) (r:Result Next) (h:o.upon P a next Q r):o.upon P a next' Q' r:=by
 cases r with
 | ok x w' =>
  cases x<;>simp only [Oper.upon] at h ⊢
  case value=>exact hn _ _ h
  case skip=>exact hn _ _ h
  case defer=>exact hn _ _ h
  case enter =>
   refine h.mono fun en w'' hh=>?_
   cases en with
   | returned v=>exact hn _ _ hh
   | panicked ch=>exact hq _ _ _ hh
   | outgrown=>obtain ⟨a,w,h⟩:=hh;exact⟨a,w,hq _ _ _ h⟩
  case row=>exact h.mono fun v w'' hh=>hn _ _ hh
 | halt x w' =>
  cases x<;>simp only [Oper.upon] at h ⊢
  case panic=>exact hq _ _ _ h
theorem zmD {P:Program} {ops:Array Oper} {Q Q':Exit→Act→World→Prop} (hq:∀ ex a w,Q ex a w→Q' ex a w):∀ (l:List Oper) (a:Act) (w:World),wpList P ops Q l a w→wpList P ops Q' l a w:=by
 intro l
 induction l with
 | nil=>intro a w h;exact hq _ _ _ h
 | cons o l ih =>
  intro a w h
  unfold wpList at h ⊢
  split
  ·rename_i hw
   rw [if_pos hw] at h
   refine h.imp (fun h=>zqN o a ih hq _ h) (fun h=>⟨h.1,?_⟩)
   obtain ⟨a,w,h⟩:=h.2
   exact⟨a,w,hq _ _ _ h⟩
  ·rename_i hw
   rw [if_neg hw] at h
   exact ih _ _ h
theorem zs5 (ht:TabOk cx.P cx.tab) {fn:Func} {R:Ending→World→Prop} {id:Nat} {ops:Array Oper} {y:Code} {e:Env} {m:Mem} (n:Nat) {f:Operand} {args:Array Operand} {tys:Array TypeId} {ty:Nat} {pos:String} {after:Array Edge}
  (hlast:zeZ n ops.toList=[⟨none,.defer ⟨.value f,args,tys⟩,ty,pos,after,none⟩]) (hds:zbD cx.n (zcJ n ops.toList)=true)
  (h:XL cx ops (fun ex e m=>match ex with
   | .normal=>∃ g first cap vs9,e.ev f=some (.func (.func g) first cap)∧Env.evs e args.toList=some vs9∧WD cx.P fn R cx.n cx.w0 cx.S ({ target:=.fn (.func g) cap,args:=first++vs9.toArray }::cx.df) y e m
   | ex=>finD cx fn R ex e m) (zcJ n ops.toList) none [] e m):WD cx.P fn R cx.n cx.w0 cx.S cx.df (.seq (.region id ops false) y) e m:=by
 rw [zc1] at h hds
 rw [zcG] at hlast
 intro a w he hm
 refine wp_seq (wp_region_list ?_)
 conv=>arg 4;rw [← List.take_append_drop n ops.toList]
 refine zjX _ _ _ _ _ ?_
 refine zmD ?_ _ _ _ (zs0 ht _ none [] e m a w hds he hm ScOk.none_ (KnOk.nil e) h)
 rintro ex a' w' ⟨e',m',he',hm',hk⟩
 cases ex with
 | normal =>
  obtain ⟨g,first,cap,vs9,hf,ha,hk⟩:=hk
  show wpList _ _ _ _ _ _
  rw [hlast]
  have hev:=he'.ev hf
  have hevs:=zb0 he' ha
  refine zc8 rfl ?_
  unfold Oper.wp
  have hrun:(execOp a'.eval ⟨none,.defer ⟨.value f,args,tys⟩,ty,pos,after,none⟩).run cx.P w'=.ok (.defer { target:=.fn (.func g) cap,args:=first++vs9.toArray }) w':=by
   simp only [execOp,resolve,hev,hevs,Deferred.ofValue]
   rfl
  rw [hrun,Oper.upon_defer]
  refine hk _ w' ⟨?_,he'.2.1,he'.2.2⟩ hm'
  show _::a'.defers=_
  rw [he'.1]
 | ret=>have:=hk a' w' he' hm';rw [← he'.1] at this;exact this
 | panic ch=>have:=hk a' w' he' hm';rw [← he'.1] at this;exact this
 | exit id=>exact hk.elim
 | goto l=>exact hk.elim
 | outgrown=>exact hk.elim
theorem zx4 {fn:Func} {R:Ending→World→Prop} {e:Env} {m:Mem} {ex:Exit} (hx:ex=.ret∨ex=.normal) (h:∀ a w,EnvOk cx.n cx.df e a→MemOk cx.w0 cx.S m w→Leaves cx.P fn a.tmps R cx.df .returning w):finD cx fn R ex e m:=by
 rcases hx with rfl|rfl<;>exact h
theorem zss {fn:Func} {R:Ending→World→Prop} {e:Env} {m:Mem} {ch:List PanicEntry} (h:∀ a w,EnvOk cx.n cx.df e a→MemOk cx.w0 cx.S m w→Leaves cx.P fn a.tmps R cx.df (.panicking ch) w):finD cx fn R (.panic ch) e m:=h
def DEnd (cx:Cx) (fn:Func) (R:Ending→World→Prop) (e:Env) (m:Mem):FrameMode→Prop
 | .returning=>∃ vs,resL cx m e fn.results.toList vs∧∀ w,MemOk cx.w0 cx.S m w→R (.returned (zuI vs)) w
 | .panicking ch=>∀ w,MemOk cx.w0 cx.S m w→R (.panicked ch) w
 | .run=>False
theorem zpX {fn:Func} {R:Ending→World→Prop} {e:Env} {m:Mem} {g:Nat} {vs9:Array Value} {cap:Array Value} {u:FrameMode} (hdf:cx.df=[{ target:=.fn (.func g) cap,args:=vs9 }]) (hu:u≠.run) (hE:Enters cx.P g)
  (h:∀ w,MemOk cx.w0 cx.S m w→CallsD cx.P g (vs9++cap) u w fun en u' w'=>match en with
   | .returned _=>∃ m',MemOk cx.w0 cx.S m' w'∧DEnd cx fn R e m' (settle u')
   | .panicked ch=>∃ m',MemOk cx.w0 cx.S m' w'∧DEnd cx fn R e m' (raised u' ch)
   | .outgrown=>False) :
  ∀ a w,EnvOk cx.n cx.df e a→MemOk cx.w0 cx.S m w→Leaves cx.P fn a.tmps R cx.df u w:=by
 intro a w he hm
 have fin:∀ u m' w',MemOk cx.w0 cx.S m' w'→DEnd cx fn R e m' u→Leaves cx.P fn a.tmps R [] u w':=by
  intro u m' w' hm' hk
  cases u with
  | run=>exact hk.elim
  | returning =>
   obtain ⟨vs,h1,h2⟩:=hk
   exact⟨_,zcx he hm' h1,h2 w' hm'⟩
  | panicking ch=>exact hk w' hm'
 rw [hdf]
 refine leaves_cons hu (hE _ _) ((h w hm).mono fun en u' w' hh=>?_)
 cases en with
 | returned v=>obtain ⟨m',h1,h2⟩:=hh;exact fin _ m' w' h1 h2
 | panicked ch=>obtain ⟨m',h1,h2⟩:=hh;exact fin _ m' w' h1 h2
 | outgrown=>exact hh.elim
theorem zxe (e0:Env) (_:TabOk cx.P cx.tab) {f:FuncId} {fn:Func} {c:Code} (hf:cx.P.funcs[f]?=some fn) (hb:fn.body=some c) (hn:fn.ntmps=cx.n) (he0:zfN 0 e0=true) (hl:Nat.ble e0.length cx.n=true) {m:Mem} {w:World} (hm:MemOk cx.w0 cx.S m w)
  {R:Ending→World→Prop} (h:WD cx.P fn R cx.n cx.w0 cx.S [] c e0 m):Calls cx.P f (e0.map (·.2)).toArray w R:=by
 have he0':=zdT he0
 generalize hargs:e0.map (·.2)=args at he0'
 subst he0'
 refine calls_of_wp_defers hf hb (h _ w ⟨rfl,?_,?_⟩ hm)
 ·have hle:=Nat.le_of_ble_eq_true hl
  have hlen:args.length≤cx.n:=by rw [← hargs];simpa using hle
  simp;omega
 ·intro t v hv
  obtain ⟨_,h2⟩:=zd6 _ _ _ _ hv
  simp at h2
  have h3:(args.toArray++Array.replicate (fn.ntmps-args.toArray.size) undef)[t]?=some v:=by
   rw [Array.getElem?_append_left (by simpa using (List.getElem?_eq_some_iff.1 h2).1)]
   simpa using h2
  rw [Array.getD_eq_getD_getElem?,h3]
  rfl
def recV:FrameMode→Value × FrameMode
 | .panicking ({ v,recovered:=false,goexit:=false }::older)=>(v,.panicking ({ v,recovered:=true }::older))
 | u=>(.nilIface,u)
theorem zm6 (c:Frame) (cs:List Frame):(match recoverD (c::cs) with
  | some (v,cs')=>(v,cs')
  | none=>(.nilIface,c::cs))=((recV c.mode).1,{ c with mode:=(recV c.mode).2 }::cs):=by
 obtain ⟨fn,tmps,todo,defers,mode,kind,ro⟩:=c
 cases mode with
 | run=>rfl
 | returning=>rfl
 | panicking ch =>
  cases ch with
  | nil=>rfl
  | cons p older =>
   obtain ⟨v,r,g⟩:=p
   cases r<;>cases g<;>rfl
def CtrD (P:Program) (g:Nat) (args:List Value) (u:FrameMode) (m:Mem) (R:Ending→FrameMode→Mem→Prop) (w:World):Prop :=
 CallsD P g args.toArray u w fun e u' w'=>∃ m',R e u' m'∧MemOk w (Foot m) m' w'
theorem zfh {fn:Func} {R:Ending→World→Prop} {e:Env} {m m1 r:Mem} {g:Nat} {vs9:Array Value} {cap:Array Value} {args:List Value} {u:FrameMode} {RD:Ending→FrameMode→Mem→Prop} (hdf:cx.df=[{ target:=.fn (.func g) cap,args:=vs9 }]) (hu:u≠.run) (hE:Enters cx.P g) (ha:vs9++cap=args.toArray) (hs:Sel m m1 r)
  (h:∀ w,MemOk cx.w0 cx.S (m1++r) w→CtrD cx.P g args u m1 RD w)
  (hk:∀ en u' m',RD en u' m'→match en with
   | .returned _=>DEnd cx fn R e (m'++r) (settle u')
   | .panicked ch=>DEnd cx fn R e (m'++r) (raised u' ch)
   | .outgrown=>False) :
  ∀ a w,EnvOk cx.n cx.df e a→MemOk cx.w0 cx.S m w→Leaves cx.P fn a.tmps R cx.df u w:=by
 refine zpX hdf hu hE fun w hm=>?_
 have hm':=hm.perm hs.perm
 rw [ha]
 refine (h w hm').mono fun en u' w' ⟨m',hr,ho⟩=>?_
 have hf:=hm'.frame ho
 have:=hk en u' m' hr
 cases en with
 | returned v=>exact⟨_,hf,this⟩
 | panicked ch=>exact⟨_,hf,this⟩
 | outgrown=>exact this
end
end Go.Proofs.YtlmgelmloddfgaaGreat.Eng
namespace Go.Proofs.YtlmgelmloddfgaaGreat
open Go Eng
def ty3:TyI:=⟨.int .i64,1,8,[.int .i64 0]⟩
theorem zxD:ty3.ok Tryz.prog 3:=zfr (by kernel_rfl) (by kernel_rfl)
def ty2:TyI:=⟨.int .i64,1,8,[.int .i64 0]⟩
theorem zxE:ty2.ok Tryz.prog 2:=zfr (by kernel_rfl) (by kernel_rfl)
def ty22:TyI:=⟨.slice 5,1,24,[.slice none 0 0]⟩
theorem zww:ty22.ok Tryz.prog 22:=zbM (by kernel_rfl) (by kernel_rfl)
def ty32:TyI:=⟨.int .u64,1,8,[.int .u64 0]⟩
theorem zwr:ty32.ok Tryz.prog 32:=zfr (by kernel_rfl) (by kernel_rfl)
def ty34:TyI:=⟨.struct [(0,1),(1,1),(2,1),(3,1),(4,1),(5,1),(6,1),(7,1),(8,1),(9,1),(10,1),(11,1),(12,1),(13,1),(14,1)],15,128,[.int .i64 0,.int .u64 0,.int .i64 0,.int .i64 0,.int .i64 0,.int .i64 0,.int .i64 0,.int .i64 0,.int .i64 0,.int .i64 0,.int .i64 0,.int .i64 0,.int .i64 0,.int .i64 0,.string ⟨#[]⟩]⟩
theorem zwq:ty34.ok Tryz.prog 34:=zaV (by kernel_rfl) (by kernel_rfl)
def ty163:TyI:=⟨.struct [(0,1),(1,1),(2,1)],3,24,[.int .i64 0,.int .i64 0,.int .i64 0]⟩
theorem ztU:ty163.ok Tryz.prog 163:=zaV (by kernel_rfl) (by kernel_rfl)
def ty68:TyI:=⟨.struct [(0,1),(1,15),(16,1),(17,1),(18,1),(19,1),(20,7)],27,256,[.slice none 0 0,.int .i64 0,.int .u64 0,.int .i64 0,.int .i64 0,.int .i64 0,.int .i64 0,.int .i64 0,.int .i64 0,.int .i64 0,.int .i64 0,.int .i64 0,.int .i64 0,.int .i64 0,.int .i64 0,.string ⟨#[]⟩,.int .i64 0,.int .i64 0,.map none,.map none,.slice none 0 0,.bool false,.int .i64 0,.int .i64 0,.int .i64 0,.int .i64 0,.int .i64 0]⟩
theorem zwi:ty68.ok Tryz.prog 68:=zaV (by kernel_rfl) (by kernel_rfl)
def ty9:TyI:=⟨.str,1,16,[.string ⟨#[]⟩]⟩
theorem zxA:ty9.ok Tryz.prog 9:=zxz (by kernel_rfl) (by kernel_rfl)
def ty180:TyI:=⟨.struct [(0,1),(1,1),(2,1),(3,1),(4,1)],5,48,[.string ⟨#[]⟩,.int .i64 0,.int .i64 0,.int .i64 0,.int .i64 0]⟩
theorem ztQ:ty180.ok Tryz.prog 180:=zaV (by kernel_rfl) (by kernel_rfl)
def ty28:TyI:=⟨.int .i64,1,8,[.int .i64 0]⟩
theorem zws:ty28.ok Tryz.prog 28:=zfr (by kernel_rfl) (by kernel_rfl)
def ty27:TyI:=⟨.struct [(0,1),(1,1),(2,1),(3,1),(4,1),(5,1),(6,1)],7,72,[.slice none 0 0,.bool false,.int .i64 0,.int .i64 0,.int .i64 0,.int .i64 0,.int .i64 0]⟩
theorem zwt:ty27.ok Tryz.prog 27:=zaV (by kernel_rfl) (by kernel_rfl)
def ty175:TyI:=⟨.struct [(0,1),(1,1),(2,1),(3,1)],4,40,[.string ⟨#[]⟩,.int .i64 0,.int .i64 0,.int .i64 0]⟩
theorem ztS:ty175.ok Tryz.prog 175:=zaV (by kernel_rfl) (by kernel_rfl)
def ty23:TyI:=⟨.slice 3,1,24,[.slice none 0 0]⟩
theorem zwv:ty23.ok Tryz.prog 23:=zbM (by kernel_rfl) (by kernel_rfl)
def ty81:TyI:=⟨.struct [(0,1),(1,15),(16,1),(17,1),(18,7),(25,1),(26,1)],27,304,[.slice none 0 0,.int .i64 0,.int .u64 0,.int .i64 0,.int .i64 0,.int .i64 0,.int .i64 0,.int .i64 0,.int .i64 0,.int .i64 0,.int .i64 0,.int .i64 0,.int .i64 0,.int .i64 0,.int .i64 0,.string ⟨#[]⟩,.slice none 0 0,.slice none 0 0,.slice none 0 0,.bool false,.int .i64 0,.int .i64 0,.int .i64 0,.int .i64 0,.int .i64 0,.bool false,.slice none 0 0]⟩
theorem zwd:ty81.ok Tryz.prog 81:=zaV (by kernel_rfl) (by kernel_rfl)
def ty229:TyI:=⟨.plain,1,8,[.pointer none]⟩
theorem ztK:ty229.ok Tryz.prog 229:=zaI (by kernel_rfl) (by kernel_rfl)
def ty62:TyI:=⟨.plain,1,8,[.pointer none]⟩
theorem zwl:ty62.ok Tryz.prog 62:=zaI (by kernel_rfl) (by kernel_rfl)
def ty5:TyI:=⟨.int .u8,1,1,[.int .u8 0]⟩
theorem zxB:ty5.ok Tryz.prog 5:=zfr (by kernel_rfl) (by kernel_rfl)
def ty231:TyI:=⟨.struct [(0,1),(1,1),(2,1)],3,40,[.pointer none,.slice none 0 0,.int .i64 0]⟩
theorem ztJ:ty231.ok Tryz.prog 231:=zaV (by kernel_rfl) (by kernel_rfl)
def ty74:TyI:=⟨.plain,1,8,[.pointer none]⟩
theorem zwg:ty74.ok Tryz.prog 74:=zaI (by kernel_rfl) (by kernel_rfl)
def ty4:TyI:=⟨.bool,1,1,[.bool false]⟩
theorem zxC:ty4.ok Tryz.prog 4:=zv7 (by kernel_rfl) (by kernel_rfl)
def ty176:TyI:=⟨.slice 180,1,24,[.slice none 0 0]⟩
theorem ztR:ty176.ok Tryz.prog 176:=zbM (by kernel_rfl) (by kernel_rfl)
def ty226:TyI:=⟨.struct [(0,1),(1,1),(2,1),(3,1),(4,1)],5,40,[.int .i64 0,.bool false,.int .i64 0,.int .i64 0,.int .i64 0]⟩
theorem ztL:ty226.ok Tryz.prog 226:=zaV (by kernel_rfl) (by kernel_rfl)
def ty171:TyI:=⟨.slice 175,1,24,[.slice none 0 0]⟩
theorem ztT:ty171.ok Tryz.prog 171:=zbM (by kernel_rfl) (by kernel_rfl)
def ty161:TyI:=⟨.int .i64,1,8,[.int .i64 0]⟩
theorem ztV:ty161.ok Tryz.prog 161:=zfr (by kernel_rfl) (by kernel_rfl)
def ty25:TyI:=⟨.slice 61,1,24,[.slice none 0 0]⟩
theorem zwu:ty25.ok Tryz.prog 25:=zbM (by kernel_rfl) (by kernel_rfl)
def ty270:TyI:=⟨.struct [(0,1),(1,1),(2,1)],3,40,[.slice none 0 0,.int .i64 0,.bool false]⟩
theorem ztz:ty270.ok Tryz.prog 270:=zaV (by kernel_rfl) (by kernel_rfl)
def ty61:TyI:=⟨.struct [(0,1),(1,1),(2,1),(3,1)],4,32,[.int .i64 0,.int .i64 0,.int .u64 0,.int .u64 0]⟩
theorem zwm:ty61.ok Tryz.prog 61:=zaV (by kernel_rfl) (by kernel_rfl)
def ty267:TyI:=⟨.struct [(0,1),(1,1)],2,32,[.slice none 0 0,.int .i64 0]⟩
theorem ztB:ty267.ok Tryz.prog 267:=zaV (by kernel_rfl) (by kernel_rfl)
def ty217:TyI:=⟨.struct [(0,1),(1,1),(2,1)],3,24,[.int .i64 0,.int .i64 0,.int .u64 0]⟩
theorem ztO:ty217.ok Tryz.prog 217:=zaV (by kernel_rfl) (by kernel_rfl)
def ty91:TyI:=⟨.struct [(0,1),(1,1),(2,1)],3,24,[.int .u64 0,.int .i64 0,.bool false]⟩
theorem zv9:ty91.ok Tryz.prog 91:=zaV (by kernel_rfl) (by kernel_rfl)
def ty59:TyI:=⟨.int .i64,1,8,[.int .i64 0]⟩
theorem zwn:ty59.ok Tryz.prog 59:=zfr (by kernel_rfl) (by kernel_rfl)
def ty89:TyI:=⟨.int .i64,1,8,[.int .i64 0]⟩
theorem zwa:ty89.ok Tryz.prog 89:=zfr (by kernel_rfl) (by kernel_rfl)
def ty328:TyI:=⟨.struct [(0,1),(1,16),(17,1)],18,176,[.slice none 0 0,.int .i64 0,.int .i64 0,.int .i64 0,.int .i64 0,.int .i64 0,.int .i64 0,.int .i64 0,.int .i64 0,.int .i64 0,.int .i64 0,.int .i64 0,.int .i64 0,.int .i64 0,.int .i64 0,.int .i64 0,.int .i64 0,.slice none 0 0]⟩
theorem zth:ty328.ok Tryz.prog 328:=zaV (by kernel_rfl) (by kernel_rfl)
def ty78:TyI:=⟨.slice 83,1,24,[.slice none 0 0]⟩
theorem zwf:ty78.ok Tryz.prog 78:=zbM (by kernel_rfl) (by kernel_rfl)
def ty298:TyI:=⟨.plain,1,8,[.pointer none]⟩
theorem zto:ty298.ok Tryz.prog 298:=zaI (by kernel_rfl) (by kernel_rfl)
def ty268:TyI:=⟨.plain,1,8,[.pointer none]⟩
theorem ztA:ty268.ok Tryz.prog 268:=zaI (by kernel_rfl) (by kernel_rfl)
def ty293:TyI:=⟨.arr 288 3,288,2304,[.int .i64 0,.int .i64 0,.int .i64 0,.int .i64 0,.int .i64 0,.int .i64 0,.int .i64 0,.int .i64 0,.int .i64 0,.int .i64 0,.int .i64 0,.int .i64 0,.int .i64 0,.int .i64 0,.int .i64 0,.int .i64 0,.int .i64 0,.int .i64 0,.int .i64 0,.int .i64 0,.int .i64 0,.int .i64 0,.int .i64 0,.int .i64 0,.int .i64 0,.int .i64 0,.int .i64 0,.int .i64 0,.int .i64 0,.int .i64 0,.int .i64 0,.int .i64 0,.int .i64 0,.int .i64 0,.int .i64 0,.int .i64 0,.int .i64 0,.int .i64 0,.int .i64 0,.int .i64 0,.int .i64 0,.int .i64 0,.int .i64 0,.int .i64 0,.int .i64 0,.int .i64 0,.int .i64 0,.int .i64 0,.int .i64 0,.int .i64 0,.int .i64 0,.int .i64 0,.int .i64 0,.int .i64 0,.int .i64 0,.int .i64 0,.int .i64 0,.int .i64 0,.int .i64 0,.int .i64 0,.int .i64 0,.int .i64 0,.int .i64 0,.int .i64 0,.int .i64 0,.int .i64 0,.int .i64 0,.int .i64 0,.int .i64 0,.int .i64 0,.int .i64 0,.int .i64 0,.int .i64 0,.int .i64 0,.int .i64 0,.int .i64 0,.int .i64 0,.int .i64 0,.int .i64 0,.int .i64 0,.int .i64 0,.int .i64 0,.int .i64 0,.int .i64 0,.int .i64 0,.int .i64 0,.int .i64 0,.int .i64 0,.int .i64 0,.int .i64 0,.int .i64 0,.int .i64 0,.int .i64 0,.int .i64 0,.int .i64 0,.int .i64 0,.int .i64 0,.int .i64 0,.int .i64 0,.int .i64 0,.int .i64 0,.int .i64 0,.int .i64 0,.int .i64 0,.int .i64 0,.int .i64 0,.int .i64 0,.int .i64 0,.int .i64 0,.int .i64 0,.int .i64 0,.int .i64 0,.int .i64 0,.int .i64 0,.int .i64 0,.int .i64 0,.int .i64 0,.int .i64 0,.int .i64 0,.int .i64 0,.int .i64 0,.int .i64 0,.int .i64 0,.int .i64 0,.int .i64 0,.int .i64 0,.int .i64 0,.int .i64 0,.int .i64 0,.int .i64 0,.int .i64 0,.int .i64 0,.int .i64 0,.int .i64 0,.int .i64 0,.int .i64 0,.int .i64 0,.int .i64 0,.int .i64 0,.int .i64 0,.int .i64 0,.int .i64 0,.int .i64 0,.int .i64 0,.int .i64 0,.int .i64 0,.int .i64 0,.int .i64 0,.int .i64 0,.int .i64 0,.int .i64 0,.int .i64 0,.int .i64 0,.int .i64 0,.int .i64 0,.int .i64 0,.int .i64 0,.int .i64 0,.int .i64 0,.int .i64 0,.int .i64 0,.int .i64 0,.int .i64 0,.int .i64 0,.int .i64 0,.int .i64 0,.int .i64 0,.int .i64 0,.int .i64 0,.int .i64 0,.int .i64 0,.int .i64 0,.int .i64 0,.int .i64 0,.int .i64 0,.int .i64 0,.int .i64 0,.int .i64 0,.int .i64 0,.int .i64 0,.int .i64 0,.int .i64 0,.int .i64 0,.int .i64 0,.int .i64 0,.int .i64 0,.int .i64 0,.int .i64 0,.int .i64 0,.int .i64 0,.int .i64 0,.int .i64 0,.int .i64 0,.int .i64 0,.int .i64 0,.int .i64 0,.int .i64 0,.int .i64 0,.int .i64 0,.int .i64 0,.int .i64 0,.int .i64 0,.int .i64 0,.int .i64 0,.int .i64 0,.int .i64 0,.int .i64 0,.int .i64 0,.int .i64 0,.int .i64 0,.int .i64 0,.int .i64 0,.int .i64 0,.int .i64 0,.int .i64 0,.int .i64 0,.int .i64 0,.int .i64 0,.int .i64 0,.int .i64 0,.int .i64 0,.int .i64 0,.int .i64 0,.int .i64 0,.int .i64 0,.int .i64 0,.int .i64 0,.int .i64 0,.int .i64 0,.int .i64 0,.int .i64 0,.int .i64 0,.int .i64 0,.int .i64 0,.int .i64 0,.int .i64 0,.int .i64 0,.int .i64 0,.int .i64 0,.int .i64 0,.int .i64 0,.int .i64 0,.int .i64 0,.int .i64 0,.int .i64 0,.int .i64 0,.int .i64 0,.int .i64 0,.int .i64 0,.int .i64 0,.int .i64 0,.int .i64 0,.int .i64 0,.int .i64 0,.int .i64 0,.int .i64 0,.int .i64 0,.int .i64 0,.int .i64 0,.int .i64 0,.int .i64 0,.int .i64 0,.int .i64 0,.int .i64 0,.int .i64 0,.int .i64 0,.int .i64 0,.int .i64 0,.int .i64 0,.int .i64 0,.int .i64 0,.int .i64 0,.int .i64 0,.int .i64 0,.int .i64 0,.int .i64 0,.int .i64 0,.int .i64 0,.int .i64 0,.int .i64 0,.int .i64 0,.int .i64 0,.int .i64 0,.int .i64 0,.int .i64 0,.int .i64 0,.int .i64 0,.int .i64 0]⟩
theorem ztq:ty293.ok Tryz.prog 293:=zhd (by kernel_rfl) (by kernel_rfl)
def ty294:TyI:=⟨.arr 32 3,32,256,[.int .i64 0,.int .i64 0,.int .i64 0,.int .i64 0,.int .i64 0,.int .i64 0,.int .i64 0,.int .i64 0,.int .i64 0,.int .i64 0,.int .i64 0,.int .i64 0,.int .i64 0,.int .i64 0,.int .i64 0,.int .i64 0,.int .i64 0,.int .i64 0,.int .i64 0,.int .i64 0,.int .i64 0,.int .i64 0,.int .i64 0,.int .i64 0,.int .i64 0,.int .i64 0,.int .i64 0,.int .i64 0,.int .i64 0,.int .i64 0,.int .i64 0,.int .i64 0]⟩
theorem ztp:ty294.ok Tryz.prog 294:=zhd (by kernel_rfl) (by kernel_rfl)
def ty318:TyI:=⟨.struct [(0,1),(1,1),(2,1)],3,40,[.pointer none,.slice none 0 0,.int .i64 0]⟩
theorem ztj:ty318.ok Tryz.prog 318:=zaV (by kernel_rfl) (by kernel_rfl)
def ty302:TyI:=⟨.arr 19 3,19,152,[.int .i64 0,.int .i64 0,.int .i64 0,.int .i64 0,.int .i64 0,.int .i64 0,.int .i64 0,.int .i64 0,.int .i64 0,.int .i64 0,.int .i64 0,.int .i64 0,.int .i64 0,.int .i64 0,.int .i64 0,.int .i64 0,.int .i64 0,.int .i64 0,.int .i64 0]⟩
theorem ztn:ty302.ok Tryz.prog 302:=zhd (by kernel_rfl) (by kernel_rfl)
def ty326:TyI:=⟨.arr 16 3,16,128,[.int .i64 0,.int .i64 0,.int .i64 0,.int .i64 0,.int .i64 0,.int .i64 0,.int .i64 0,.int .i64 0,.int .i64 0,.int .i64 0,.int .i64 0,.int .i64 0,.int .i64 0,.int .i64 0,.int .i64 0,.int .i64 0]⟩
theorem zti:ty326.ok Tryz.prog 326:=zhd (by kernel_rfl) (by kernel_rfl)
def ty314:TyI:=⟨.plain,1,8,[.pointer none]⟩
theorem ztl:ty314.ok Tryz.prog 314:=zaI (by kernel_rfl) (by kernel_rfl)
def ty221:TyI:=⟨.plain,1,8,[.pointer none]⟩
theorem ztN:ty221.ok Tryz.prog 221:=zaI (by kernel_rfl) (by kernel_rfl)
def ty333:TyI:=⟨.slice 22,1,24,[.slice none 0 0]⟩
theorem ztf:ty333.ok Tryz.prog 333:=zbM (by kernel_rfl) (by kernel_rfl)
def ty65:TyI:=⟨.plain,1,8,[.map none]⟩
theorem zwk:ty65.ok Tryz.prog 65:=zaI (by kernel_rfl) (by kernel_rfl)
def ty66:TyI:=⟨.plain,1,8,[.map none]⟩
theorem zwj:ty66.ok Tryz.prog 66:=zaI (by kernel_rfl) (by kernel_rfl)
def ty316:TyI:=⟨.struct [(0,1),(1,1)],2,32,[.slice none 0 0,.int .i64 0]⟩
theorem ztk:ty316.ok Tryz.prog 316:=zaV (by kernel_rfl) (by kernel_rfl)
def ty313:TyI:=⟨.plain,1,8,[.pointer none]⟩
theorem ztm:ty313.ok Tryz.prog 313:=zaI (by kernel_rfl) (by kernel_rfl)
def ty79:TyI:=⟨.slice 2,1,24,[.slice none 0 0]⟩
theorem zwe:ty79.ok Tryz.prog 79:=zbM (by kernel_rfl) (by kernel_rfl)
def ty83:TyI:=⟨.struct [(0,1),(1,1)],2,16,[.int .i64 0,.int .i64 0]⟩
theorem zwc:ty83.ok Tryz.prog 83:=zaV (by kernel_rfl) (by kernel_rfl)
def ty136:TyI:=⟨.plain,1,8,[.nilFunc]⟩
theorem ztX:ty136.ok Tryz.prog 136:=zaI (by kernel_rfl) (by kernel_rfl)
def ty41:TyI:=⟨.plain,1,8,[.map none]⟩
theorem zwp:ty41.ok Tryz.prog 41:=zaI (by kernel_rfl) (by kernel_rfl)
def ty280:TyI:=⟨.arr 7 3,7,56,[.int .i64 0,.int .i64 0,.int .i64 0,.int .i64 0,.int .i64 0,.int .i64 0,.int .i64 0]⟩
theorem zts:ty280.ok Tryz.prog 280:=zhd (by kernel_rfl) (by kernel_rfl)
def ty263:TyI:=⟨.arr 4 262,4,32,[.nilFunc,.nilFunc,.nilFunc,.nilFunc]⟩
theorem ztC:ty263.ok Tryz.prog 263:=zhd (by kernel_rfl) (by kernel_rfl)
def ty224:TyI:=⟨.int .i64,1,8,[.int .i64 0]⟩
theorem ztM:ty224.ok Tryz.prog 224:=zfr (by kernel_rfl) (by kernel_rfl)
def ty285:TyI:=⟨.slice 226,1,24,[.slice none 0 0]⟩
theorem ztr:ty285.ok Tryz.prog 285:=zbM (by kernel_rfl) (by kernel_rfl)
def ty214:TyI:=⟨.slice 217,1,24,[.slice none 0 0]⟩
theorem ztP:ty214.ok Tryz.prog 214:=zbM (by kernel_rfl) (by kernel_rfl)
def ty259:TyI:=⟨.slice 4,1,24,[.slice none 0 0]⟩
theorem ztE:ty259.ok Tryz.prog 259:=zbM (by kernel_rfl) (by kernel_rfl)
def ty133:TyI:=⟨.plain,1,8,[.nilFunc]⟩
theorem ztY:ty133.ok Tryz.prog 133:=zaI (by kernel_rfl) (by kernel_rfl)
def ty330:TyI:=⟨.plain,1,8,[.nilFunc]⟩
theorem ztg:ty330.ok Tryz.prog 330:=zaI (by kernel_rfl) (by kernel_rfl)
def ty234:TyI:=⟨.plain,1,8,[.nilFunc]⟩
theorem ztI:ty234.ok Tryz.prog 234:=zaI (by kernel_rfl) (by kernel_rfl)
def ty236:TyI:=⟨.plain,1,8,[.nilFunc]⟩
theorem ztH:ty236.ok Tryz.prog 236:=zaI (by kernel_rfl) (by kernel_rfl)
def ty262:TyI:=⟨.plain,1,8,[.nilFunc]⟩
theorem ztD:ty262.ok Tryz.prog 262:=zaI (by kernel_rfl) (by kernel_rfl)
def ty238:TyI:=⟨.plain,1,8,[.nilFunc]⟩
theorem ztG:ty238.ok Tryz.prog 238:=zaI (by kernel_rfl) (by kernel_rfl)
def ty240:TyI:=⟨.plain,1,8,[.nilFunc]⟩
theorem ztF:ty240.ok Tryz.prog 240:=zaI (by kernel_rfl) (by kernel_rfl)
def ty277:TyI:=⟨.plain,1,8,[.nilFunc]⟩
theorem ztv:ty277.ok Tryz.prog 277:=zaI (by kernel_rfl) (by kernel_rfl)
def ty278:TyI:=⟨.plain,1,8,[.nilFunc]⟩
theorem ztu:ty278.ok Tryz.prog 278:=zaI (by kernel_rfl) (by kernel_rfl)
def ty279:TyI:=⟨.plain,1,8,[.nilFunc]⟩
theorem ztt:ty279.ok Tryz.prog 279:=zaI (by kernel_rfl) (by kernel_rfl)
def ty20:TyI:=⟨.iface,1,16,[.nilIface]⟩
theorem zwx:ty20.ok Tryz.prog 20:=ztb (by kernel_rfl) (by kernel_rfl)
def ty273:TyI:=⟨.plain,1,8,[.nilFunc]⟩
theorem zty:ty273.ok Tryz.prog 273:=zaI (by kernel_rfl) (by kernel_rfl)
def ty274:TyI:=⟨.plain,1,8,[.nilFunc]⟩
theorem ztx:ty274.ok Tryz.prog 274:=zaI (by kernel_rfl) (by kernel_rfl)
def ty275:TyI:=⟨.plain,1,8,[.nilFunc]⟩
theorem ztw:ty275.ok Tryz.prog 275:=zaI (by kernel_rfl) (by kernel_rfl)
def ty157:TyI:=⟨.plain,1,8,[.nilFunc]⟩
theorem ztW:ty157.ok Tryz.prog 157:=zaI (by kernel_rfl) (by kernel_rfl)
def ty73:TyI:=⟨.plain,1,8,[.nilFunc]⟩
theorem zwh:ty73.ok Tryz.prog 73:=zaI (by kernel_rfl) (by kernel_rfl)
def ty88:TyI:=⟨.int .u64,1,8,[.int .u64 0]⟩
theorem zwb:ty88.ok Tryz.prog 88:=zfr (by kernel_rfl) (by kernel_rfl)
def ty368:TyI:=⟨.arr 29 3,29,232,[.int .i64 0,.int .i64 0,.int .i64 0,.int .i64 0,.int .i64 0,.int .i64 0,.int .i64 0,.int .i64 0,.int .i64 0,.int .i64 0,.int .i64 0,.int .i64 0,.int .i64 0,.int .i64 0,.int .i64 0,.int .i64 0,.int .i64 0,.int .i64 0,.int .i64 0,.int .i64 0,.int .i64 0,.int .i64 0,.int .i64 0,.int .i64 0,.int .i64 0,.int .i64 0,.int .i64 0,.int .i64 0,.int .i64 0]⟩
theorem zte:ty368.ok Tryz.prog 368:=zhd (by kernel_rfl) (by kernel_rfl)
def ty370:TyI:=⟨.arr 30 3,30,240,[.int .i64 0,.int .i64 0,.int .i64 0,.int .i64 0,.int .i64 0,.int .i64 0,.int .i64 0,.int .i64 0,.int .i64 0,.int .i64 0,.int .i64 0,.int .i64 0,.int .i64 0,.int .i64 0,.int .i64 0,.int .i64 0,.int .i64 0,.int .i64 0,.int .i64 0,.int .i64 0,.int .i64 0,.int .i64 0,.int .i64 0,.int .i64 0,.int .i64 0,.int .i64 0,.int .i64 0,.int .i64 0,.int .i64 0,.int .i64 0]⟩
theorem ztd:ty370.ok Tryz.prog 370:=zhd (by kernel_rfl) (by kernel_rfl)
def ty371:TyI:=⟨.slice 32,1,24,[.slice none 0 0]⟩
theorem ztc:ty371.ok Tryz.prog 371:=zbM (by kernel_rfl) (by kernel_rfl)
def ty92:TyI:=⟨.slice 98,1,24,[.slice none 0 0]⟩
theorem zv8:ty92.ok Tryz.prog 92:=zbM (by kernel_rfl) (by kernel_rfl)
def ty46:TyI:=⟨.plain,1,8,[.pointer none]⟩
theorem zwo:ty46.ok Tryz.prog 46:=zaI (by kernel_rfl) (by kernel_rfl)
def tab:Tab:=[(3,ty3),(2,ty2),(22,ty22),(32,ty32),(34,ty34),(163,ty163),(68,ty68),(9,ty9),(180,ty180),(28,ty28),(27,ty27),(175,ty175),(23,ty23),(81,ty81),(229,ty229),(62,ty62),(5,ty5),(231,ty231),(74,ty74),(4,ty4),(176,ty176),(226,ty226),(171,ty171),(161,ty161),(25,ty25),(270,ty270),(61,ty61),(267,ty267),(217,ty217),(91,ty91),(59,ty59),(89,ty89),(328,ty328),(78,ty78),(298,ty298),(268,ty268),(293,ty293),(294,ty294),(318,ty318),(302,ty302),(326,ty326),(314,ty314),(221,ty221),(333,ty333),(65,ty65),(66,ty66),(316,ty316),(313,ty313),(79,ty79),(83,ty83),(136,ty136),(41,ty41),(280,ty280),(263,ty263),(224,ty224),(285,ty285),(214,ty214),(259,ty259),(133,ty133),(330,ty330),(234,ty234),(236,ty236),(262,ty262),(238,ty238),(240,ty240),(277,ty277),(278,ty278),(279,ty279),(20,ty20),(273,ty273),(274,ty274),(275,ty275),(157,ty157),(73,ty73),(88,ty88),(368,ty368),(370,ty370),(371,ty371),(92,ty92),(46,ty46)]
theorem zaa:TabOk Tryz.prog tab:=.cons zxD (.cons zxE (.cons zww (.cons zwr (.cons zwq (.cons ztU (.cons zwi (.cons zxA (.cons ztQ (.cons zws (.cons zwt (.cons ztS (.cons zwv (.cons zwd (.cons ztK (.cons zwl (.cons zxB (.cons ztJ (.cons zwg (.cons zxC (.cons ztR (.cons ztL (.cons ztT (.cons ztV (.cons zwu (.cons ztz (.cons zwm (.cons ztB (.cons ztO (.cons zv9 (.cons zwn (.cons zwa (.cons zth (.cons zwf (.cons zto (.cons ztA (.cons ztq (.cons ztp (.cons ztj (.cons ztn (.cons zti (.cons ztl (.cons ztN (.cons ztf (.cons zwk (.cons zwj (.cons ztk (.cons ztm (.cons zwe (.cons zwc (.cons ztX (.cons zwp (.cons zts (.cons ztC (.cons ztM (.cons ztr (.cons ztP (.cons ztE (.cons ztY (.cons ztg (.cons ztI (.cons ztH (.cons ztD (.cons ztG (.cons ztF (.cons ztv (.cons ztu (.cons ztt (.cons zwx (.cons zty (.cons ztx (.cons ztw (.cons ztW (.cons zwh (.cons zwb (.cons zte (.cons ztd (.cons ztc (.cons zv8 (.cons zwo (.nil _))))))))))))))))))))))))))))))))))))))))))))))))))))))))))))))))))))))))))))))))
end Go.Proofs.YtlmgelmloddfgaaGreat
namespace Go.Proofs.YtlmgelmloddfgaaGreat
open Go Go.RowKit Eng
noncomputable def CX (n:Nat) (wr:List Nat) (w:World):Cx:=⟨Tryz.prog,n,w,fun _=>False,tab,wr,[],[],[]⟩
noncomputable def CXS (n:Nat) (wr:List Nat) (w:World) (S:Nat→Prop):Cx:=⟨Tryz.prog,n,w,S,tab,wr,[],[],[]⟩
theorem ziJ {a:Bool} {q K:Prop} (h:(a=true→q)∧K):(a=true→q)∧K:=h
theorem zx1 {cx:Cx} {m m':Mem} {K:Prop} (h:SubM cx m m'∧K):SubM cx m m'∧K:=h
structure Ap2 (K:Option Addr→Nat→Prop):Prop where
 go:∀ A c,K A c
inductive St:Prop→Prop→Prop
 | load {cx:Cx} {m:Mem} {t:Nat} {i:TyI} {b off t':Nat} {cs:List Value} {v:Value} {K:Value→Mem→Prop} (hP:cx.P=Tryz.prog) (hT:cx.tab=tab) (hi:cx.tab.get t=some i) (hk:i.kind.flat=true) (hh:Has m (.blk b (.cells cs.toArray t'))) (hv:nth cs off=some v) :
  St (Rn cx m (Instr.loadAt t (.pointer (some ⟨b,off,none⟩))) K) (K v m)
 | ldg {cx:Cx} {m:Mem} {t:Nat} {i:TyI} {b off t':Nat} {cs:List Value} {v:Value} {g:Prop} {K:Value→Prop} (hP:cx.P=Tryz.prog) (hT:cx.tab=tab) (hi:cx.tab.get t=some i) (hk:i.kind.flat=true) (hh:Has m (.blk b (.cells cs.toArray t'))) (hv:nth cs off=some v) :
  St (∃ v,RdG cx g m (Instr.loadAt t (.pointer (some ⟨b,off,none⟩))) v∧K v) (K v)
 | store {cx:Cx} {m m':Mem} {t:Nat} {i:TyI} {b off t':Nat} {cs cs':List Value} {v:Value} {K:Mem→Prop} (hP:cx.P=Tryz.prog) (hT:cx.tab=tab) (hi:cx.tab.get t=some i) (hu:Upd m (.blk b (.cells cs.toArray t')) (.blk b (.cells cs'.toArray t')) m')
  (hl:(zaS v).length=i.cells) (h1:zfH (zaS v)=true) (hfit:Nat.ble (off+(zaS v).length) cs.length=true) (hcs:zbp off (zaS v) cs=cs'):St (RnU cx m (Instr.storeAt t (.pointer (some ⟨b,off,none⟩)) v) K) (K m')
 | pl {b o:Nat} {K:Prop}:St (Pl (some ⟨b,o,none⟩)∧K) K
 | plf {g:Prop} {b o:Nat} {K:Prop}:St ((g→Pl (some ⟨b,o,none⟩))∧K) K
 | sub {cx:Cx} {m:Mem} {K:Prop}:St (SubM cx m []∧K) K
 | same {α:Sort 1} {a:α} {K:Prop}:St (a=a∧K) K
 | never {q K:Prop}:St ((false=true→q)∧K) K
 | fsame {α:Sort 1} {g:Prop} {a:α} {K:Prop}:St ((g→a=a)∧K) K
inductive Sn:Prop→Prop→Prop
 | load {cx:Cx} {m:Mem} {t:Nat} {i:TyI} {b off t':Nat} {cs vs:List Value} {fs:List (Nat × Nat)} {K:Value→Mem→Prop} (hP:cx.P=Tryz.prog) (hT:cx.tab=tab) (hi:cx.tab.get t=some i) (hk:i.kind=.struct fs) (hh:Has m (.blk b (.cells cs.toArray t'))) (hv:zcJ i.cells (zeZ off cs)=vs) (hl:vs.length=i.cells) :
  Sn (Rn cx m (Instr.loadAt t (.pointer (some ⟨b,off,none⟩))) K) (K (.agg vs.toArray) m)
 | ldg {cx:Cx} {m:Mem} {t:Nat} {i:TyI} {b off t':Nat} {cs vs:List Value} {fs:List (Nat × Nat)} {g:Prop} {K:Value→Prop} (hP:cx.P=Tryz.prog) (hT:cx.tab=tab) (hi:cx.tab.get t=some i) (hk:i.kind=.struct fs) (hh:Has m (.blk b (.cells cs.toArray t'))) (hv:zcJ i.cells (zeZ off cs)=vs) (hl:vs.length=i.cells) :
  Sn (∃ v,RdG cx g m (Instr.loadAt t (.pointer (some ⟨b,off,none⟩))) v∧K v) (K (.agg vs.toArray))
inductive So:Prop→Prop→Prop→Prop
 | fits {n:Int} {K:Prop}:So (-9223372036854775808≤n∧n≤9223372036854775807) (Fits .i64 n∧K) K
 | fitsU {n:Int} {K:Prop}:So (0≤n∧n≤18446744073709551615) (Fits .u64 n∧K) K
 | fits8 {n:Int} {K:Prop}:So (0≤n∧n≤255) (Fits .u8 n∧K) K
 | ix {a b c d:Int} {K:Prop}:So (a≤b∧c<d) ((a≤b∧c<d)∧K) K
 | sl {a b c d e f:Int} {K:Prop}:So (a≤b∧c≤d∧e≤f) ((a≤b∧c≤d∧e≤f)∧K) K
 | ll {a b c d:Int} {K:Prop}:So (a≤b∧c≤d) ((a≤b∧c≤d)∧K) K
 | leI {a b:Int} {K:Prop}:So (a≤b) (a≤b∧K) K
 | ltI {a b:Int} {K:Prop}:So (a<b) (a<b∧K) K
 | neI {a b:Int} {K:Prop}:So (a≠b) (a≠b∧K) K
 | eqI {a b:Int} {K:Prop}:So (a=b) (a=b∧K) K
 | eqN {a b:Nat} {K:Prop}:So (a=b) (a=b∧K) K
 | ltN {a b:Nat} {K:Prop}:So (a<b) (a<b∧K) K
 | leN {a b:Nat} {K:Prop}:So (a≤b) (a≤b∧K) K
 | imp {P q K:Prop} {d:Decidable P}:So (P→q) ((@decide P d=true→q)∧K) K
 | impf {P q K:Prop} {d:Decidable P}:So (¬ P→q) ((@decide P d=false→q)∧K) K
 | app {cx:Cx} {m m':Mem} {t e ty:Nat} {i ti:TyI} {A:Option Addr} {cap n size b k c t':Nat} {xs news:List Value} {K:Value→Mem→Prop} (hP:cx.P=Tryz.prog) (hT:cx.tab=tab)
  (hi:cx.tab.get t=some i) (hk:i.kind=.slice e) (hti:cx.tab.get e=some ti) (hz:ti.zero.length=ti.cells) (hs:ti.cells=size) (hp:(Nat.ble 1 ti.cells&&Nat.ble ti.bytes 4096)=true)
  (hu:Out m (.row A cap n e size xs) m') (hnews:Has m (.blk b (.cells news.toArray t'))) (hl:news.length=k*size) (h1:zfH news=true) :
  So (n+k≤34359738368) (Rn cx m (Builtin.append_ #[t,t] ty #[.slice A n cap,.slice (some ⟨b,0,none⟩) k c]) K) (Ap2 fun A' cap'=>K (.slice A' (n+k) cap') (.row A' cap' (n+k) e size (xs++news)::m'))
theorem zjr {cx:Cx} (hP:cx.P=Tryz.prog) (hT:cx.tab=tab):TabOk cx.P cx.tab:=by rw [hP,hT];exact zaa
theorem stp {p q:Prop} (s:St p q) (h:q):p:=by
 cases s with
 | load hP hT hi hk hh hv=>exact zai (ld1 (zjr hP hT) hh hi hk hv) h
 | ldg hP hT hi hk hh hv=>exact⟨_,Ld.g (ld1 (zjr hP hT) hh hi hk hv),h⟩
 | store hP hT hi hu hl h1 hfit hcs=>exact zaO (zjr hP hT) hi hu hl h1 hfit hcs h
 | pl=>exact⟨Pl.mk _ _,h⟩
 | plf=>exact⟨fun _=>Pl.mk _ _,h⟩
 | sub=>exact⟨SubM.sub (List.nil_sublist _),h⟩
 | same=>exact⟨rfl,h⟩
 | never=>exact⟨fun h=>absurd h (by decide),h⟩
 | fsame=>exact⟨fun _=>rfl,h⟩
theorem stn {p q:Prop} (s:Sn p q) (h:q):p:=by
 cases s with
 | load hP hT hi hk hh hv hl=>exact zai (ldN (zjr hP hT) hh hi hk hv hl) h
 | ldg hP hT hi hk hh hv hl=>exact⟨_,Ld.g (ldN (zjr hP hT) hh hi hk hv hl),h⟩
theorem sto {o p q:Prop} (s:So o p q) (ho:o) (h:q):p:=by
 cases s with
 | fits=>exact⟨zaB ho,h⟩
 | fitsU=>exact⟨zbr ho,h⟩
 | fits8=>exact⟨zw6 ho,h⟩
 | ix=>exact⟨ho,h⟩
 | sl=>exact⟨ho,h⟩
 | ll=>exact⟨ho,h⟩
 | leI=>exact⟨ho,h⟩
 | ltI=>exact⟨ho,h⟩
 | leN=>exact⟨ho,h⟩
 | neI=>exact⟨ho,h⟩
 | eqI=>exact⟨ho,h⟩
 | eqN=>exact⟨ho,h⟩
 | ltN=>exact⟨ho,h⟩
 | imp=>exact⟨fun e=>ho (of_decide_eq_true e),h⟩
 | impf=>exact⟨fun e=>ho (of_decide_eq_false e),h⟩
 | app hP hT hi hk hti hz hs hp hu hnews hl h1=>exact zvD (zjr hP hT) hi hk hti hz hs hp hu hl (zuN hnews) h1 ho h.go
end Go.Proofs.YtlmgelmloddfgaaGreat
namespace Go.Proofs.YtlmgelmloddfgaaGreat
open Go Go.RowKit Eng
structure Hold (q:Prop):Prop where
 go:q
theorem gG0 {p q:Prop} (k:q) (h:Hold q→p:=by intro k;(repeat ((first|refine stp (by (repeat constructor);first|done|fail) ?_|refine stn (by (repeat constructor);first|done|fail) ?_|refine sto (by (repeat constructor);first|done|fail) (by first|omega|(simp only;omega)|decide) ?_|(refine ziJ (And.intro (fun hg=>?_) ?_);focus (simp only [Bool.and_eq_true,Bool.or_eq_true,Bool.not_eq_true',decide_eq_true_eq,decide_eq_false_iff_not] at hg;first|omega|exact zaB (by omega)|exact zbr (by omega)|assumption))|refine⟨?_,trivial⟩);conv=>whnf));exact k.go):p:=h ⟨k⟩
theorem gG1 {p q:Prop} (k:q) (h:Hold q→p:=by intro k;(first|refine stp (by (repeat constructor);first|done|fail) ?_|refine stn (by (repeat constructor);first|done|fail) ?_|refine sto (by (repeat constructor);first|done|fail) (by first|omega|(simp only;omega)|decide) ?_|(refine ziJ (And.intro (fun hg=>?_) ?_);focus (simp only [Bool.and_eq_true,Bool.or_eq_true,Bool.not_eq_true',decide_eq_true_eq,decide_eq_false_iff_not] at hg;first|omega|exact zaB (by omega)|exact zbr (by omega)|assumption))|refine⟨?_,trivial⟩);exact k.go):p:=h ⟨k⟩
theorem gGs {cx:Cx} {m m':Mem} {K:Prop} (k:K) (h:SubM cx m m':=by exact SubM.sl):SubM cx m m'∧K:=⟨h,k⟩
theorem gGw {p q:Prop} (k:q) (h:Hold q→p:=by intro k;(conv=>whnf);(repeat ((first|refine stp (by (repeat constructor);first|done|fail) ?_|refine stn (by (repeat constructor);first|done|fail) ?_|refine sto (by (repeat constructor);first|done|fail) (by first|omega|(simp only;omega)|decide) ?_|(refine ziJ (And.intro (fun hg=>?_) ?_);focus (simp only [Bool.and_eq_true,Bool.or_eq_true,Bool.not_eq_true',decide_eq_true_eq,decide_eq_false_iff_not] at hg;first|omega|exact zaB (by omega)|exact zbr (by omega)|assumption))|refine⟨?_,trivial⟩);conv=>whnf));exact k.go):p:=h ⟨k⟩
theorem gGS {p q:Prop} (k:q) (h:Hold q→p:=by intro k;(repeat ((first|refine zx1 (And.intro (SubM.sel (by (repeat constructor);first|done|fail)) ?_)|refine stp (by (repeat constructor);first|done|fail) ?_|refine stn (by (repeat constructor);first|done|fail) ?_|refine sto (by (repeat constructor);first|done|fail) (by first|omega|(simp only;omega)|decide) ?_|(refine ziJ (And.intro (fun hg=>?_) ?_);focus (simp only [Bool.and_eq_true,Bool.or_eq_true,Bool.not_eq_true',decide_eq_true_eq,decide_eq_false_iff_not] at hg;first|omega|exact zaB (by omega)|exact zbr (by omega)|assumption))|refine⟨?_,trivial⟩);conv=>whnf));exact k.go):p:=h ⟨k⟩
theorem gGt {p q:Prop} (k:q) (h:Hold q→p:=by intro k;(conv=>whnf);(repeat ((first|refine zx1 (And.intro (SubM.sel (by (repeat constructor);first|done|fail)) ?_)|refine stp (by (repeat constructor);first|done|fail) ?_|refine stn (by (repeat constructor);first|done|fail) ?_|refine sto (by (repeat constructor);first|done|fail) (by first|omega|(simp only;omega)|decide) ?_|(refine ziJ (And.intro (fun hg=>?_) ?_);focus (simp only [Bool.and_eq_true,Bool.or_eq_true,Bool.not_eq_true',decide_eq_true_eq,decide_eq_false_iff_not] at hg;first|omega|exact zaB (by omega)|exact zbr (by omega)|assumption))|refine⟨?_,trivial⟩);conv=>whnf));exact k.go):p:=h ⟨k⟩
namespace Eng
theorem SubM.sl {cx:Cx} {m m1 r:Mem} (hs:Sel m m1 r:=by repeat constructor):SubM cx m m1:=SubM.sel hs
theorem MemOk.sl {w0 w:World} {S:Nat→Prop} {m m1 r:Mem} (h:MemOk w0 S m w) (hs:Sel m m1 r:=by repeat constructor):MemOk w0 S m1 w:=h.sel hs
end Eng
end Go.Proofs.YtlmgelmloddfgaaGreat
namespace Go.Proofs.YtlmgelmloddfgaaGreat.Eng
open Go Go.RowKit
open Go.ChangeMaps (setBlock)
theorem Fr.putObj (w:World) (l:Nat) (o:Obj):Fr (·=l) w (w.putObj l o):=⟨rfl,rfl,rfl,by simp,fun k _ hk=>World.putObj_heap_other hk⟩
theorem zdE {w0 w:World} {S:Nat→Prop} {m m':Mem} {b:Nat} {o o':Obj} (hm:MemOk w0 S m w) (hu:Upd m (.blk b o) (.blk b o') m'):MemOk w0 S m' (w.putObj b o'):=by
 obtain ⟨rest,hp,_⟩:=hu.perm
 have hb:w.heap[b]?=some o:=hm.ok _ (hp.mem_iff.2 (List.mem_cons_self ..))
 exact ziv hm hu (Fr.putObj w b o') (World.putObj_heap_same (Array.getElem?_eq_some_iff.1 hb).1)
variable {K V:Type} [DecidableEq K]
/-! ## Lists of pairs -/
abbrev keys (l:List (K × V)):List K:=l.map Prod.fst
def mget:List (K × V)→K→Option V
 | [],_=>none
 | p::r,k=>if p.1=k then some p.2 else mget r k
def mset:List (K × V)→K→V→List (K × V)
 | [],k,v=>[(k,v)]
 | p::r,k,v=>if p.1=k then (k,v)::r else p::mset r k v
theorem zgo {l:List (K × V)} {k:K} (h:k ∉ keys l):mget l k=none:=by
 induction l with
 | nil=>rfl
 | cons p r ih =>
  simp only [keys,List.map_cons,List.mem_cons,not_or] at h
  rw [mget,if_neg (fun e=>h.1 e.symm)]
  exact ih h.2
theorem znh {l:List (K × V)} {k:K} {v:V} {j:Nat} (hn:(keys l).Nodup) (h:l[j]?=some (k,v)):mget l k=some v:=by
 induction l generalizing j with
 | nil=>simp at h
 | cons p r ih =>
  simp only [keys,List.map_cons,List.nodup_cons] at hn
  cases j with
  | zero =>
   simp only [List.getElem?_cons_zero,Option.some.injEq] at h
   rw [h,mget,if_pos rfl]
  | succ j =>
   rw [List.getElem?_cons_succ] at h
   have hk:k∈r.map Prod.fst:=List.mem_map.2 ⟨(k,v),List.mem_of_getElem? h,rfl⟩
   rw [mget,if_neg (fun e=>hn.1 (by rw [e];exact hk))]
   exact ih hn.2 h
theorem zgm {l:List (K × V)} {k:K} {v:V} (h:k ∉ keys l):mset l k v=l++[(k,v)]:=by
 induction l with
 | nil=>rfl
 | cons p r ih =>
  simp only [keys,List.map_cons,List.mem_cons,not_or] at h
  rw [mset,if_neg (fun e=>h.1 e.symm),ih h.2];rfl
theorem zkH {l:List (K × V)} {k:K} {u v:V} {j:Nat} (hn:(keys l).Nodup) (h:l[j]?=some (k,u)):mset l k v=l.set j (k,v):=by
 induction l generalizing j with
 | nil=>simp at h
 | cons p r ih =>
  simp only [keys,List.map_cons,List.nodup_cons] at hn
  cases j with
  | zero =>
   simp only [List.getElem?_cons_zero,Option.some.injEq] at h
   rw [h,mset,if_pos rfl];rfl
  | succ j =>
   rw [List.getElem?_cons_succ] at h
   have hk:k∈r.map Prod.fst:=List.mem_map.2 ⟨(k,u),List.mem_of_getElem? h,rfl⟩
   rw [mset,if_neg (fun e=>hn.1 (by rw [e];exact hk)),ih hn.2 h];rfl
theorem zgn (l:List (K × V)) (k:K) (v:V):keys (mset l k v)=if k∈keys l then keys l else keys l++[k]:=by
 induction l with
 | nil=>rfl
 | cons p r ih =>
  rw [mset]
  by_cases h:p.1=k
  ·rw [if_pos h]
   show k::keys r=if k∈p.1::keys r then p.1::keys r else p.1::keys r++[k]
   rw [if_pos (by rw [h];exact List.mem_cons_self ..),h]
  ·rw [if_neg h]
   show p.1::keys (mset r k v)=if k∈p.1::keys r then p.1::keys r else p.1::keys r++[k]
   rw [ih]
   by_cases hk:k∈keys r
   ·rw [if_pos hk,if_pos (List.mem_cons_of_mem _ hk)]
   ·rw [if_neg hk,if_neg (fun hm=>(List.mem_cons.1 hm).elim (fun e=>h e.symm) hk)];rfl
theorem zbx (l:List (K × V)) (k:K) (v:V) (x:K):mget (mset l k v) x=if k=x then some v else mget l x:=by
 induction l with
 | nil=>simp [mset,mget]
 | cons p r ih =>
  rw [mset]
  by_cases h:p.1=k
  ·rw [if_pos h]
   simp only [mget,h]
   split<;>rfl
  ·rw [if_neg h]
   simp only [mget,ih]
   by_cases hx:p.1=x
   ·rw [if_pos hx,if_neg (fun e=>h (hx.trans e.symm)),if_pos hx]
   ·rw [if_neg hx,if_neg hx]
theorem zax (l:List (K × V)) (k:K) (u v:V):mset (mset l k u) k v=mset l k v:=by
 induction l with
 | nil=>simp [mset]
 | cons p r ih =>
  rw [mset]
  by_cases h:p.1=k
  ·rw [if_pos h,mset,if_pos rfl,mset,if_pos h]
  ·rw [if_neg h,mset,if_neg h,ih,mset,if_neg h]
/-! ## Keys of a type -/
structure KeyT (P:Program) (kt:Nat) (enc:K→Value):Prop where
 check:∀ (w:World) (em:Bool) (k:K),(Instr.checkKey em 10000 kt (enc k)).run P w=.ok () w
 find:∀ (w:World) (x:K) (es:List MapEntry) (ks:List K),es.map (·.key)=ks.map enc →
  ((Instr.findKey kt (enc x) es).run P w=.ok none w∧x ∉ ks)∨∃ j e,(Instr.findKey kt (enc x) es).run P w=.ok (some (j,e.val)) w∧es[j]?=some e∧ks[j]?=some x
 stays:∀ (w:World) (k:K),(Instr.keyThatStays (enc k) (enc k)).run P w=.ok (enc k) w
theorem zeX {P:Program} {kt:Nat} {enc:K→Value} (heq:∀ w a b,(Op.equal kt (enc a) (enc b)).run P w=.ok (decide (a=b)) w) (w:World) (x:K):∀ (es:List MapEntry) (ks:List K) (i:Nat),es.map (·.key)=ks.map enc →
  ((Instr.findAsking kt (enc x) es i).run P w=.ok none w∧x ∉ ks)∨∃ j e,(Instr.findAsking kt (enc x) es i).run P w=.ok (some (i+j,e.val)) w∧es[j]?=some e∧ks[j]?=some x
 | [],[],_,_=>.inl ⟨rfl,by simp⟩
 | e::es,k::ks,i,h=>by
  simp only [List.map_cons,List.cons.injEq] at h
  have hq:=heq w x k
  by_cases hx:x=k
  ·refine .inr ⟨0,e,?_,rfl,by simp [hx]⟩
   rw [decide_eq_true hx] at hq
   simp [Instr.findAsking,h.1,hq]
  ·rw [decide_eq_false hx] at hq
   have hr:(Instr.findAsking kt (enc x) (e::es) i).run P w=(Instr.findAsking kt (enc x) es (i+1)).run P w:=by
    conv=>lhs;unfold Instr.findAsking
    simp [h.1,hq]
   rcases zeX heq w x es ks (i+1) h.2 with ⟨h1,h2⟩|⟨j,e',h1,h2,h3⟩
   ·exact .inl ⟨hr.trans h1,by simp [hx,h2]⟩
   ·exact .inr ⟨j+1,e',by rw [hr,h1,show i+1+j=i+(j+1) by omega],by simpa using h2,by simpa using h3⟩
 | [],_::_,_,h=>by simp at h
 | _::_,[],_,h=>by simp at h
theorem KeyT.of_eq {P:Program} {kt:Nat} {enc:K→Value} {d:TypeDesc} (hd:P.underlying kt=some d) (hno:∀ x y,Instr.sameNow d (enc x) y=none) (heq:∀ w a b,(Op.equal kt (enc a) (enc b)).run P w=.ok (decide (a=b)) w)
  (hc:∀ (w:World) (em:Bool) (k:K),(Instr.checkKey em 10000 kt (enc k)).run P w=.ok () w) (hs:∀ k,Instr.sameBits 10000 (enc k) (enc k)=true):KeyT P kt enc:=by
 refine⟨hc,fun w x es ks h=>?_,fun w k=>by simp [Instr.keyThatStays,hs]⟩
 cases es with
 | nil =>
  cases ks with
  | nil=>exact .inl ⟨by simp [Instr.findKey,run_underlying hd,Instr.findNow],by simp⟩
  | cons k ks=>simp at h
 | cons e es =>
  have hf:(Instr.findKey kt (enc x) (e::es)).run P w=(Instr.findAsking kt (enc x) (e::es)).run P w:=by
   simp [Instr.findKey,run_underlying hd,Instr.findNow,hno]
  rw [hf]
  have:=zeX heq w x (e::es) ks 0 h
  simpa only [Nat.zero_add] using this
theorem KeyT.of_int {P:Program} {kt:Nat} {q:IntKind} (hd:P.underlying kt=some (.int q)):KeyT P kt (Value.int q):=by
 have hk:∀ a,MapKept.IsKey (.int q) (.int q a):=fun a=>by simp [MapKept.IsKey]
 refine⟨fun w em k=>MapKept.run_checkKey hd (hk k) em 9999,fun w x es ks h=>?_,fun w k=>MapKept.run_keyThatStays (hk k)⟩
 have hks:∀ e∈es,MapKept.IsKey (.int q) e.key:=fun e he=>by
  have:e.key∈ks.map (Value.int q):=by rw [← h];exact List.mem_map.2 ⟨e,he,rfl⟩
  obtain ⟨k,_,hk'⟩:=List.mem_map.1 this
  rw [← hk'];exact hk k
 have hat:∀ (j:Nat) (e:MapEntry),es[j]?=some e→∃ k,ks[j]?=some k∧e.key=.int q k:=fun j e he=>by
  have:=congrArg (·[j]?) h
  simp only [List.getElem?_map,he,Option.map_some] at this
  cases hj:ks[j]? with
  | none=>rw [hj] at this;simp at this
  | some k=>rw [hj] at this;simp at this;exact⟨k,rfl,this⟩
 rcases MapKept.findNow_spec (hk x) es 0 hks with ⟨h1,h2⟩|⟨j,e,h1,h2,h3⟩
 ·refine .inl ⟨by simp [Instr.findKey,run_underlying hd,h1],fun hx=>?_⟩
  obtain ⟨j,hj,hj2⟩:=List.mem_iff_getElem.1 hx
  have hlen:es.length=ks.length:=by simpa using congrArg List.length h
  obtain ⟨k,hk1,hk2⟩:=hat j es[j] (List.getElem?_eq_getElem (by omega))
  rw [List.getElem?_eq_getElem hj,hj2] at hk1
  cases hk1
  exact h2 _ (List.getElem_mem _) hk2
 ·obtain ⟨k,hk1,hk2⟩:=hat j e h2
  rw [hk2] at h3
  cases h3
  exact .inr ⟨j,e,by simp [Instr.findKey,run_underlying hd,h1],h2,hk1⟩
/-! ## A map's block -/
structure MapIs (enc:K→Value) (encV:V→Value) (es:Array MapEntry) (clock:Nat) (l:List (K × V)):Prop where
 kv:es.toList.map (fun e=>(e.key,e.val))=l.map fun p=>(enc p.1,encV p.2)
 born:∀ e∈es.toList,e.born<clock
 nodup:(es.toList.map (·.born)).Nodup
 keys:(keys l).Nodup
section
variable {enc:K→Value} {encV:V→Value} {es:Array MapEntry} {clock:Nat} {l:List (K × V)}
theorem MapIs.nil (enc:K→Value) (encV:V→Value):MapIs enc encV #[] 0 []:=⟨rfl,by simp,by simp,by simp [Eng.keys]⟩
theorem MapIs.ks (h:MapIs enc encV es clock l):es.toList.map (·.key)=(Eng.keys l).map enc:=by
 have:=congrArg (List.map Prod.fst) h.kv
 simpa [Eng.keys,Function.comp_def] using this
theorem MapIs.len (h:MapIs enc encV es clock l):es.size=l.length:=by
 have:=congrArg List.length h.kv
 simpa using this
theorem MapIs.val (h:MapIs enc encV es clock l) {j:Nat} {e:MapEntry} {k:K} (he:es.toList[j]?=some e) (hk:(Eng.keys l)[j]?=some k):∃ v,l[j]?=some (k,v)∧e.val=encV v∧e.key=enc k:=by
 have:=congrArg (·[j]?) h.kv
 simp only [List.getElem?_map,he,Option.map_some] at this
 simp only [Eng.keys,List.getElem?_map] at hk
 cases hj:l[j]? with
 | none=>rw [hj] at hk;simp at hk
 | some p =>
  rw [hj] at hk this
  simp only [Option.map_some,Option.some.injEq,Prod.mk.injEq] at hk this
  subst hk
  exact⟨p.2,rfl,this.2,this.1⟩
theorem MapIs.push (h:MapIs enc encV es clock l) {k:K} (hk:k ∉ Eng.keys l) (v:V):MapIs enc encV (es.push { key:=enc k,val:=encV v,born:=clock }) (clock+1) (l++[(k,v)]):=by
 refine⟨by simp [h.kv],fun e he=>?_,?_,?_⟩
 ·simp only [Array.toList_push,List.mem_append,List.mem_singleton] at he
  rcases he with he|rfl
  ·exact Nat.lt_succ_of_lt (h.born e he)
  ·exact Nat.lt_succ_self _
 ·simp only [Array.toList_push,List.map_append,List.map_cons,List.map_nil]
  rw [List.nodup_append]
  refine⟨h.nodup,by simp,fun a ha b hb e=>?_⟩
  obtain ⟨x,hx,rfl⟩:=List.mem_map.1 ha
  have:=h.born x hx
  rw [List.mem_singleton.1 hb] at e
  omega
 ·simp only [Eng.keys,List.map_append,List.map_cons,List.map_nil]
  rw [List.nodup_append]
  exact⟨h.keys,by simp,fun a ha b hb e=>hk (by rw [List.mem_singleton.1 hb] at e;rw [← e];exact ha)⟩
theorem MapIs.modify (h:MapIs enc encV es clock l) {j:Nat} {k:K} {u:V} (hj:l[j]?=some (k,u)) (v:V) {f:MapEntry→MapEntry} (hf:∀ e,es.toList[j]?=some e→f e={ e with key:=enc k,val:=encV v }):MapIs enc encV (es.modify j f) clock (l.set j (k,v)):=by
 have hjl:j<l.length:=(List.getElem?_eq_some_iff.1 hj).1
 have hje:j<es.toList.length:=by rw [Array.length_toList,h.len];exact hjl
 have he:=List.getElem?_eq_getElem hje
 have hm:(es.modify j f).toList=es.toList.set j { es.toList[j] with key:=enc k,val:=encV v }:=by
  rw [Array.toList_modify,List.modify_eq_set,he,Option.getD_some,hf _ he]
 have hb:(es.modify j f).toList.map (·.born)=es.toList.map (·.born):=by
  rw [hm,List.map_set]
  have e1:(es.toList[j]).born=(es.toList.map (·.born))[j]'(by rw [List.length_map];exact hje):=by rw [List.getElem_map]
  show (es.toList.map (·.born)).set j (es.toList[j]).born=_
  rw [e1,List.set_getElem_self]
 refine⟨?_,fun e hme=>?_,by rw [hb];exact h.nodup,?_⟩
 ·rw [hm,List.map_set,h.kv,List.map_set]
 ·have:e.born∈(es.modify j f).toList.map (·.born):=List.mem_map.2 ⟨e,hme,rfl⟩
  rw [hb] at this
  obtain ⟨e',he',e2⟩:=List.mem_map.1 this
  rw [← e2]
  exact h.born e' he'
 ·have:Eng.keys (l.set j (k,v))=Eng.keys l:=by
   show (l.set j (k,v)).map Prod.fst=l.map Prod.fst
   rw [List.map_set]
   have e1:k=(l.map Prod.fst)[j]'(by rw [List.length_map];exact hjl):=by rw [List.getElem_map,(List.getElem?_eq_some_iff.1 hj).2]
   show (l.map Prod.fst).set j k=_
   rw [e1,List.set_getElem_self]
  rw [this];exact h.keys
/-! ## rules -/
variable {cx:Cx} {kt t et:Nat} {m m':Mem} {b:Nat}
theorem zaC (hK:KeyT cx.P kt enc) (ht:cx.P.underlying t=some (.map kt et)) (zv:V) (hz:∀ w,(zeroValue et).run cx.P w=.ok (encV zv) w) (hh:Has m (.blk b (.map es clock))) (hM:MapIs enc encV es clock l) (x:K) {ok:Bool} {KK:Value→Mem→Prop}
  (hk:KK (if ok then .tuple #[encV ((mget l x).getD zv),.bool (mget l x).isSome] else encV ((mget l x).getD zv)) m):Rn cx m (Instr.lookup t (.map (some b)) (enc x) ok) KK:=by
 unfold Rn
 intro w hm
 have hb:=hm.ok _ hh.mem
 refine⟨_,w,m,?_,hm,hk⟩
 rcases hK.find w x es.toList (Eng.keys l) hM.ks with ⟨h1,h2⟩|⟨j,e,h1,h2,h3⟩
 ·rw [zgo h2]
  simp only [Instr.lookup,Sem.run_bind,run_underlying ht,Result.andThen_ok,MapKept.run_getObj_map hb,Sem.run_pure,hK.check,h1,hz,Option.getD_none,Option.isSome_none]
 ·obtain ⟨v,hv,he,_⟩:=hM.val h2 h3
  rw [znh hM.keys hv]
  simp only [Instr.lookup,Sem.run_bind,run_underlying ht,Result.andThen_ok,MapKept.run_getObj_map hb,Sem.run_pure,hK.check,h1,he,Option.getD_some,Option.isSome_some]
theorem zbu {P:Program} {w:World} {r:Nat} {es:Array MapEntry} {clock:Nat} (o:Obj) (hb:w.heap[r]?=some (.map es clock)):(setObj r o).run P w=.ok () (w.putObj r o):=MapKept.run_setObj_map o hb
theorem zbG (hK:KeyT cx.P kt enc) (ht:cx.P.underlying t=some (.map kt et)) (hh:Has m (.blk b (.map es clock))) (hM:MapIs enc encV es clock l) (x:K) (v:V) {KK:Mem→Prop}
  (hk:∀ es' clock',MapIs enc encV es' clock' (mset l x v)→∃ m',Upd m (.blk b (.map es clock)) (.blk b (.map es' clock')) m'∧KK m'):RnU cx m (Instr.mapUpdate t (.map (some b)) (enc x) (encV v)) KK:=by
 unfold RnU
 intro w hm
 have hb:=hm.ok _ hh.mem
 rcases hK.find w x es.toList (Eng.keys l) hM.ks with ⟨h1,h2⟩|⟨j,e,h1,h2,h3⟩
 ·obtain ⟨m',hu,hkk⟩:=hk _ _ (by rw [zgm h2];exact hM.push h2 v)
  refine⟨_,m',?_,zdE hm hu,hkk⟩
  simp only [Instr.mapUpdate,Sem.run_bind,run_underlying ht,Result.andThen_ok,MapKept.run_getObj_map hb,hK.check,h1,zbu _ hb]
 ·obtain ⟨u,hu0,he,hek⟩:=hM.val h2 h3
  have he':es[j]?=some e:=by rw [← Array.getElem?_toList];exact h2
  obtain ⟨m',hu,hkk⟩:=hk _ _ (by rw [zkH hM.keys hu0];exact hM.modify (f:=fun e=>{ e with key:=enc x,val:=encV v }) hu0 v (fun e _=>rfl))
  refine⟨_,m',?_,zdE hm hu,hkk⟩
  simp only [Instr.mapUpdate,Sem.run_bind,run_underlying ht,Result.andThen_ok,MapKept.run_getObj_map hb,hK.check,h1,he',Option.map_some,Option.getD_some,hek,hK.stays,zbu _ hb]
theorem zaL (hK:KeyT cx.P kt enc) (ht:cx.P.underlying t=some (.map kt et)) (zv:V) (hz:∀ w,(zeroValue et).run cx.P w=.ok (encV zv) w) (hh:Has m (.blk b (.map es clock))) (hM:MapIs enc encV es clock l) (x:K) {KK:Value→Mem→Prop}
  (hk:∀ (es':Array MapEntry) (clock' j s:Nat),MapIs enc encV es' clock' (mset l x ((mget l x).getD zv))→(mset l x ((mget l x).getD zv))[j]?=some (x,(mget l x).getD zv)→(es'[j]?).map (·.born)=some s→∃ m',Upd m (.blk b (.map es clock)) (.blk b (.map es' clock')) m'∧KK (.tuple #[encV ((mget l x).getD zv),.int .i64 (s:Nat)]) m') :
  Rn cx m (Instr.mapEntry t (.map (some b)) (enc x)) KK:=by
 unfold Rn
 intro w hm
 have hb:=hm.ok _ hh.mem
 rcases hK.find w x es.toList (Eng.keys l) hM.ks with ⟨h1,h2⟩|⟨j,e,h1,h2,h3⟩
 ·rw [zgo h2,Option.getD_none] at hk
  obtain ⟨m',hu,hkk⟩:=hk _ _ l.length clock (by rw [zgm h2];exact hM.push h2 zv) (by rw [zgm h2];simp) (by rw [← hM.len];simp)
  refine⟨_,_,m',?_,zdE hm hu,hkk⟩
  simp only [Instr.mapEntry,Sem.run_bind,run_underlying ht,Result.andThen_ok,MapKept.run_getObj_map hb,hK.check,h1,hz,zbu _ hb,Sem.run_pure]
  rfl
 ·obtain ⟨u,hu0,he,hek⟩:=hM.val h2 h3
  have he':es[j]?=some e:=by rw [← Array.getElem?_toList];exact h2
  rw [znh hM.keys hu0,Option.getD_some] at hk
  have hset:l.set j (x,u)=l:=by
   apply List.ext_getElem?
   intro i
   rw [List.getElem?_set]
   split
   ·rename_i hij;subst hij;split
    ·exact hu0.symm
    ·rename_i hn;exact absurd (List.getElem?_eq_some_iff.1 hu0).1 hn
   ·rfl
  obtain ⟨m',hu,hkk⟩:=hk _ _ j e.born (by rw [zkH hM.keys hu0];exact hM.modify (f:=fun e=>{ e with key:=enc x }) hu0 u (fun e' h'=>by rw [h2] at h';cases h';rw [← he])) (by rw [zkH hM.keys hu0,hset];exact hu0) (by rw [Array.getElem?_modify];simp [he'])
  refine⟨_,_,m',?_,zdE hm hu,hkk⟩
  simp only [Instr.mapEntry,Sem.run_bind,run_underlying ht,Result.andThen_ok,MapKept.run_getObj_map hb,hK.check,h1,he',Option.map_some,Option.getD_some,hek,hK.stays,zbu _ hb,he,Sem.run_pure]
  rfl
theorem zak (hh:Has m (.blk b (.map es clock))) (hM:MapIs enc encV es clock l) {j s:Nat} {x:K} {u:V} (hj:l[j]?=some (x,u)) (hs:(es[j]?).map (·.born)=some s) (v:V) {KK:Mem→Prop}
  (hk:∀ es' clock',MapIs enc encV es' clock' (mset l x v)→∃ m',Upd m (.blk b (.map es clock)) (.blk b (.map es' clock')) m'∧KK m'):RnU cx m (Instr.entryStore t (.map (some b)) (.int .i64 (s:Nat)) (encV v)) KK:=by
 unfold RnU
 intro w hm
 have hb:=hm.ok _ hh.mem
 cases he:es[j]? with
 | none=>rw [he] at hs;simp at hs
 | some e =>
  rw [he] at hs
  simp only [Option.map_some,Option.some.injEq] at hs
  subst hs
  have hel:es.toList[j]?=some e:=by rw [Array.getElem?_toList];exact he
  have hek:e.key=enc x:=by
   have:=hM.val (k:=x) hel (by simp [Eng.keys,hj])
   obtain ⟨_,_,_,h⟩:=this
   exact h
  have hidx:es.findIdx? (fun e'=>(e'.born:Int) == (e.born:Int))=some j:=by
   rw [Array.findIdx?_eq_some_iff_getElem]
   have hjs:j<es.size:=(Array.getElem?_eq_some_iff.1 he).1
   refine⟨hjs,by rw [(Array.getElem?_eq_some_iff.1 he).2];simp,fun i hi=>?_⟩
   have hne:=List.pairwise_iff_getElem.1 hM.nodup i j (by simp;omega) (by simp;omega) hi
   simp only [List.getElem_map,Array.getElem_toList] at hne
   rw [(Array.getElem?_eq_some_iff.1 he).2] at hne
   simp only [beq_iff_eq]
   omega
  obtain ⟨m',hu,hkk⟩:=hk _ _ (by rw [zkH hM.keys hj];exact hM.modify (f:=fun e=>{ e with val:=encV v }) hj v (fun e' h'=>by rw [hel] at h';cases h';rw [← hek]))
  refine⟨_,m',?_,zdE hm hu,hkk⟩
  simp only [Instr.entryStore,Sem.run_bind,MapKept.run_getObj_map hb,Result.andThen_ok,asInt,asIntOf,Sem.run_pure,hidx,zbu _ hb]
/-! ## a range over a map -/
structure ItIs (enc:K→Value) (encV:V→Value) (es:Array MapEntry) (seen:Array Nat) (rem:List (K × V)):Prop where
 kv:(leftOf es seen).toList.map (fun e=>(e.key,e.val))=rem.map fun p=>(enc p.1,encV p.2)
theorem ItIs.start (h:MapIs enc encV es clock l):ItIs enc encV es #[] l:=⟨by
 have:leftOf es #[]=es:=by simp [leftOf]
 rw [this];exact h.kv⟩
theorem ItIs.step (hn:(es.toList.map (·.born)).Nodup) {seen:Array Nat} {rem:List (K × V)} (h:ItIs enc encV es seen rem) {e:MapEntry} (he:e∈(leftOf es seen).toList) :
  ∃ j p,rem[j]?=some p∧e.key=enc p.1∧e.val=encV p.2∧ItIs enc encV es (seen.push e.born) (rem.eraseIdx j):=by
 obtain ⟨j,hj,hje⟩:=List.mem_iff_getElem.1 he
 have hlen:(leftOf es seen).toList.length=rem.length:=by simpa using congrArg List.length h.kv
 have h1:=congrArg (·[j]?) h.kv
 simp only [List.getElem?_map,List.getElem?_eq_getElem hj,hje,List.getElem?_eq_getElem (show j<rem.length by omega),Option.map_some,Option.some.injEq,Prod.mk.injEq] at h1
 refine⟨j,rem[j]'(by omega),List.getElem?_eq_getElem _,h1.1,h1.2,⟨?_⟩⟩
 have hsub:((leftOf es seen).toList.map (·.born)).Nodup:=by
  refine List.Nodup.sublist ?_ hn
  refine List.Sublist.map _ ?_
  simp only [leftOf,Array.toList_filter]
  exact List.filter_sublist
 have hl:(leftOf es (seen.push e.born)).toList=(leftOf es seen).toList.eraseIdx j:=by
  have e1:(leftOf es (seen.push e.born)).toList=(leftOf es seen).toList.filter (fun x=>!(x.born == e.born)):=by
   simp only [leftOf,Array.toList_filter,List.filter_filter]
   congr 1
   funext x
   simp only [Array.contains_push]
   cases seen.contains x.born<;>cases hxe:(x.born == e.born)<;>simp_all
  rw [e1]
  clear e1 h1 he h hn hlen
  generalize (leftOf es seen).toList=L at hj hje hsub ⊢
  induction L generalizing j with
  | nil=>simp at hj
  | cons x r ih =>
   simp only [List.map_cons,List.nodup_cons] at hsub
   cases j with
   | zero =>
    simp only [List.getElem_cons_zero] at hje
    subst hje
    simp only [List.eraseIdx_cons_zero,List.filter_cons,beq_self_eq_true,Bool.not_true,Bool.false_eq_true,if_false]
    rw [List.filter_eq_self]
    intro y hy
    have:y.born≠x.born:=fun e=>hsub.1 (List.mem_map.2 ⟨y,hy,e⟩)
    simp [this]
   | succ j =>
    simp only [List.getElem_cons_succ] at hje
    have hj':j<r.length:=by simpa using hj
    have hxe:x.born≠e.born:=fun e2=>hsub.1 (List.mem_map.2 ⟨e,by rw [← hje];exact List.getElem_mem _,e2.symm⟩)
    simp only [List.eraseIdx_cons_succ,List.filter_cons]
    rw [if_pos (by simp [hxe]),ih j hj' hje hsub.2]
 rw [hl,Go.ChangeMaps.map_eraseIdx,h.kv,Go.ChangeMaps.map_eraseIdx]
theorem zhz (ht:cx.P.underlying t=some (.map kt et)) (hh:Has m (.blk b (.map es clock))) {KK:Value→Mem→Prop}
  (hk:∀ r,KK (.pointer (some ⟨r,0,none⟩)) (.blk r (.mapIter (some b) clock #[] clock)::m)):Rn cx m (Instr.range t (.map (some b))) KK:=by
 unfold Rn
 intro w hm
 have hb:=hm.ok _ hh.mem
 refine⟨_,_,_,?_,hm.alloc (.mapIter (some b) clock #[] clock),hk _⟩
 simp only [Instr.range,Sem.run_bind,run_underlying ht,Result.andThen_ok,MapKept.run_getObj_map hb,Sem.run_pure]
 rfl
theorem zkr (ty:Nat) {r:Nat} {seen:Array Nat} {rem:List (K × V)} (hh:Has m (.blk b (.map es clock))) (hr:Has m (.blk r (.mapIter (some b) clock seen clock))) (hM:MapIs enc encV es clock l) (hI:ItIs enc encV es seen rem) {KK:Value→Mem→Prop}
  (h0:rem=[]→KK (.tuple #[.bool false]) m)
  (h1:∀ j p seen',rem[j]?=some p→ItIs enc encV es seen' (rem.eraseIdx j)→(∃ e∈es.toList,e.key=enc p.1∧e.val=encV p.2∧seen'.back?=some e.born)→∃ m',Upd m (.blk r (.mapIter (some b) clock seen clock)) (.blk r (.mapIter (some b) clock seen' clock)) m'∧KK (.tuple #[.bool true,enc p.1,encV p.2]) m') :
  Rn cx m (Instr.next (.pointer (some ⟨r,0,none⟩)) false ty) KK:=by
 unfold Rn
 intro w hm
 have hb:=hm.ok _ hh.mem
 have hrb:=hm.ok _ hr.mem
 rcases run_next_at (P:=cx.P) w ty r b clock clock seen es clock hrb hb hM.born (Nat.le_refl _) with ⟨hs,hrun⟩|⟨e,he,w1,hw1,hrun⟩
 ·refine⟨_,w,m,hrun,hm,h0 ?_⟩
  have:=congrArg List.length hI.kv
  simp only [List.length_map,Array.length_toList,hs] at this
  exact List.length_eq_zero_iff.1 this.symm
 ·obtain ⟨j,p,hj,e1,e2,hI'⟩:=hI.step hM.nodup he
  have hes:e∈es.toList:=by
   have:e∈(leftOf es seen).toList:=he
   simp only [leftOf,Array.toList_filter,List.mem_filter] at this
   exact this.1
  obtain ⟨m',hu,hkk⟩:=h1 j p _ hj hI' ⟨e,hes,e1,e2,by simp⟩
  rw [e1,e2] at hrun
  refine⟨_,_,m',hrun,?_,hkk⟩
  have hm1:MemOk cx.w0 cx.S m w1:=by
   rcases hw1 with rfl|rfl
   ·exact hm
   ·exact hm.same ⟨rfl,rfl,rfl,Nat.le_refl _,fun _ _ _=>rfl⟩
  exact zdE hm1 hu
theorem zhA {r:Nat} {seen:Array Nat} (hh:Has m (.blk b (.map es clock))) (hr:Has m (.blk r (.mapIter (some b) clock seen clock))) (hn:(es.toList.map (·.born)).Nodup) {k v:Value} (hs:∃ e∈es.toList,e.key=k∧e.val=v∧seen.back?=some e.born) {KK:Value→Mem→Prop}
  (hk:KK (.tuple #[k,v]) m):Rn cx m (Instr.entry (.pointer (some ⟨r,0,none⟩))) KK:=by
 unfold Rn
 intro w hm
 have hb:=hm.ok _ hh.mem
 have hrb:=hm.ok _ hr.mem
 obtain ⟨e,he,rfl,rfl,hs⟩:=hs
 obtain ⟨s0,hs0⟩:∃ s0:Array Nat,seen=s0.push e.born:=by
  rw [Array.back?_eq_some_iff] at hs
  obtain ⟨s0,h⟩:=hs
  exact⟨s0,h⟩
 rw [hs0] at hrb
 exact⟨_,w,m,run_entry_at w r b clock s0 es clock e hrb hb he hn,hm,hk⟩
end
end Go.Proofs.YtlmgelmloddfgaaGreat.Eng
namespace Go.Proofs.YtlmgelmloddfgaaGreat.Eng
open Go Go.RowKit
abbrev wr (r:Option Nat):Fence:={ Fence.wide with round:=r }
theorem zqs {r:Option Nat} {n:Nat} {P:Program} {f:FuncId} {args:Array Value} {w:World} {R:Ending→World→Prop} (h:Calls P f args w R):CallsIn (wr r) n P f args w R:=(callsIn_wide (n:=n)).2 h
theorem zxN {r:Option Nat} {n:Nat} {P:Program} {o:Oper} {a:Act} {w:World} {next next':Act→World→Prop} {Q:Exit→Act→World→Prop} (hd:∀ c,o.op≠.defer c) (hn:∀ a w,next a w→next' a w) (h:o.wp P a w next Q):o.wpIn (wr r) n P a w next' Q:=by
 refine⟨fun _ _=>trivial,?_⟩
 rw [show (wr r).round=r from rfl,Oper.semAt_eq _ _ _ hd]
 unfold Oper.wp at h
 generalize (execOp a.eval o).run P w=x at h ⊢
 cases x with
 | ok v w' =>
  cases v with
  | value v=>exact hn _ _ h
  | skip=>exact hn _ _ h
  | defer d=>exact hn _ _ h
  | enter f args =>
   refine⟨fun hx=>(by cases hx),zqs (Calls.mono h fun e w'' he=>?_)⟩
   cases e with
   | returned v=>exact hn _ _ he
   | panicked ch=>exact he
   | outgrown=>exact he
  | row row args=>exact⟨fun hx=>(by cases hx),fun c cs _=>let ⟨v,w',r,s⟩:=h c cs;⟨v,w',hn _ _ r,stepsIn_wide.2 s⟩⟩
  | _=>exact h.elim
 | halt hl w' =>
  cases hl with
  | panic v=>exact h
  | _=>exact h.elim
def zpQ:List Oper→Bool
 | []=>true
 | o::r=>match o.op with
  | .defer _=>false
  | _=>zpQ r
theorem zpP {o:Oper} {r:List Oper} (h:zpQ (o::r)=true):(∀ c,o.op≠.defer c)∧zpQ r=true:=by
 unfold zpQ at h
 split at h
 ·cases h
 ·rename_i hh
  exact⟨fun c e=>hh c e,h⟩
theorem znl {r:Option Nat} {n:Nat} {P:Program} {ops:Array Oper} {Q:Exit→Act→World→Prop} (hQ:∀ a w,¬ Q .outgrown a w):∀ (l:List Oper) (a:Act) (w:World),zpQ l=true→wpList P ops Q l a w→wpListIn (wr r) n P ops Q l a w
 | [],a,w,_,h=>h
 | o::rest,a,w,hd,h=>by
  obtain ⟨hd1,hd2⟩:=zpP hd
  unfold wpList at h
  unfold wpListIn
  split at h
  ·rename_i hw
   rw [if_pos hw]
   rcases h with h|⟨_,a',w',h⟩
   ·exact zxN hd1 (fun a w h=>znl hQ rest a w hd2 h) h
   ·exact absurd h (hQ _ _)
  ·rename_i hw
   rw [if_neg hw]
   exact⟨fun _ _=>trivial,znl hQ rest _ _ hd2 h⟩
theorem zrz {cx:Cx} (ht:TabOk cx.P cx.tab) {r:Option Nat} {n id:Nat} {ops:Array Oper} {k:KK} {e:Env} {m:Mem} {a:Act} {w:World} (hk:∀ e m,¬ k .outgrown e m) (hnd:zpQ ops.toList=true) (he:EnvOk cx.n cx.df e a) (hm:MemOk cx.w0 cx.S m w) (h:XC cx (.region id ops false) k e m) :
  (Code.region id ops false).wpIn (wr r) n cx.P (Qk cx k) a w:=by
 refine wpIn_region_list (znl (fun a w ⟨e,m,_,_,h⟩=>hk e m h) _ _ _ hnd ?_)
 have h:(match zbD cx.n ops.toList with
   | true=>XL cx ops k ops.toList none [] e m
   | false=>False):=h
 split at h
 ·rename_i hds
  exact zs0 ht _ _ _ _ _ _ _ hds he hm ScOk.none_ (KnOk.nil _) h
 ·exact h.elim
theorem zhp {cx:Cx} (ht:TabOk cx.P cx.tab) {x y:Code} {Q:Exit→Act→World→Prop} {e:Env} {m:Mem} {a:Act} {w:World} (he:EnvOk cx.n cx.df e a) (hm:MemOk cx.w0 cx.S m w)
  (h:XC cx x (fun ex e m=>∀ a w,EnvOk cx.n cx.df e a→MemOk cx.w0 cx.S m w→match ex with
   | .normal=>y.wp cx.P Q a w
   | ex=>Q ex a w) e m):(Code.seq x y).wp cx.P Q a w:=by
 refine wp_seq (wp_mono (zg5 ht x _ e m a w he hm h) ?_)
 rintro ex a' w' ⟨e',m',he',hm',hk⟩
 have:=hk a' w' he' hm'
 cases ex<;>exact this
theorem cutX {γ:Type} {cx:Cx} (ht:TabOk cx.P cx.tab) {x y:Code} {k:KK} {e e':Env} {m:Mem} {m':γ→Mem}
  (h:∀ a w,EnvOk cx.n cx.df e a→MemOk cx.w0 cx.S m w→x.wp cx.P (fun ex a' w'=>ex=.normal∧EnvOk cx.n cx.df e' a'∧∃ g,MemOk cx.w0 cx.S (m' g) w') a w) (hk:∀ g,XC cx y k e' (m' g)):Cut cx x y k e m:=by
 intro a w he hm
 refine wp_seq (wp_mono (h a w he hm) ?_)
 rintro ex a' w' ⟨rfl,he',g,hm'⟩
 exact zg5 ht y k e' (m' g) a' w' he' hm' (hk g)
theorem zqc {P:Program} {n:Nat} {D:List Deferred} {e:Env} {a:Act} {w:World} (he:EnvOk n D e a) {o:Oper} {f:Operand} {args:Array Operand} {tys:Array Nat} {vs:List Value} {l fn:Nat} {tmps:Array Value} {assign body:Code} (ho:o.op=.call ⟨.value f,args,tys⟩)
  (hf:e.ev f=some (.func (.yield l) #[] #[])) (ha:Env.evs e args.toList=some vs) (hy:(Instr.yield l vs.toArray).run P w=.ok (.round l fn tmps assign body) w) :
  (execOp a.eval o).run P w=.ok (.round l fn tmps assign body) w:=by
 obtain ⟨dst,op,ty,pos,after,guard⟩:=o
 dsimp only at ho
 subst ho
 have h2:=zb0 he ha
 have h3:=he.ev hf
 simp only [execOp,resolve,h2,h3,Deferred.ofValue,Sem.run_bind,Sem.run_pure,Result.andThen_ok,invoke]
 simpa using hy
theorem zdd {cx:Cx} (ht:TabOk cx.P cx.tab) {bd:Code} {k:KK} {e:Env} {m:Mem} (h:XC cx bd (fun ex e m=>match ex with
   | .goto _=>False
   | ex=>k ex e m) e m):Oth cx (.scope bd) k e m:=by
 intro a w he hm
 refine wp_scope_straight (wp_mono (zg5 ht bd _ e m a w he hm h) ?_)
 rintro ex a' w' ⟨e',m',he',hm',hk⟩
 cases ex with
 | goto l=>exact hk.elim
 | _=>exact⟨e',m',he',hm',hk⟩
theorem zuB {P:Program} {g:Operand} {ps:Array Tmp} {assign body:Code} {Q:Exit→Act→World→Prop} {a:Act} {w:World} {gf:Nat} {lb:Array Value} (hg:a.eval g=.func (.func gf) #[] lb) (eg:Enters P gf)
  (h:∀ (fn:FuncId) (rec:Loop),rec={ state:=.ready,pending:=none,fn,tmps:=a.tmps,params:=ps,assign,body,defers:=w.heap.size }→Calls P gf (#[.func (.yield (w.heap.size+1)) #[] #[]]++lb) ((w.alloc (.deferred (some []))).alloc (.loop rec)) fun e W =>
   ∃ v,e=.returned v∧W.heap[w.heap.size+1]?=some (.loop rec) ∧
    Q .normal { a with defers:={ target:=.collected w.heap.size,args:=#[] }::a.defers } (W.putObj (w.heap.size+1) (.loop { rec with state:=.exhausted }))) :
  (Code.rangeFunc g ps assign body).wp P Q a w:=by
 rw [← wpIn_wide (n:=1)]
 refine wpIn_rangeFunc ?_
 intro fn _
 obtain ⟨rec,hrec⟩:∃ rec:Loop,rec={ state:=.ready,pending:=none,fn,tmps:=a.tmps,params:=ps,assign,body,defers:=w.heap.size }:=⟨_,rfl⟩
 have h:=h fn rec hrec
 have hb:rec.state≠.busy:=by rw [hrec];simp
 have hp:rec.pending=none:=by rw [hrec]
 have hen:=run_enterLoop_outer (P:=P) (w:=w) fn a.tmps ps assign body
 rw [← hrec] at hen
 obtain ⟨W1,hW1⟩:∃ W1,(w.alloc (.deferred (some []))).alloc (.loop rec)=W1:=⟨_,rfl⟩
 rw [hW1] at h hen
 refine⟨w.heap.size+1,[{ target:=.collected w.heap.size,args:=#[] }],W1,{ target:=.fn (.func gf) lb,args:=#[.func (.yield (w.heap.size+1)) #[] #[]] },W1,gf,#[.func (.yield (w.heap.size+1)) #[] #[]]++lb,W1,hen,?_,?_,?_,fun _=>Nat.le_refl _,?_⟩
 ·simp only [resolve,hg]
  simp [go_sem]
 ·intro f' _;trivial
 ·simp [invoke,go_sem,eg _ _]
 ·refine callsIn_wide.2 (h.mono ?_)
  rintro e W ⟨v,rfl,hl,hq⟩
  exact⟨none,_,(run_endLoop (P:=P) hl hb).trans (by rw [hp]),hq⟩
theorem zx9 {P:Program} (e0:Env) {f:FuncId} {fn:Func} {c:Code} (hf:P.funcs[f]?=some fn) (hb:fn.body=some c) (he0:zfN 0 e0=true) (hl:Nat.ble e0.length fn.ntmps=true) {w:World}
  {R:Ending→World→Prop} (h:∀ a,EnvOk fn.ntmps [] e0 a→c.wp P (bodyPostM Fence.wide 0 P fn R) a w):Calls P f (e0.map (·.2)).toArray w R:=by
 have he0':=zdT he0
 generalize hargs:e0.map (·.2)=args at he0'
 subst he0'
 refine (callsIn_wide (n:=0)).1 (callsIn_of_wp_marks hf hb trivial ((wpIn_wide (n:=0)).2 (h _ ⟨rfl,?_,?_⟩)))
 ·have hle:=Nat.le_of_ble_eq_true hl
  have hlen:args.length≤fn.ntmps:=by rw [← hargs];simpa using hle
  simp;omega
 ·intro t v hv
  obtain ⟨_,h2⟩:=zd6 _ _ _ _ hv
  simp at h2
  have hlt:t<args.length:=(List.getElem?_eq_some_iff.1 h2).1
  have h3:(args.toArray++Array.replicate (fn.ntmps-args.toArray.size) undef)[t]?=some v:=by
   rw [Array.getElem?_append_left (by simpa using hlt)]
   simpa using h2
  rw [Array.getD_eq_getD_getElem?,h3]
  rfl
end Go.Proofs.YtlmgelmloddfgaaGreat.Eng
namespace Go.Proofs.YtlmgelmloddfgaaGreat
open Go Go.RowKit Eng
section
def leV:List UInt8→Nat
 | []=>0
 | b::r=>b.toNat+256*leV r
theorem zjG:∀ l:List UInt8,leV l<256 ^ l.length
 | []=>by simp [leV]
 | b::r=>by
  have h1:=zjG r
  have h2:=b.toNat_lt
  rw [leV,List.length_cons,Nat.pow_succ]
  omega
theorem zwT {l:List UInt8} (h:l.length≤8):leV l<18446744073709551616:=by
 have h1:=zjG l
 have h2:256 ^ l.length≤256 ^ 8:=Nat.pow_le_pow_right (by omega) h
 have h3:(256:Nat) ^ 8=18446744073709551616:=by decide
 omega
theorem znn {l:List UInt8} (h:l.length≤7):leV l<72057594037927936:=by
 have h1:=zjG l
 have h2:256 ^ l.length≤256 ^ 7:=Nat.pow_le_pow_right (by omega) h
 have h3:(256:Nat) ^ 7=72057594037927936:=by decide
 omega
def getV (bs:List UInt8) (at_ n:Nat):Nat:=leV ((bs.drop at_).take n)
theorem zgr {bs:List UInt8} {j k:Nat} (h:j<bs.length):getV bs j (k+1)=(bs.getD j 0).toNat+256*getV bs (j+1) k:=by
 rw [getV,List.drop_eq_getElem_cons h,List.take_succ_cons,leV,List.getD,List.getElem?_eq_getElem h];rfl
theorem zgW (bs:List UInt8) (j:Nat) {k:Nat} (h:k≤8):getV bs j k<18446744073709551616:=zwT (by rw [List.length_take];omega)
theorem zhH (bs:List UInt8) (j:Nat) {k:Nat} (h:k≤7):getV bs j k<72057594037927936:=znn (by rw [List.length_take];omega)
def zpV (len at_ n:Int):Bool:=decide (0≤at_)&&decide (n≤len)&&decide (at_≤len-n)
theorem liesB_iff {len at_ n:Int}:zpV len at_ n=true↔0≤at_∧n≤len∧at_≤len-n:=by
 simp [zpV,and_assoc]
def getF (bs:List UInt8) (at_ n:Int):Nat × Int :=
 if n<1∨8<n then (0,2) else if zpV bs.length at_ n then (getV bs at_.toNat n.toNat,0) else (0,4)
theorem or8 {v b:Nat} (hv:v<72057594037927936) (hb:b<256):bits .or .u64 (IntKind.u64.wrap ((v:Int)*2 ^ Int.toNat 8)) (b:Int)=((b+256*v:Nat):Int):=by
 have h1:IntKind.u64.wrap ((v:Int)*2 ^ Int.toNat 8)=(v:Int)*256:=by
  rw [show (2:Int) ^ Int.toNat 8=256 from by decide,IntKind.wrap_u64];omega
 rw [h1,bits_join .u64 64 (by decide) wraps_u64 8 _ _ (by omega) (by omega) (by omega) (by omega) (by omega) (by omega)]
 omega
attribute [local irreducible] Br Rn RnU Cl RdG CpG Ld Rd Lp Dr Oth Cut fin Fits Eng.Enters Md NA
theorem zfU:Eng.Enters Tryz.prog 126:=zab fun _ _=>by kernel_rfl
theorem zfj:Eng.Enters Tryz.prog 85:=zab fun _ _=>by kernel_rfl
theorem zkJ (A:Option Addr) (l c:Nat) (at_ n:Int) (w:World) (hl:l≤140737488355328) (hn:-140737488355328≤n∧n≤140737488355328) :
  Calls Tryz.prog 126 #[.slice A l c,.int .i64 at_,.int .i64 n] w fun e w'=>e=.returned (.bool (zpV l at_ n))∧Fr (fun _=>False) w w':=by
 refine enter (cx:=CX 23 [] w) [(0,.slice A l c),(1,.int .i64 at_),(2,.int .i64 n)] zaa Tryz.func126 rfl rfl rfl rfl (MemOk.nil w _) ?_
 refine gGw ?_
 exact fin1 rfl rfl (fun w' hm=>⟨rfl,hm.fr⟩)
theorem zkV (bs:List UInt8) (A:Option Addr) (c:Nat) (at_ n:Int) (w:World) (hb:BytsIn w A bs) (hl:bs.length≤140737488355328) (ha:-9223372036854775808≤at_∧at_≤9223372036854775807) :
  Calls Tryz.prog 85 #[.slice A bs.length c,.int .i64 at_,.int .i64 n] w fun e w'=>e=.returned (.tuple #[.int .u64 (getF bs at_ n).1,.int .i64 (getF bs at_ n).2])∧Fr (fun _=>False) w w':=by
 refine enter (cx:=CX 41 [] w) [(0,.slice A bs.length c),(1,.int .i64 at_),(2,.int .i64 n)] zaa Tryz.func85 rfl rfl rfl rfl (MemOk.nil w _) ?_
 have h1:=fun m=>BytsIn.byts (cx:=CX 41 [] w) (m:=m) hb (fun _ h=>h)
 refine gGw ?_
 refine br (fun h=>?_) (fun h=>?_)
 ·refine gGw ?_
  refine fin2 rfl rfl rfl (fun w' hm=>⟨?_,hm.fr⟩)
  simp only [Bool.or_eq_true,decide_eq_true_eq] at h
  rw [getF,if_pos (by omega)];rfl
 simp only [Bool.or_eq_false_iff,decide_eq_false_iff_not] at h
 refine gGw ?_
 refine⟨zfU,zae _ (fun w' _=>zkJ A bs.length c at_ n w' hl (by omega)) ?_⟩
 refine gGw ?_
 refine br_n (br (fun hl=>?_) (fun hl=>?_))
 ·have hl2:=liesB_iff.1 hl
  have hpl:Pl A:=(h1 []).plain (by omega)
  refine gGw ?_
  refine lp zaa (γ:=Int) (fun i=>-1≤i∧i≤n-1) (fun i=>[(9,.int .i64 i),(8,.int .u64 (getV bs (at_+i+1).toNat (n-1-i).toNat)),(0,.slice A bs.length c),(1,.int .i64 at_),(2,.int .i64 n)]) (fun _=>[]) (fun i=>(i+1).toNat) (n-1) (by omega)
   ⟨rfl,by rw [show (n-1-(n-1)).toNat=0 by omega];rfl,rfl,rfl,rfl,trivial⟩ (SubM.refl _ _) ?_
  rintro i ⟨hi1,hi2⟩
  dsimp only
  refine gGw ?_
  refine br_d (fun hge=>?_) (fun hlt=>?_)
  ·have hv:=zhH bs (at_+i+1).toNat (k:=(n-1-i).toNat) (by omega)
   have hs:=zgr (bs:=bs) (j:=(at_+i).toNat) (k:=(n-1-i).toNat) (by omega)
   rw [show (at_+i).toNat+1=(at_+i+1).toNat by omega,show (n-1-i).toNat+1=(n-i).toNat by omega] at hs
   have hb8:=(bs.getD (at_+i).toNat 0).toNat_lt
   refine gGw ?_
   refine And.intro ⟨by omega,by omega,hpl⟩ ?_
   conv=>whnf
   refine zai ((h1 _).ld zaa rfl rfl (j:=(at_+i).toNat) (by omega)) ?_
   refine gGw ?_
   refine⟨i-1,by omega,by omega,⟨rfl,?_,rfl,rfl,rfl,trivial⟩,SubM.refl _ _⟩
   refine congrArg (fun x=>some (Value.int .u64 x)) ?_
   rw [show (at_+(i-1)+1).toNat=(at_+i).toNat by omega,show (n-1-(i-1)).toNat=(n-i).toNat by omega,hs]
   exact or8 hv hb8
  ·have hi:i=-1:=by omega
   subst hi
   refine gGw ?_
   refine fin2 rfl rfl rfl (fun w' hm=>⟨?_,hm.fr⟩)
   rw [getF,if_neg (by omega),hl]
   simp only [if_true]
   rw [show (at_+-1+1).toNat=at_.toNat by omega,show (n-1 - -1).toNat=n.toNat by omega]
 ·refine gGw ?_
  refine fin2 rfl rfl rfl (fun w' hm=>⟨?_,hm.fr⟩)
  rw [getF,if_neg (by omega),hl];rfl
end
section
theorem mixed:Tryz.prog.follows .mixedOrders=true:=by kernel_rfl
theorem zbB {P:Program} {t:TypeId} {k:IntKind} (h:P.underlying t=some (.int k)) (cs:Array Value) (o:Nat) (v:Value) (hv:cs[o]?=some v) (w:World):(part t cs o).run P w=.ok v w:=by
 simp [part,isAgg,run_underlying h,hv]
theorem zca {P:Program} {t:TypeId} {k:IntKind} (h:P.underlying t=some (.int k)) (d:Nat) (a b:Int) (w:World):(Op.equalIn (d+1) t (.int k a) (.int k b)).run P w=.ok (decide (a=b)) w:=by
 simp [Op.equalIn,run_underlying h,znp]
/-! ## Finds as keys -/
structure Fi where
 kind:Int
 at_:Int
 want:Int
 have_:Int
deriving DecidableEq
def Fi.enc (x:Fi):Value:=.agg #[.int .i64 x.kind,.int .i64 x.at_,.int .u64 x.want,.int .u64 x.have_]
theorem ziM:Tryz.prog.underlying 61=some (.struct (Tryz.prog.fieldsOf 61)):=by kernel_rfl
theorem zsr:Tryz.prog.stoodInHeld 61=false:=by kernel_rfl
theorem find_list : ((Tryz.prog.fieldsOf 61).toList.map fun f => (f.name, f.type, f.offset)) = [("Kind", 59, 0), ("At", 2, 1), ("Want", 32, 2), ("Have", 32, 3)] := by kernel_rfl
theorem zgE:Tryz.prog.underlying 59=some (.int .i64):=by kernel_rfl
theorem zfK:Tryz.prog.underlying 2=some (.int .i64):=by kernel_rfl
theorem ze5:Tryz.prog.underlying 32=some (.int .u64):=by kernel_rfl
theorem zqR:Tryz.prog.underlying 3=some (.int .i64):=by kernel_rfl
theorem zoS (d:Nat) (a b c e a' b' c' e':Int) (w:World):(Op.equalIn (d+2) 61 (.agg #[.int .i64 a,.int .i64 b,.int .u64 c,.int .u64 e]) (.agg #[.int .i64 a',.int .i64 b',.int .u64 c',.int .u64 e'])).run Tryz.prog w=.ok (decide (a=a')&&(decide (b=b')&&(decide (c=c')&&decide (e=e')))) w:=by
 rw [run_equalIn_struct w (d+1) 61 _ _ ziM zsr]
 have h:=find_list
 generalize (Tryz.prog.fieldsOf 61).toList=fs at h
 obtain ⟨f1,f2,f3,f4,rfl⟩:∃ f1 f2 f3 f4,fs=[f1,f2,f3,f4]:=by
  rcases fs with _|⟨f1,_|⟨f2,_|⟨f3,_|⟨f4,_|⟨i,r⟩⟩⟩⟩⟩
  ·simp at h
  ·simp at h
  ·simp at h
  ·simp at h
  ·exact⟨f1,f2,f3,f4,rfl⟩
  ·simp at h
 simp only [List.map_cons,List.map_nil,List.cons.injEq,Prod.mk.injEq,and_true] at h
 obtain ⟨⟨a1,a2,a3⟩,⟨b1,b2,b3⟩,⟨c1,c2,c3⟩,d1,d2,d3⟩:=h
 have n1 : f1.name ≠ "_" := by rw [a1]; decide
 have n2 : f2.name ≠ "_" := by rw [b1]; decide
 have n3 : f3.name ≠ "_" := by rw [c1]; decide
 have n4 : f4.name ≠ "_" := by rw [d1]; decide
 simp only [Op.eqFields,n1,n2,n3,n4,if_true,ne_eq,not_false_eq_true,a2,a3,b2,b3,c2,c3,d2,d3,Sem.run_bind]
 rw [zbB zgE _ 0 (.int .i64 a) rfl,Result.andThen_ok,zbB zgE _ 0 (.int .i64 a') rfl,Result.andThen_ok,zca zgE,Result.andThen_ok]
 by_cases h1:a=a'
 ·subst h1
  simp only [decide_true,Bool.not_true,Bool.false_eq_true,if_false,Sem.run_bind,Bool.true_and]
  rw [zbB zfK _ 1 (.int .i64 b) rfl,Result.andThen_ok,zbB zfK _ 1 (.int .i64 b') rfl,Result.andThen_ok,zca zfK,Result.andThen_ok]
  by_cases h2:b=b'
  ·subst h2
   simp only [decide_true,Bool.not_true,Bool.false_eq_true,if_false,Sem.run_bind,Bool.true_and]
   rw [zbB ze5 _ 2 (.int .u64 c) rfl,Result.andThen_ok,zbB ze5 _ 2 (.int .u64 c') rfl,Result.andThen_ok,zca ze5,Result.andThen_ok]
   by_cases h3:c=c'
   ·subst h3
    simp only [decide_true,Bool.not_true,Bool.false_eq_true,if_false,Sem.run_bind,Bool.true_and]
    rw [zbB ze5 _ 3 (.int .u64 e) rfl,Result.andThen_ok,zbB ze5 _ 3 (.int .u64 e') rfl,Result.andThen_ok,zca ze5,Result.andThen_ok]
    by_cases h4:e=e'
    ·subst h4;simp
    ·simp [h4]
   ·simp [h3]
  ·simp [h2]
 ·simp [h1]
theorem zaE:KeyT Tryz.prog 61 Fi.enc:=by
 refine KeyT.of_eq ziM (fun x y=>?_) (fun w a b=>?_) (fun w em k=>by kernel_rfl) (fun k=>?_)
 ·cases y<;>rfl
 ·have h:=zoS 9998 a.kind a.at_ a.want a.have_ b.kind b.at_ b.want b.have_ w
  have e1:(decide (a.kind=b.kind)&&(decide (a.at_=b.at_)&&(decide (a.want=b.want)&&decide (a.have_=b.have_))))=decide (a=b):=by
   obtain ⟨a1,a2,a3,a4⟩:=a
   obtain ⟨b1,b2,b3,b4⟩:=b
   rw [Bool.eq_iff_iff]
   simp
  rw [e1] at h
  exact h
 ·simp [Fi.enc,Instr.sameBits]
theorem zcZ:KeyT Tryz.prog 2 (Value.int .i64):=KeyT.of_int zfK
theorem zbE:∀ w,(zeroValue 3).run Tryz.prog w=.ok (.int .i64 0) w:=fun w=>by kernel_rfl
theorem zqG:∀ w,(zeroValue 32).run Tryz.prog w=.ok (.int .u64 0) w:=fun w=>by kernel_rfl
structure Hl where
 n:Int
 kind:Int
 mixed:Bool
deriving DecidableEq
def Hl.enc (x:Hl):Value:=.agg #[.int .u64 x.n,.int .i64 x.kind,.bool x.mixed]
theorem zvq:∀ w,(zeroValue 91).run Tryz.prog w=.ok (Hl.enc ⟨0,0,false⟩) w:=fun w=>by kernel_rfl
theorem za9:Tryz.prog.underlying 66=some (.map 61 3):=by kernel_rfl
theorem zhc:Tryz.prog.underlying 65=some (.map 2 91):=by kernel_rfl
theorem zhb:Tryz.prog.underlying 41=some (.map 2 32):=by kernel_rfl
/-! ## A head, as plain data -/
structure Hd where
 bits:Int
 flags:Int
 size:Int
 l1:Int
 l1len:Int
 order:Int
 counts:Int
 countsLen:Int
 snaps:Int
 snapsAt:Int
 snapsLen:Int
 bitmaps:Int
 bitmapsAt:Int
 bitmapsLen:Int
 backing:ByteArray
abbrev Hd.cells (h:Hd):List Value:=[.int .i64 h.bits,.int .u64 h.flags,.int .i64 h.size,.int .i64 h.l1,.int .i64 h.l1len,.int .i64 h.order,.int .i64 h.counts,.int .i64 h.countsLen,.int .i64 h.snaps,.int .i64 h.snapsAt,.int .i64 h.snapsLen,.int .i64 h.bitmaps,.int .i64 h.bitmapsAt,.int .i64 h.bitmapsLen,.string h.backing]
/-! ## The walk's state -/
structure WP where
 A:Option Addr
 cap:Nat
 bs:List UInt8
 h:Hd
 c:Int
 n:Int
 wB:Nat
 hB:Nat
 fB:Nat
structure WS where
 holders:List (Int × Hl)
 finds:List (Fi × Int)
 data:Int
 packed:Int
 zero:Int
structure MG where
 es:Array MapEntry
 ck:Nat
 fs:Array MapEntry
 fk:Nat
structure WOk (s:WS) (g:MG):Prop where
 h:MapIs (Value.int .i64) Hl.enc g.es g.ck s.holders
 f:MapIs Fi.enc (Value.int .i64) g.fs g.fk s.finds
abbrev za4 (p:WP) (s:WS):List Value :=
 [.slice p.A p.bs.length p.cap,.int .i64 p.h.bits,.int .u64 p.h.flags,.int .i64 p.h.size,.int .i64 p.h.l1,.int .i64 p.h.l1len,.int .i64 p.h.order,.int .i64 p.h.counts,.int .i64 p.h.countsLen,.int .i64 p.h.snaps,.int .i64 p.h.snapsAt,.int .i64 p.h.snapsLen,.int .i64 p.h.bitmaps,.int .i64 p.h.bitmapsAt,.int .i64 p.h.bitmapsLen,.string p.h.backing,
  .int .i64 p.c,.int .i64 p.n,.map (some p.hB),.map (some p.fB),.slice none 0 0,.bool false,.int .i64 p.n,.int .i64 0,.int .i64 s.data,.int .i64 s.packed,.int .i64 s.zero]
abbrev WM (p:WP) (s:WS) (g:MG):Mem:=[.blk p.wB (.cells (za4 p s).toArray 68),.blk p.hB (.map g.es g.ck),.blk p.fB (.map g.fs g.fk)]
def WR (p:WP) (v:Value) (s:WS) (e:Ending) (m':Mem):Prop:=e=.returned v∧∃ g,WOk s g∧m'=WM p s g
/-! ## find, hold -/
def zcs (s:WS) (x:Fi):WS:={ s with finds:=mset s.finds x (IntKind.i64.wrap ((mget s.finds x).getD 0+1)) }
def zmk (x:Option Hl) (k:Int):Hl:=⟨IntKind.u64.wrap ((x.getD ⟨0,0,false⟩).n+1),k,(x.getD ⟨0,0,false⟩).mixed||(x.isSome&&!decide ((x.getD ⟨0,0,false⟩).kind=k))⟩
def zkP (s:WS) (cl:Int) (k:Int):WS:={ s with holders:=mset s.holders cl (zmk (mget s.holders cl) k) }
attribute [local irreducible] Br Rn RnU Cl RdG CpG Ld Rd Lp Dr Oth Cut fin Fits Eng.Enters Md NA
theorem zdj:Eng.Enters Tryz.prog 94:=zab fun _ _=>by kernel_rfl
theorem ziE:Eng.Enters Tryz.prog 57:=zab fun _ _=>by kernel_rfl
theorem zgt (p:WP) (s:WS) (g:MG) (k at_:Int) (w:World) (hg:WOk s g) (hm:MemOk w (Foot (WM p s g)) (WM p s g) w) :
  Ctr Tryz.prog 94 [.pointer (some ⟨p.wB,0,none⟩),.int .i64 k,.int .i64 at_] (WM p s g) (WR p (.tuple #[]) (zcs s ⟨k,at_,0,0⟩)) w:=by
 refine enter (cx:=CXS 17 [14] w (Foot (WM p s g))) [(0,.pointer (some ⟨p.wB,0,none⟩)),(1,.int .i64 k),(2,.int .i64 at_)] zaa Tryz.func94 rfl rfl rfl rfl hm ?_
 conv=>whnf
 refine za5 (γ:=MG) (Tr.hs [0,1,2,3,4,5,6] (.alts 7 (.alts 8 (.alts 9 (.alts 10 (.sq [11] .done) .stop) .stop) (.alts 9 (.alts 8 (.alts 10 (.sq [11] .done) .stop) (.alts 10 (.alts 8 (.sq [11] .done) .stop) .stop)) .stop)) (.alts 9 (.alts 7 (.alts 8 (.alts 10 (.sq [11] .done) .stop) (.alts 10 (.alts 8 (.sq [11] .done) .stop) .stop)) (.alts 10 (.alts 7 (.alts 8 (.sq [11] .done) .stop) .stop) .stop)) .stop))) [.blk p.wB (.cells (za4 p s).toArray 68)] zaa mixed (by kernel_rfl) rfl (fun g'=>WOk (zcs s ⟨k,at_,0,0⟩) g') (fun _=>[]) (fun g'=>WM p (zcs s ⟨k,at_,0,0⟩) g') SubM.sl ?_ ?_
 ·refine gGw ?_
  refine⟨?_,?_⟩
  ·skip
   refine zaC zaE za9 0 zbE (by repeat constructor) hg.f ⟨k,at_,0,0⟩ ?_
   refine gGt ?_
   refine⟨?_,?_⟩
   ·skip
    refine gGt ?_
    refine zaL zaE za9 0 zbE (by repeat constructor) hg.f ⟨k,at_,0,0⟩ (fun es1 ck1 j st hM1 hj hs=>⟨_,(by repeat constructor),?_⟩)
    refine gGt ?_
    refine gGt ?_
    refine zak (j:=j) (s:=st) (x:=⟨k,at_,0,0⟩) (by repeat constructor) hM1 hj hs (IntKind.i64.wrap ((mget s.finds ⟨k,at_,0,0⟩).getD 0+1)) (fun es2 ck2 hM2=>⟨_,(by repeat constructor),?_⟩)
    refine gGt ?_
    rw [zax] at hM2
    exact⟨⟨g.es,g.ck,es2,ck2⟩,⟨hg.h,hM2⟩,trivial,SubM.refl _ _⟩
   conv=>whnf
   refine⟨?_,trivial⟩
   refine zaL zaE za9 0 zbE (by repeat constructor) hg.f ⟨k,at_,0,0⟩ (fun es1 ck1 j st hM1 hj hs=>⟨_,(by repeat constructor),?_⟩)
   refine gGt ?_
   refine⟨?_,?_⟩
   ·skip
    refine gGt ?_
    refine gGt ?_
    refine zak (j:=j) (s:=st) (x:=⟨k,at_,0,0⟩) (by repeat constructor) hM1 hj hs (IntKind.i64.wrap ((mget s.finds ⟨k,at_,0,0⟩).getD 0+1)) (fun es2 ck2 hM2=>⟨_,(by repeat constructor),?_⟩)
    refine gGt ?_
    rw [zax] at hM2
    exact⟨⟨g.es,g.ck,es2,ck2⟩,⟨hg.h,hM2⟩,trivial,SubM.refl _ _⟩
   conv=>whnf
   refine⟨?_,trivial⟩
   refine gGt ?_
   refine gGt ?_
   refine zak (j:=j) (s:=st) (x:=⟨k,at_,0,0⟩) (by repeat constructor) hM1 hj hs (IntKind.i64.wrap ((mget s.finds ⟨k,at_,0,0⟩).getD 0+1)) (fun es2 ck2 hM2=>⟨_,(by repeat constructor),?_⟩)
   refine gGt ?_
   rw [zax] at hM2
   exact⟨⟨g.es,g.ck,es2,ck2⟩,⟨hg.h,hM2⟩,trivial,SubM.refl _ _⟩
  conv=>whnf
  refine⟨?_,trivial⟩
  refine zaL zaE za9 0 zbE (by repeat constructor) hg.f ⟨k,at_,0,0⟩ (fun es1 ck1 j st hM1 hj hs=>⟨_,(by repeat constructor),?_⟩)
  refine gGt ?_
  refine⟨?_,?_⟩
  ·skip
   refine zaC zaE za9 0 zbE (by repeat constructor) hM1 ⟨k,at_,0,0⟩ ?_
   rw [zbx,if_pos rfl,Option.getD_some]
   refine gGt ?_
   refine⟨?_,?_⟩
   ·skip
    refine gGt ?_
    refine gGt ?_
    refine zak (j:=j) (s:=st) (x:=⟨k,at_,0,0⟩) (by repeat constructor) hM1 hj hs (IntKind.i64.wrap ((mget s.finds ⟨k,at_,0,0⟩).getD 0+1)) (fun es2 ck2 hM2=>⟨_,(by repeat constructor),?_⟩)
    refine gGt ?_
    rw [zax] at hM2
    exact⟨⟨g.es,g.ck,es2,ck2⟩,⟨hg.h,hM2⟩,trivial,SubM.refl _ _⟩
   conv=>whnf
   refine⟨?_,trivial⟩
   refine gGt ?_
   refine gGt ?_
   refine zak (j:=j) (s:=st) (x:=⟨k,at_,0,0⟩) (by repeat constructor) hM1 hj hs (IntKind.i64.wrap ((mget s.finds ⟨k,at_,0,0⟩).getD 0+1)) (fun es2 ck2 hM2=>⟨_,(by repeat constructor),?_⟩)
   refine gGt ?_
   rw [zax] at hM2
   exact⟨⟨g.es,g.ck,es2,ck2⟩,⟨hg.h,hM2⟩,trivial,SubM.refl _ _⟩
  conv=>whnf
  refine⟨?_,trivial⟩
  refine gGt ?_
  refine zaC zaE za9 0 zbE (by repeat constructor) hM1 ⟨k,at_,0,0⟩ ?_
  rw [zbx,if_pos rfl,Option.getD_some]
  refine gGt ?_
  refine gGt ?_
  refine zak (j:=j) (s:=st) (x:=⟨k,at_,0,0⟩) (by repeat constructor) hM1 hj hs (IntKind.i64.wrap ((mget s.finds ⟨k,at_,0,0⟩).getD 0+1)) (fun es2 ck2 hM2=>⟨_,(by repeat constructor),?_⟩)
  refine gGt ?_
  rw [zax] at hM2
  exact⟨⟨g.es,g.ck,es2,ck2⟩,⟨hg.h,hM2⟩,trivial,SubM.refl _ _⟩
 ·rintro g' hg'
  exact fin0 rfl (fun w' hm=>⟨_,⟨rfl,g',hg',rfl⟩,hm⟩) (.inr rfl)
end
section
structure WP.Ok (p:WP):Prop where
 len:p.bs.length≤20000000
 c0:512≤p.c
 c1:p.c≤65536
 c8:p.c%8=0
 cs:0≤p.h.counts∧p.h.counts≤268435456
 cl:1≤p.h.countsLen∧p.h.countsLen≤65536
 n:p.n=(p.bs.length:Int)/p.c
def zau (p:WP) (at_ long:Int):Bool :=
 decide (0<at_)&&decide (at_.tmod p.c=0)&&decide (0≤long)&&decide (at_.tdiv p.c+(long+p.c-1).tdiv p.c≤p.n)
def zaY (x:Int):Int:=if 4611686018427387904<x then 4611686018427387904 else x
def FW (p:WP) (k:Nat):Prop:=k=p.wB∨k=p.hB∨k=p.fB
theorem zbZ (p:WP) (s:WS) (g:MG):Foot (WM p s g)=FW p:=by
 funext k
 simp only [Foot,WM,FW,List.mem_cons,List.not_mem_nil,or_false,exists_eq_or_imp,exists_eq_left,Res.foot,Option.some.injEq,eq_iff_iff]
 constructor<;>(intro h;rcases h with h|h|h<;>simp [h])
def BIn (p:WP) (w:World):Prop:=∀ w',Fr (FW p) w w'→BytsIn w' p.A p.bs
theorem BIn.stb {p:WP} {w:World} (h:BIn p w) (s:WS) (g:MG):Stb (WM p s g) w (fun w=>BytsIn w p.A p.bs):=fun w' hf=>h w' (by rw [zbZ] at hf;exact hf)
theorem BIn.fr {p:WP} {w w':World} (h:BIn p w) (hf:Fr (FW p) w w'):BIn p w':=fun _ h2=>h _ (hf.trans h2)
def zgq (s:WS) (at_:Int) (k:Int):Nat→WS
 | 0=>s
 | i+1=>zkP (zgq s at_ k i) (at_+i) k
def runF (p:WP) (s:WS) (at_ long stands k:Int):WS × Bool :=
 if zau p at_ long then (zgq s (at_.tdiv p.c) k ((long+p.c-1).tdiv p.c).toNat,true) else (zcs s ⟨1,stands,0,0⟩,false)
theorem zmI {a c M:Int} (hc:0<c) (h:-M≤a∧a≤M):-M≤a.tdiv c∧a.tdiv c≤M:=by
 by_cases h0:0≤a
 ·rw [Int.tdiv_eq_ediv_of_nonneg h0]
  have h1:=Int.ediv_nonneg h0 (Int.le_of_lt hc)
  have h2:=Int.ediv_le_self c h0
  omega
 ·have h1:a.tdiv c=-((-a).tdiv c):=by rw [Int.neg_tdiv];omega
  have hn:0≤-a:=by omega
  rw [h1,Int.tdiv_eq_ediv_of_nonneg hn]
  have h2:=Int.ediv_nonneg hn (Int.le_of_lt hc)
  have h3:=Int.ediv_le_self c hn
  omega
theorem zed {a c:Int} (hc:512≤c) (h:-4611686018427453440≤a∧a≤4611686018427453440):-9007199254741120≤a.tdiv c∧a.tdiv c≤9007199254741120:=by
 have key:∀ x:Int,0≤x→x≤4611686018427453440→0≤x/c∧x/c≤9007199254741120:=fun x h0 h1=>by
  have h2:=Int.ediv_nonneg h0 (show 0≤c by omega)
  refine⟨h2,?_⟩
  have h3:c*(x/c)≤x:=by have:=Int.mul_ediv_add_emod x c;have:=Int.emod_nonneg x (show c≠0 by omega);omega
  have h4:512*(x/c)≤c*(x/c):=Int.mul_le_mul_of_nonneg_right hc h2
  omega
 by_cases h0:0≤a
 ·rw [Int.tdiv_eq_ediv_of_nonneg h0]
  have:=key a h0 h.2
  omega
 ·have h1:a.tdiv c=-((-a).tdiv c):=by rw [Int.neg_tdiv];omega
  have hn:0≤-a:=by omega
  rw [h1,Int.tdiv_eq_ediv_of_nonneg hn]
  have:=key (-a) hn (by omega)
  omega
attribute [local irreducible] Br Rn RnU Cl RdG CpG Ld Rd Lp Dr Oth Cut fin Fits Eng.Enters Md NA
theorem zoG (p:WP) (s:WS) (g:MG) (cl k:Int) (w:World) (hg:WOk s g) (hm:MemOk w (Foot (WM p s g)) (WM p s g) w) :
  Ctr Tryz.prog 57 [.pointer (some ⟨p.wB,0,none⟩),.int .i64 cl,.int .i64 k] (WM p s g) (WR p (.tuple #[]) (zkP s cl k)) w:=by
 refine enter (cx:=CXS 41 [33] w (Foot (WM p s g))) [(0,.pointer (some ⟨p.wB,0,none⟩)),(1,.int .i64 cl),(2,.int .i64 k)] zaa Tryz.func57 rfl rfl rfl rfl hm ?_
 refine gGw ?_
 refine zaC zcZ zhc ⟨0,0,false⟩ zvq (by repeat constructor) hg.h cl ?_
 conv=>whnf
 intro xB
 refine gGw ?_
 refine br (fun hmx=>?_) (fun hmx=>?_)
 ·skip
  have eH:zmk (mget s.holders cl) k=⟨IntKind.u64.wrap (((mget s.holders cl).getD ⟨0,0,false⟩).n+1),k,true⟩:=by unfold zmk;simp [*]
  refine gGw ?_
  refine zcD 6 zaa mixed (by kernel_rfl) rfl rfl ?_
  refine gGw ?_
  refine zbG (enc:=Value.int .i64) (encV:=Hl.enc) zcZ zhc (by repeat constructor) hg.h cl ⟨IntKind.u64.wrap (((mget s.holders cl).getD ⟨0,0,false⟩).n+1),k,true⟩ (fun es2 ck2 hM2=>⟨_,(by repeat constructor),?_⟩)
  refine gGw ?_
  rw [← eH] at hM2
  exact fin0 rfl (fun w' hm=>⟨_,⟨rfl,⟨es2,ck2,g.fs,g.fk⟩,⟨hM2,hg.f⟩,rfl⟩,hm.sl⟩) (.inr rfl)
 ·refine gGw ?_
  refine br (fun his=>?_) (fun his=>?_)
  ·skip
   have eH:zmk (mget s.holders cl) k=⟨IntKind.u64.wrap (((mget s.holders cl).getD ⟨0,0,false⟩).n+1),k,!decide (((mget s.holders cl).getD ⟨0,0,false⟩).kind=k)⟩:=by unfold zmk;simp [*]
   refine gGw ?_
   refine zcD 6 zaa mixed (by kernel_rfl) rfl rfl ?_
   refine gGw ?_
   refine zbG (enc:=Value.int .i64) (encV:=Hl.enc) zcZ zhc (by repeat constructor) hg.h cl ⟨IntKind.u64.wrap (((mget s.holders cl).getD ⟨0,0,false⟩).n+1),k,!decide (((mget s.holders cl).getD ⟨0,0,false⟩).kind=k)⟩ (fun es2 ck2 hM2=>⟨_,(by repeat constructor),?_⟩)
   refine gGw ?_
   rw [← eH] at hM2
   exact fin0 rfl (fun w' hm=>⟨_,⟨rfl,⟨es2,ck2,g.fs,g.fk⟩,⟨hM2,hg.f⟩,rfl⟩,hm.sl⟩) (.inr rfl)
  ·skip
   have eH:zmk (mget s.holders cl) k=⟨IntKind.u64.wrap (((mget s.holders cl).getD ⟨0,0,false⟩).n+1),k,false⟩:=by unfold zmk;simp [*]
   refine gGw ?_
   refine zcD 6 zaa mixed (by kernel_rfl) rfl rfl ?_
   refine gGw ?_
   refine zbG (enc:=Value.int .i64) (encV:=Hl.enc) zcZ zhc (by repeat constructor) hg.h cl ⟨IntKind.u64.wrap (((mget s.holders cl).getD ⟨0,0,false⟩).n+1),k,false⟩ (fun es2 ck2 hM2=>⟨_,(by repeat constructor),?_⟩)
   refine gGw ?_
   rw [← eH] at hM2
   exact fin0 rfl (fun w' hm=>⟨_,⟨rfl,⟨es2,ck2,g.fs,g.fk⟩,⟨hM2,hg.f⟩,rfl⟩,hm.sl⟩) (.inr rfl)
theorem zeM:Eng.Enters Tryz.prog 92:=zab fun _ _=>by kernel_rfl
theorem zc9:Eng.Enters Tryz.prog 91:=zab fun _ _=>by kernel_rfl
theorem zd9:Eng.Enters Tryz.prog 99:=zab fun _ _=>by kernel_rfl
theorem zce:Eng.Enters Tryz.prog 90:=zab fun _ _=>by kernel_rfl
theorem ziq (x:Int) (w:World) (hx:0≤x):Calls Tryz.prog 92 #[.int .u64 x] w fun e w'=>e=.returned (.int .i64 (zaY x))∧Fr (fun _=>False) w w':=by
 refine enter (cx:=CX 6 [] w) [(0,.int .u64 x)] zaa Tryz.func92 rfl rfl rfl rfl (MemOk.nil w _) ?_
 conv=>whnf
 refine And.intro (zaB (by split<;>omega)) ?_
 conv=>whnf
 exact fin1 rfl rfl (fun w' hm=>⟨rfl,hm.fr⟩)
theorem zjj (p:WP) (s:WS) (g:MG) (at_ long:Int) (w:World) (hp:p.Ok) (ha:-4611686018427387904≤at_∧at_≤4611686018427387904) (hl:-4611686018427387904≤long∧long≤4611686018427387904) (hm:MemOk w (Foot (WM p s g)) (WM p s g) w) :
  Ctr Tryz.prog 99 [.pointer (some ⟨p.wB,0,none⟩),.int .i64 at_,.int .i64 long] (WM p s g) (fun e m'=>e=.returned (.bool (zau p at_ long))∧m'=WM p s g) w:=by
 refine enter (cx:=CXS 48 [] w (Foot (WM p s g))) [(0,.pointer (some ⟨p.wB,0,none⟩)),(1,.int .i64 at_),(2,.int .i64 long)] zaa Tryz.func99 rfl rfl rfl rfl hm ?_
 have hc0:=hp.c0
 have hc1:=hp.c1
 conv=>whnf
 have d1:=zed hc0 (a:=at_) (by omega)
 have d2:=zed hc0 (a:=long+p.c-1) (by omega)
 have e1:IntKind.i64.wrap (at_.tdiv p.c)=at_.tdiv p.c:=IntWalk.i64_in _ (by omega)
 have e2:IntKind.i64.wrap ((long+p.c-1).tdiv p.c)=(long+p.c-1).tdiv p.c:=IntWalk.i64_in _ (by omega)
 refine zao zaa mixed (by kernel_rfl) rfl ?_;conv=>whnf
 refine gG0 ?_
 refine fin1 rfl rfl (fun w' hm=>⟨_,⟨?_,rfl⟩,hm⟩)
 rw [e1,e2];rfl
theorem zf0 (p:WP) (s:WS) (g:MG) (at_:Int) (w:World) (hp:p.Ok) (hb:BIn p w) (ha:0≤at_∧at_≤p.bs.length-8) (hm:MemOk w (Foot (WM p s g)) (WM p s g) w) :
  Ctr Tryz.prog 91 [.pointer (some ⟨p.wB,0,none⟩),.int .i64 at_] (WM p s g) (fun e m'=>e=.returned (.int .u64 (getV p.bs at_.toNat 8))∧m'=WM p s g) w:=by
 refine enter (cx:=CXS 17 [] w (Foot (WM p s g))) [(0,.pointer (some ⟨p.wB,0,none⟩)),(1,.int .i64 at_)] zaa Tryz.func91 rfl rfl rfl rfl hm ?_
 have hlen:=hp.len
 refine gGw ?_
 refine⟨zfj,zae _ (fun w' hm'=>zkV p.bs p.A p.cap at_ 8 w' (hb.stb s g w' hm'.fr) (by omega) (by omega)) ?_⟩
 rw [getF,if_neg (by omega),if_pos (liesB_iff.2 (by omega))]
 refine gGw ?_
 exact fin1 rfl rfl (fun w' hm=>⟨_,⟨rfl,rfl⟩,hm⟩)
theorem withinF_iff {p:WP} {at_ long:Int}:zau p at_ long=true↔0<at_∧at_.tmod p.c=0∧0≤long∧at_.tdiv p.c+(long+p.c-1).tdiv p.c≤p.n:=by
 simp [zau,and_assoc]
theorem WP.Ok.n_le {p:WP} (hp:p.Ok):0≤p.n∧p.n≤39063:=by
 have h1:=hp.len
 have h2:=hp.c0
 rw [hp.n]
 have h3:=Int.ediv_nonneg (show 0≤(p.bs.length:Int) by omega) (show 0≤p.c by omega)
 refine⟨h3,?_⟩
 have h4:p.c*((p.bs.length:Int)/p.c)≤p.bs.length:=by have:=Int.mul_ediv_add_emod (p.bs.length:Int) p.c;have:=Int.emod_nonneg (p.bs.length:Int) (show p.c≠0 by omega);omega
 have h5:512*((p.bs.length:Int)/p.c)≤p.c*((p.bs.length:Int)/p.c):=Int.mul_le_mul_of_nonneg_right h2 h3
 omega
theorem zeG (p:WP) (s:WS) (g:MG) (at_ long stands k:Int) (w:World) (hp:p.Ok) (hg:WOk s g) (ha:-4611686018427387904≤at_∧at_≤4611686018427387904) (hl:-4611686018427387904≤long∧long≤4611686018427387904) (hm:MemOk w (Foot (WM p s g)) (WM p s g) w) :
  Ctr Tryz.prog 90 [.pointer (some ⟨p.wB,0,none⟩),.int .i64 at_,.int .i64 long,.int .i64 stands,.int .i64 k] (WM p s g) (WR p (.bool (runF p s at_ long stands k).2) (runF p s at_ long stands k).1) w:=by
 refine enter (cx:=CXS 47 [] w (Foot (WM p s g))) [(0,.pointer (some ⟨p.wB,0,none⟩)),(1,.int .i64 at_),(2,.int .i64 long),(3,.int .i64 stands),(4,.int .i64 k)] zaa Tryz.func90 rfl rfl rfl rfl hm ?_
 have hc0:=hp.c0
 have hc1:=hp.c1
 have d1:=zed hc0 (a:=at_) (by omega)
 have d2:=zed hc0 (a:=long+p.c-1) (by omega)
 have e1:IntKind.i64.wrap (at_.tdiv p.c)=at_.tdiv p.c:=IntWalk.i64_in _ (by omega)
 have e2:IntKind.i64.wrap ((long+p.c-1).tdiv p.c)=(long+p.c-1).tdiv p.c:=IntWalk.i64_in _ (by omega)
 refine gGw ?_
 refine⟨zd9,zac (m1:=WM p s g) (by repeat constructor) (fun w' hm'=>zjj p s g at_ long w' hp ha hl hm'.part) ?_⟩
 rintro e m' ⟨rfl,rfl⟩
 refine gGw ?_
 refine br_n (br (fun hw=>?_) (fun hw=>?_))
 ·have hwi:=withinF_iff.1 hw
  have hn0:0≤(long+p.c-1).tdiv p.c:=by rw [Int.tdiv_eq_ediv_of_nonneg (by omega)];exact Int.ediv_nonneg (by omega) (by omega)
  have hn1:=hp.n_le
  rw [runF,if_pos hw]
  conv=>whnf
  refine zao zaa mixed (by kernel_rfl) rfl ?_;conv=>whnf
  refine gG0 ?_
  rw [e2]
  refine lp zaa (γ:=Nat × MG) (fun q=>(q.1:Int)≤(long+p.c-1).tdiv p.c∧WOk (zgq s (at_.tdiv p.c) k q.1) q.2)
   (fun q=>[(32,.int .i64 (q.1:Int)),(31,.int .i64 ((long+p.c-1).tdiv p.c)),(0,.pointer (some ⟨p.wB,0,none⟩)),(1,.int .i64 at_),(4,.int .i64 k)]) (fun q=>WM p (zgq s (at_.tdiv p.c) k q.1) q.2) (fun q=>((long+p.c-1).tdiv p.c).toNat-q.1) (0,g) ⟨hn0,hg⟩ ⟨rfl,rfl,rfl,rfl,rfl,trivial⟩ SubM.sl ?_
  rintro ⟨i,g'⟩ ⟨hi,hg'⟩
  simp only at hi hg'
  dsimp only
  conv=>whnf
  refine br_d (fun hlt=>?_) (fun hge=>?_)
  ·refine gGw ?_
   rw [e1]
   refine⟨ziE,zac (m1:=WM p (zgq s (at_.tdiv p.c) k i) g') (by repeat constructor) (fun w' hm'=>zoG p _ g' (at_.tdiv p.c+i) k w' hg' hm'.part) ?_⟩
   rintro e m' ⟨rfl,g2,hg2,rfl⟩
   refine gGw ?_
   exact⟨(i+1,g2),⟨by simp only;omega,hg2⟩,by simp only;omega,⟨rfl,rfl,rfl,rfl,rfl,trivial⟩,SubM.sl⟩
  ·have hie:i=((long+p.c-1).tdiv p.c).toNat:=by omega
   refine gGw ?_
   refine fin1 rfl rfl (fun w' hm=>⟨_,⟨rfl,g',by rw [← hie];exact hg',rfl⟩,hie ▸ hm⟩)
 ·rw [runF,if_neg (by rw [hw];decide)]
  refine gGw ?_
  refine⟨zdj,zac (m1:=WM p s g) (by repeat constructor) (fun w' hm'=>zgt p s g 1 stands w' hg hm'.part) ?_⟩
  rintro e m' ⟨rfl,g',hg',rfl⟩
  refine gGw ?_
  exact fin1 rfl rfl (fun w' hm=>⟨_,⟨rfl,g',hg',rfl⟩,hm.sl⟩)
end
section
theorem znU (p:WP) (s:WS) (a k:Int):∀ i,za4 p (zgq s a k i)=za4 p s
 | 0=>rfl
 | i+1=>(show za4 p (zkP (zgq s a k i) (a+i) k)=za4 p (zgq s a k i) from rfl).trans (znU p s a k i)
theorem zhO (p:WP) (s:WS) (a l t k:Int):za4 p (runF p s a l t k).1=za4 p s:=by
 unfold runF
 split
 ·exact znU p s _ _ _
 ·rfl
theorem zll {cx:Cx} {p:WP} {s s':WS} {g:MG} (h:za4 p s'=za4 p s):SubM cx (WM p s' g) [.blk p.wB (.cells (za4 p s).toArray 68)]:=by
 rw [← h];exact SubM.sel (.cons .here .nil)
theorem zaF {p:WP} (hp:p.Ok) {at_ long:Int} (h:zau p at_ long=true):0<at_∧0≤long∧at_+long≤p.bs.length:=by
 obtain ⟨h1,h2,h3,h4⟩:=withinF_iff.1 h
 have hc0:=hp.c0
 refine⟨h1,h3,?_⟩
 have hn:=hp.n
 rw [Int.tdiv_eq_ediv_of_nonneg (show 0≤at_ by omega),Int.tdiv_eq_ediv_of_nonneg (show 0≤long+p.c-1 by omega)] at h4
 rw [Int.tmod_eq_emod_of_nonneg (by omega)] at h2
 have e1:=Int.mul_ediv_add_emod at_ p.c
 have e2:=Int.mul_ediv_add_emod (long+p.c-1) p.c
 have e3:=Int.emod_lt_of_pos (long+p.c-1) (show 0<p.c by omega)
 have e4:=Int.mul_ediv_add_emod (p.bs.length:Int) p.c
 have e5:=Int.emod_nonneg (p.bs.length:Int) (show p.c≠0 by omega)
 have e6:p.c*(at_/p.c+(long+p.c-1)/p.c)≤p.c*p.n:=Int.mul_le_mul_of_nonneg_left h4 (by omega)
 rw [Int.mul_add,hn] at e6
 omega
def zaz (p:WP) (at_:Int):Int:=getV p.bs at_.toNat 8
theorem zd8 (p:WP) (at_:Int):0≤zaz p at_∧zaz p at_<18446744073709551616:=by
 have:=zgW p.bs at_.toNat (k:=8) (by omega)
 unfold zaz;omega
theorem zir {x:Int} (h:0≤x):0≤zaY x∧zaY x≤4611686018427387904:=by
 unfold zaY;split<;>omega
theorem zeg (p:WP) (s:WS) (a l t k:Int):(runF p s a l t k).2=zau p a l:=by
 unfold runF;split<;>simp [*]
def zgu (p:WP) (s:WS) (at_:Int):WS:=if zaz p at_=0 then s else (runF p s (zaY (zaz p at_)) p.c at_ 0).1
def zbK (p:WP) (s:WS) (a:Int):Nat→WS
 | 0=>s
 | i+1=>zgu p (zbK p s a i) (a+8*i)
def zgY (p:WP) (s:WS):WS :=
 if (runF p s p.h.counts (p.h.countsLen*p.c) 40 0).2 then zbK p (runF p s p.h.counts (p.h.countsLen*p.c) 40 0).1 p.h.counts (p.h.countsLen*p.c/8).toNat else (runF p s p.h.counts (p.h.countsLen*p.c) 40 0).1
attribute [local irreducible] Br Rn RnU Cl RdG CpG Ld Rd Lp Dr Oth Cut fin Fits Eng.Enters Md NA
theorem zk7:Eng.Enters Tryz.prog 58:=zab fun _ _=>by kernel_rfl
theorem zqn (p:WP) (s:WS) (g:MG) (w:World) (hp:p.Ok) (hg:WOk s g) (hb:BIn p w) (hm:MemOk w (Foot (WM p s g)) (WM p s g) w) :
  Ctr Tryz.prog 58 [.pointer (some ⟨p.wB,0,none⟩)] (WM p s g) (WR p (.tuple #[]) (zgY p s)) w:=by
 refine enter (cx:=CXS 54 [] w (Foot (WM p s g))) [(0,.pointer (some ⟨p.wB,0,none⟩))] zaa Tryz.func58 rfl rfl rfl rfl hm ?_
 have hc0:=hp.c0
 have hc1:=hp.c1
 have hc8:=hp.c8
 have hcs:=hp.cs
 have hcl:=hp.cl
 have hlen:=hp.len
 obtain ⟨L,hL⟩:∃ L,L=p.h.countsLen*p.c:=⟨_,rfl⟩
 have hL0:0≤L:=by rw [hL];exact Int.mul_nonneg (by omega) (by omega)
 have hL1:L≤4294967296:=by
  rw [hL]
  have h1:p.h.countsLen*p.c≤65536*p.c:=Int.mul_le_mul_of_nonneg_right hcl.2 (by omega)
  omega
 have hL8:L%8=0:=by rw [hL,Int.mul_emod,hc8];simp
 conv=>whnf
 refine zao zaa mixed (by kernel_rfl) rfl ?_;conv=>whnf
 (repeat ((first|refine And.intro (zaB (by rw [← hL];omega)) ?_|refine gG1 ?_|refine .mk fun Ap capp=>?_|intro _);conv=>whnf))
 rw [← hL]
 refine⟨zce,zac (m1:=WM p s g) (by repeat constructor) (fun w' hm'=>zeG p s g p.h.counts L 40 0 w' hp hg (by omega) (by omega) hm'.part) ?_⟩
 unfold zgY
 rw [← hL]
 generalize hr:runF p s p.h.counts L 40 0=r
 obtain ⟨s1,ok⟩:=r
 rintro e m' ⟨rfl,g1,hg1,rfl⟩
 refine gGw ?_
 refine br_n (br (fun hok=>?_) (fun hok=>?_))
 ·have hwi:zau p p.h.counts L=true:=by rw [← zeg p s _ _ 40 0,hr];exact hok
  have hle:=zaF hp hwi
  rw [if_pos hok]
  simp only at hg1 hok ⊢
  clear hok
  refine gGw ?_
  refine lp zaa (γ:=Nat × MG) (fun q=>(q.1:Int)≤L/8∧WOk (zbK p s1 p.h.counts q.1) q.2)
   (fun q=>[(3,.int .i64 (p.h.counts+8*(q.1:Int))),(2,.int .i64 L),(0,.pointer (some ⟨p.wB,0,none⟩))]) (fun q=>WM p (zbK p s1 p.h.counts q.1) q.2) (fun q=>(L/8).toNat-q.1) (0,g1) ⟨by simp only;omega,hg1⟩ ⟨by rw [show p.h.counts+8*(((0,g1):Nat × MG).1:Int)=p.h.counts by simp];rfl,rfl,rfl,trivial⟩ SubM.sl ?_
  rintro ⟨i,g'⟩ ⟨hi,hg'⟩
  simp only at hi hg'
  dsimp only
  refine gGw ?_
  refine br_d (fun hlt=>?_) (fun hge=>?_)
  ·refine gGw ?_
   refine⟨zc9,zac (m1:=WM p (zbK p s1 p.h.counts i) g') (by repeat constructor) (fun w' hm'=>zf0 p _ g' (p.h.counts+8*i) w' hp (hb.fr (by rw [zbZ] at hm';exact hm'.fr)) (by omega) hm'.part) ?_⟩
   rintro e m' ⟨rfl,rfl⟩
   refine gGw ?_
   have ew:((getV p.bs (p.h.counts+8*(i:Int)).toNat 8:Nat):Int)=zaz p (p.h.counts+8*i):=rfl
   rw [ew]
   have hwb:=zd8 p (p.h.counts+8*i)
   have hpb:=zir hwb.1
   refine br_n (br_d (fun hz=>?_) (fun hnz=>?_))
   ·have e:zbK p s1 p.h.counts (i+1)=zbK p s1 p.h.counts i:=by show zgu p _ _=_;rw [zgu,if_pos hz]
    refine gGw ?_
    refine⟨(i+1,g'),⟨by simp only;omega,?_⟩,by simp only;omega,⟨congrArg (fun x=>some (Value.int .i64 x)) (by simp only;omega),rfl,rfl,trivial⟩,?_⟩
    ·show WOk (zbK p s1 p.h.counts (i+1)) g'
     rw [e];exact hg'
    ·show SubM _ _ (WM p (zbK p s1 p.h.counts (i+1)) g')
     rw [e];exact SubM.sl
   ·have ec:zgu p (zbK p s1 p.h.counts i) (p.h.counts+8*i)=(runF p (zbK p s1 p.h.counts i) (zaY (zaz p (p.h.counts+8*i))) p.c (p.h.counts+8*i) 0).1:=by rw [zgu,if_neg hnz]
    conv=>whnf
    refine za5 (γ:=MG) (Tr.hs [0,1,3,4,5,6,7] (.sq [2,8] .done)) [.blk p.wB (.cells (za4 p (zbK p s1 p.h.counts i)).toArray 68)] zaa mixed (by kernel_rfl) rfl (fun g2=>WOk (zbK p s1 p.h.counts (i+1)) g2)
     (fun _=>[(3,.int .i64 (p.h.counts+8*(i:Int))),(2,.int .i64 L),(0,.pointer (some ⟨p.wB,0,none⟩))]) (fun g2=>WM p (zbK p s1 p.h.counts (i+1)) g2) SubM.sl ?_ ?_
    ·refine gGw ?_
     refine⟨zeM,zae _ (fun w' hm'=>ziq _ w' hwb.1) ?_⟩
     refine gGt ?_
     refine⟨zce,zac (m1:=WM p (zbK p s1 p.h.counts i) g') (by repeat constructor) (fun w' hm'=>zeG p _ g' _ p.c _ 0 w' hp hg' (by omega) (by omega) hm'.part) ?_⟩
     rintro e m' ⟨rfl,g2,hg2,rfl⟩
     conv=>whnf
     refine And.intro (zll (zhO ..)) ?_
     refine⟨g2,by show WOk (zgu p _ _) g2;rw [ec];exact hg2,⟨rfl,rfl,rfl,trivial⟩,?_⟩
     show SubM _ _ (WM p (zgu p (zbK p s1 p.h.counts i) (p.h.counts+8*i)) g2)
     rw [ec];exact SubM.sl
    ·intro g2 hg2
     refine gGw ?_
     refine⟨(i+1,g2),⟨by simp only;omega,hg2⟩,by simp only;omega,⟨congrArg (fun x=>some (Value.int .i64 x)) (by simp only;omega),rfl,rfl,trivial⟩,SubM.sl⟩
  ·have hie:i=(L/8).toNat:=by omega
   subst hie
   refine gGw ?_
   exact fin0 rfl (fun w' hm=>⟨_,⟨rfl,g',hg',rfl⟩,hm⟩) (.inr rfl)
 ·rw [if_neg (by rw [hok];decide)]
  refine gGw ?_
  exact fin0 rfl (fun w' hm=>⟨_,⟨rfl,g1,hg1,rfl⟩,hm.sl⟩) (.inl rfl)
end
end Go.Proofs.YtlmgelmloddfgaaGreat
