/- Part of a proof: contracts of the functions that the law reaches. No statement of the seat is proved here. -/
import Derived.Test.YtlmgelmloddfgaaGreatCcM1
import Derived.Deep.Quiet
import Derived.StillTail
import Derived.Maps.AppendAt
import Derived.Laws.MakeOwn
import Derived.Laws.OwnMore
set_option linter.unusedVariables false
set_option linter.unusedSimpArgs false
set_option linter.unusedSectionVars false
set_option maxRecDepth 100000
namespace Go.Proofs.YtlmgelmloddfgaaGreat.Eng
open Go Go.RowKit
section soundL
variable {cx:Cx} {e:Env} {m:Mem} {a:Act} {w:World}
theorem zpZ (k:Nat) (v:Bool) (r:List (Nat × Bool)) (t:Nat):zjc ((k,v)::r) t=if k=t then some v else zjc r t:=by
 by_cases h:k=t
 ·subst h;simp [zjc]
 ·have:Nat.beq k t=false:=by
   cases hb:Nat.beq k t with
   | false=>rfl
   | true=>exact absurd (Nat.eq_of_beq_eq_true hb) h
  rw [if_neg h]
  show (match Nat.beq k t with|true=>some v|false=>zjc r t)=_
  rw [this]
def KnOk (kn:List (Nat × Bool)) (e:Env):Prop:=∀ s l,zjc kn s=some l→e.get s=some (.bool l)
theorem KnOk.nil (e:Env):KnOk [] e:=fun _ _ h=>by cases h
theorem KnOk.put {kn:List (Nat × Bool)} {e:Env} (h:KnOk kn e) {dst:Option Nat} {v:Value} {f:List (Nat × Bool)→Env→Prop} (hf:cont kn dst v e f):∃ kn',KnOk kn' (e.putD dst v)∧f kn' (e.putD dst v):=by
 unfold cont at hf
 cases dst with
 | none=>exact⟨kn,h,hf⟩
 | some d =>
  dsimp only at hf
  split at hf
  ·rename_i hd
   refine⟨kn,fun s l hs=>?_,hf⟩
   rw [Env.putD,Env.get_cons]
   have:d≠s:=by rintro rfl;rw [hd] at hs;cases hs
   rw [if_neg this]
   exact h s l hs
  ·exact⟨[],KnOk.nil _,hf⟩
theorem KnOk.cons {kn:List (Nat × Bool)} {e:Env} (h:KnOk kn e) (s:Nat) (l:Bool):KnOk ((s,l)::kn) ((s,.bool l)::e):=by
 intro t b hb
 rw [zpZ] at hb
 rw [Env.get_cons]
 by_cases hst:s=t
 ·rw [if_pos hst] at hb ⊢;cases hb;rfl
 ·rw [if_neg hst] at hb ⊢;exact h t b hb
theorem EnvOk.same {n:Nat} {D:List Deferred} {e:Env} (he:EnvOk n D e a) {s:Nat} {v:Value} (hs:e.get s=some v):EnvOk n D ((s,v)::e) a:=by
 refine⟨he.1,he.2.1,fun t u hu=>?_⟩
 rw [Env.get_cons] at hu
 by_cases hst:s=t
 ·subst hst;rw [if_pos rfl] at hu;cases hu;exact he.2.2 _ _ hs
 ·rw [if_neg hst] at hu;exact he.2.2 _ _ hu
def ScOk (cx:Cx) (sc:Option Sc) (e:Env) (a:Act):Prop:=∀ c,sc=some c→e.get c.s=some (.bool c.b)∧(c.b=c.w→EnvOk cx.n cx.df c.ce a)
theorem ScOk.none_:ScOk cx none e a:=fun _ h=>by cases h
theorem zgK {sc:Option Sc} {s:Nat} {w:Bool} {c:Sc} (h:zuh sc s w=some c):sc=some c∧c.s=s∧c.w=w:=by
 unfold zuh at h
 split at h
 ·cases h
 ·rename_i c'
  split at h
  ·rename_i h1 h2
   cases h
   refine⟨rfl,Nat.eq_of_beq_eq_true h1,?_⟩
   cases hc:c.w<;>cases w<;>rw [hc] at h2<;>simp [beqB] at h2<;>rfl
  ·cases h
theorem ziY (x y:Bool):beqB x y=(x == y):=by cases x<;>cases y<;>rfl
theorem zoM {ops:Array Oper} {j s:Nat} (h:zp8 ops j=some s):(ops[j]?).bind (·.dst)=some s:=by
 unfold zp8 at h
 rw [zco] at h
 split at h
 ·rename_i o ho
  have:ops[j]?=some o:=by simpa using ho
  rw [this]
  exact h
 ·cases h
theorem zsx (he:EnvOk cx.n cx.df e a) {sc:Option Sc} (hsc:ScOk cx sc e a) {s:Nat} {wt t:Bool} (hs:e.get s=some (.bool t)) (ht:t=wt) {x:Operand} {v:Value} (h:evIn sc s wt e x=some v):a.eval x=v:=by
 unfold evIn at h
 split at h
 ·rename_i c hc
  obtain ⟨h1,h2,h3⟩:=zgK hc
  obtain ⟨g1,g2⟩:=hsc c h1
  rw [h2,hs] at g1
  have hb:t=c.b:=by injection g1 with g1;injection g1
  exact (g2 (by rw [← hb,ht,h3])).ev h
 ·exact he.ev h
theorem zxX {x:Operand} (h:isT x=true):a.eval x=.bool true:=by
 unfold isT at h
 split at h
 ·rfl
 ·cases h
theorem zxY {x:Operand} (h:isF x=true):a.eval x=.bool false:=by
 unfold isF at h
 split at h
 ·rfl
 ·cases h
theorem zoo (he:EnvOk cx.n cx.df e a) {sc:Option Sc} (hsc:ScOk cx sc e a) {kn:List (Nat × Bool)} (hkn:KnOk kn e) {c x y:Operand} {v:Value} (h:zwL sc kn e c x y=some v) :
  ∃ t,a.eval c=.bool t∧(if t then a.eval x else a.eval y)=v:=by
 unfold zwL at h
 split at h
 ·rename_i s
  split at h
  ·rename_i hk
   exact⟨true,he.2.2 _ _ (hkn _ _ hk),by simpa using he.ev h⟩
  ·rename_i hk
   exact⟨false,he.2.2 _ _ (hkn _ _ hk),by simpa using he.ev h⟩
  ·split at h
   ·rename_i t hs
    split at h
    ·rename_i p q hx hy
     refine⟨t,he.2.2 _ _ hs,?_⟩
     have hxx:t=true→a.eval x=.bool p:=fun htt=>zsx he hsc hs htt hx
     have hyy:t=false→a.eval y=.bool q:=fun htf=>zsx he hsc hs htf hy
     split at h
     ·rename_i hT
      simp at h
      rw [← h]
      cases t with
      | true=>simpa using zxX hT
      | false=>simpa using hyy rfl
     ·split at h
      ·rename_i hF
       simp at h
       rw [← h]
       cases t with
       | true=>simpa using hxx rfl
       | false=>simpa using zxY hF
      ·simp at h
       rw [← h]
       cases t with
       | true=>simpa using hxx rfl
       | false=>simpa using hyy rfl
    ·cases h
   ·cases h
 ·cases h
theorem za0 (he:EnvOk cx.n cx.df e a) {ops:Array Oper} {o:Oper} {j s:Nat} {wnt b:Bool} (hg:o.guard=some (j,wnt)) (hs:zp8 ops j=some s) (hb:e.get s=some (.bool b)):Region.wanted o (yielded ops a.tmps)=(b == wnt):=by
 simp only [Region.wanted,hg,he.yielded (zoM hs) hb]
 cases b<;>cases wnt<;>rfl
theorem zha (he:EnvOk cx.n cx.df e a) {ops:Array Oper} {o:Oper} {j s:Nat} {wnt:Bool} {vs:Array Value} (hg:o.guard=some (j,wnt)) (hs:zp8 ops j=some s) (hb:e.get s=some (.tuple vs)):Region.wanted o (yielded ops a.tmps)=false:=by
 have hv:=he.2.2 s _ hb
 have hy:yielded ops a.tmps j=none:=by
  simp only [Go.yielded,zoM hs,Option.bind_some]
  rcases Nat.lt_or_ge s a.tmps.size with hlt|hge
  ·simp only [Array.getD,hlt,dite_true] at hv
   rw [Array.getElem?_eq_getElem hlt]
   have h2:a.tmps[s]=.tuple vs:=hv
   rw [h2]
  ·rw [Array.getElem?_eq_none hge]
 simp [Region.wanted,hg,hy]
theorem za1 {ops:Array Oper} {o:Oper} (hg:o.guard=none):Region.wanted o (yielded ops a.tmps)=true:=by simp [Region.wanted,hg]
theorem zc8 {P:Program} {ops:Array Oper} {Q:Exit→Act→World→Prop} {rest:List Oper} {o:Oper} (hw:Region.wanted o (yielded ops a.tmps)=true) (h:o.wp P a w (wpList P ops Q rest) Q):wpList P ops Q (o::rest) a w:=by
 unfold wpList;rw [if_pos hw];exact .inl h
theorem zdN {P:Program} {ops:Array Oper} {Q:Exit→Act→World→Prop} {rest:List Oper} {o:Oper} (hw:Region.wanted o (yielded ops a.tmps)=false) (h:wpList P ops Q rest (a.put o.dst undef) w):wpList P ops Q (o::rest) a w:=by
 unfold wpList;rw [hw];exact h
theorem zeo {n:Nat} {o:Oper} {r:List Oper} (h:zbD n (o::r)=true):o.dst.all (fun i=>decide (i<n))=true∧zbD n r=true:=by
 unfold zbD at h
 split at h
 ·rename_i hd;exact⟨by simp [hd],h⟩
 ·rename_i d hd
  split at h
  ·rename_i hb
   refine⟨?_,h⟩
   rw [hd]
   simp only [Option.all_some,decide_eq_true_eq]
   exact Nat.le_of_ble_eq_true hb
  ·cases h
set_option maxHeartbeats 1000000 in
theorem zs0 (ht:TabOk cx.P cx.tab) {ops:Array Oper} {k:Exit→Env→Mem→Prop}:∀ (l:List Oper) (sc:Option Sc) (kn:List (Nat × Bool)) (e:Env) (m:Mem) (a:Act) (w:World),zbD cx.n l=true→EnvOk cx.n cx.df e a→MemOk cx.w0 cx.S m w→ScOk cx sc e a→KnOk kn e →
  XL cx ops k l sc kn e m→wpList cx.P ops (Qk cx k) l a w:=by
 intro l
 induction l with
 | nil=>intro sc kn e m a w _ he hm _ _ h;exact⟨e,m,he,hm,h⟩
 | cons o rest ih =>
  intro sc kn e m a w hds he hm hsc hkn h
  obtain ⟨hd,hds'⟩:=zeo hds
  have goOn:∀ (e':Env) (kn':List (Nat × Bool)),EnvOk cx.n cx.df e' a→KnOk kn' e' →
    XO cx o.dst o.op o.type e' m (fun v m'=>cont kn' o.dst v e' fun kn'' e''=>XL cx ops k rest none kn'' e'' m') (fun ch m'=>k (.panic ch) e m')→o.wp cx.P a w (wpList cx.P ops (Qk cx k) rest) (Qk cx k):=by
   intro e' kn' he' hkn' hx
   refine zsZ ht he' hm hx (fun v m' w' hm' hk=>?_) (fun ch m' w' hm' hk=>⟨e,m',he,hm',hk⟩)
   obtain ⟨kn'',h1,h2⟩:=KnOk.put hkn' hk
   exact ih none kn'' _ m' _ w' hds' (he'.put hd v) hm' ScOk.none_ h1 h2
  have goOff:∀ (e':Env) (kn':List (Nat × Bool)),EnvOk cx.n cx.df e' a→KnOk kn' e'→(cont kn' o.dst undef e' fun kn'' e''=>XL cx ops k rest none kn'' e'' m)→wpList cx.P ops (Qk cx k) rest (a.put o.dst undef) w:=by
   intro e' kn' he' hkn' hx
   obtain ⟨kn'',h1,h2⟩:=KnOk.put hkn' hx
   exact ih none kn'' _ m _ w hds' (he'.put hd undef) hm ScOk.none_ h1 h2
  change XLs cx (XO cx) ops k o rest (XL cx ops k rest) sc kn e m at h
  unfold XLs at h
  split at h
  ·-- no guard
   rename_i hg
   refine zc8 (za1 hg) ?_
   split at h
   ·rename_i c x y hop
    split at h
    ·rename_i v hv
     obtain ⟨t,h1,h2⟩:=zoo he hsc hkn hv
     have hrun:(execOp a.eval o).run cx.P w=.ok (.value v) w:=by
      unfold execOp
      rw [hop]
      simp [h1,asBool,h2]
     obtain ⟨kn',h3,h4⟩:=KnOk.put hkn h
     exact za2 hrun (ih none kn' _ m _ w hds' (he.put hd v) hm ScOk.none_ h3 h4)
    ·exact h.elim
   ·exact goOn e kn he hkn h
  ·rename_i j wnt hg
   split at h
   ·exact h.elim
   ·rename_i s hs
    split at h
    ·rename_i lit hk
     have hb:=hkn _ _ hk
     split at h
     ·rename_i hl
      refine zc8 ?_ (goOn e kn he hkn h)
      rw [za0 he hg hs hb,← ziY];exact hl
     ·rename_i hl
      refine zdN ?_ (goOff e kn he hkn h)
      rw [za0 he hg hs hb,← ziY];exact hl
    ·split at h
     ·rename_i b hb
      have hwn:=za0 (ops:=ops) he hg hs hb
      split at h
      ·-- under a guard that stays open
       split at h
       ·exact h.elim
       ·rename_i d hdst
        split at h
        ·exact h.elim
        ·rename_i hfresh
         have hne:s≠d:=by rintro rfl;rw [hfresh] at hb;cases hb
         have hoff:∀ v,EnvOk cx.n cx.df e (a.put (some d) v):=fun v=>he.put_off v hfresh
         rw [hdst] at hd
         have step:∀ ce:Env,(b=wnt→EnvOk cx.n cx.df ce a)→(zju cx b wnt d o.op ce m fun ce'=>XL cx ops k rest (some ⟨s,wnt,b,ce'⟩) kn e m)→wpList cx.P ops (Qk cx k) (o::rest) a w:=by
          intro ce hce h
          have fin:∀ (ce':Env) (v:Value),(b=wnt→EnvOk cx.n cx.df ce' (a.put (some d) v))→XL cx ops k rest (some ⟨s,wnt,b,ce'⟩) kn e m→wpList cx.P ops (Qk cx k) rest (a.put (some d) v) w:=fun ce' v hce' hx =>
           ih (some ⟨s,wnt,b,ce'⟩) kn e m _ w hds' (hoff v) hm (fun c hc=>by cases hc;exact⟨hb,hce'⟩) hkn hx
          have offCase:¬ b=wnt→∀ ce',XL cx ops k rest (some ⟨s,wnt,b,ce'⟩) kn e m→wpList cx.P ops (Qk cx k) (o::rest) a w:=fun hbw ce' hx =>
           zdN (by rw [hwn];simpa using hbw) (by rw [hdst];exact fin ce' undef (fun hh=>absurd hh hbw) hx)
          have onCase:b=wnt→∀ v,(execOp a.eval o).run cx.P w=.ok (.value v) w→XL cx ops k rest (some ⟨s,wnt,b,(d,v)::ce⟩) kn e m→wpList cx.P ops (Qk cx k) (o::rest) a w:=fun hbw v hrun hx =>
           zc8 (by rw [hwn];simpa using hbw) (za2 hrun (by rw [hdst];exact fin _ v (fun _=>(hce hbw).put (d:=some d) hd v) hx))
          have viaPop:(match popV cx (some d) o.op ce with
            | some (v,none)=>XL cx ops k rest (some ⟨s,wnt,b,(d,v)::ce⟩) kn e m
            | some (v,some p)=>(b=wnt→p)∧XL cx ops k rest (some ⟨s,wnt,b,(d,v)::ce⟩) kn e m
            | none=>(b=wnt→False)∧XL cx ops k rest (some ⟨s,wnt,b,ce⟩) kn e m)→wpList cx.P ops (Qk cx k) (o::rest) a w:=by
           intro h
           split at h
           ·rename_i v hv
            by_cases hbw:b=wnt
            ·exact onCase hbw v (zcX ht (hce hbw) (by rw [hdst];exact hv) (fun p hp=>by cases hp)) h
            ·exact offCase hbw _ h
           ·rename_i v p hv
            by_cases hbw:b=wnt
            ·exact onCase hbw v (zcX ht (hce hbw) (by rw [hdst];exact hv) (fun q hq=>by cases hq;exact h.1 hbw)) h.2
            ·exact offCase hbw _ h.2
           ·by_cases hbw:b=wnt
            ·exact (h.1 hbw).elim
            ·exact offCase hbw _ h.2
          have viaRead:∀ (sm:Sem Value) (v:Value),(b=wnt→execOp a.eval o=(do pure (Next.value (← sm))))→RdG cx (b=wnt) m sm v→XL cx ops k rest (some ⟨s,wnt,b,(d,v)::ce⟩) kn e m→wpList cx.P ops (Qk cx k) (o::rest) a w:=by
           intro sm v hsm hl hx
           by_cases hbw:b=wnt
           ·exact onCase hbw v (zaZ _ _ (hsm hbw) (hl hbw w hm)) hx
           ·exact offCase hbw _ hx
          have viaNone:((b=wnt→False)∧XL cx ops k rest (some ⟨s,wnt,b,ce⟩) kn e m)→wpList cx.P ops (Qk cx k) (o::rest) a w:=by
           intro h
           by_cases hbw:b=wnt
           ·exact (h.1 hbw).elim
           ·exact offCase hbw _ h.2
          unfold zju at h
          split at h
          ·rename_i t x hop
           split at h
           ·rename_i u hu
            obtain ⟨v,hl,hx⟩:=h
            refine viaRead _ v (fun hbw=>?_) hl hx
            unfold execOp
            rw [hop]
            simp only [(hce hbw).ev hu]
           ·exact viaNone h
          ·rename_i st t x hop
           split at h
           ·rw [← hop] at h;exact viaPop h
           ·split at h
            ·rename_i u hu
             obtain ⟨v,hl,hx⟩:=h
             refine viaRead _ v (fun hbw=>?_) hl hx
             unfold execOp
             rw [hop]
             simp only [(hce hbw).ev hu]
            ·exact viaNone h
          ·rename_i op t x y yt hop
           split at h
           ·rename_i u v hu hv
            split at h
            ·rw [← hop] at h;exact viaPop h
            ·obtain ⟨r,hl,hx⟩:=h
             refine viaRead _ r (fun hbw=>?_) hl hx
             unfold execOp
             rw [hop]
             simp only [(hce hbw).ev hu,(hce hbw).ev hv,zdK]
           ·exact viaNone h
          ·rename_i g args ats hop
           split at h
           ·rename_i as has
            obtain ⟨v,hl,hx⟩:=h
            by_cases hbw:b=wnt
            ·obtain ⟨hen,hcl⟩:=hl hbw
             refine zc8 (by rw [hwn];simpa using hbw) ?_
             unfold Oper.wp
             have h2:=zb0 (hce hbw) has
             have hrun:(execOp a.eval o).run cx.P w=.ok (.enter g as.toArray) w:=by
              unfold execOp
              rw [hop]
              simp only [resolve,h2,Act.eval,Deferred.ofValue,Sem.run_bind,Sem.run_pure,Result.andThen_ok,invoke]
              rw [hen]
              congr 2
              apply Array.toList_inj.1
              simp
             rw [hrun,Oper.upon_enter]
             refine (hcl w hm).mono ?_
             rintro en w' ⟨rfl,hf⟩
             show wpList cx.P ops (Qk cx k) rest (a.put o.dst v) w'
             rw [hdst]
             exact ih (some ⟨s,wnt,b,(d,v)::ce⟩) kn e m _ w' hds' (hoff v) (hm.same hf) (fun c hc=>by cases hc;exact⟨hb,fun _=>(hce hbw).put (d:=some d) hd v⟩) hkn hx
            ·exact offCase hbw _ hx
           ·exact viaNone h
          ·exact viaPop h
         split at h
         ·rename_i c hc
          obtain ⟨h1,h2,h3⟩:=zgK hc
          obtain ⟨g1,g2⟩:=hsc c h1
          rw [h2,hb] at g1
          have hbb:b=c.b:=by injection g1 with g1;injection g1
          exact step c.ce (fun hbw=>g2 (by rw [← hbb,hbw,h3])) h
         ·exact step e (fun _=>he) h
      ·split at h
       ·-- want true
        cases b with
        | true=>exact zc8 (by rw [hwn];rfl) (goOn _ _ (he.same hb) (hkn.cons s true) (h.1 rfl))
        | false=>exact zdN (by rw [hwn];rfl) (goOff _ _ (he.same hb) (hkn.cons s false) (h.2 rfl))
       ·cases b with
        | true=>exact zdN (by rw [hwn];rfl) (goOff _ _ (he.same hb) (hkn.cons s true) (h.1 rfl))
        | false=>exact zc8 (by rw [hwn];rfl) (goOn _ _ (he.same hb) (hkn.cons s false) (h.2 rfl))
     ·rename_i vs hb
      exact zdN (zha he hg hs hb) (goOff e kn he hkn h)
     ·exact h.elim
theorem zji {P:Program} {ops:Array Oper} {C:World→Prop} {Q:Act→Prop} {rest:List Oper} {o:Oper} (hw:Region.wanted o (yielded ops a.tmps)=true) (h:o.quiet P a C (wpQuiet P ops C Q rest)):wpQuiet P ops C Q (o::rest) a:=by
 unfold wpQuiet;rw [if_pos hw];exact h
theorem zhN {P:Program} {ops:Array Oper} {C:World→Prop} {Q:Act→Prop} {rest:List Oper} {o:Oper} (hw:Region.wanted o (yielded ops a.tmps)=false) (h:wpQuiet P ops C Q rest (a.put o.dst undef)):wpQuiet P ops C Q (o::rest) a:=by
 unfold wpQuiet;rw [hw];exact h
set_option maxHeartbeats 1000000 in
theorem zxt (ht:TabOk cx.P cx.tab) {ops:Array Oper} {k:Exit→Env→Mem→Prop} {m:Mem}:∀ (l:List Oper) (sc:Option Sc) (kn:List (Nat × Bool)) (e:Env) (a:Act),zbD cx.n l=true→EnvOk cx.n cx.df e a→ScOk cx sc e a→KnOk kn e →
  XQ cx ops k l sc kn e m→wpQuiet cx.P ops (MemOk cx.w0 cx.S m) (fun a'=>∃ e',EnvOk cx.n cx.df e' a'∧k .normal e' m) l a:=by
 intro l
 induction l with
 | nil=>intro sc kn e a _ he _ _ h;exact⟨e,he,h⟩
 | cons o rest ih =>
  intro sc kn e a hds he hsc hkn h
  obtain ⟨hd,hds'⟩:=zeo hds
  have quietV:∀ (a0:Act) (v:Value) (K:Act→Prop),(∀ w,MemOk cx.w0 cx.S m w→(execOp a0.eval o).run cx.P w=.ok (.value v) w)→K (a0.put o.dst v)→o.quiet cx.P a0 (MemOk cx.w0 cx.S m) K:=by
   intro a0 v K hr hK
   refine⟨v,fun w hw=>?_,hK⟩
   unfold Oper.quietAt
   rw [hr w hw]
   exact⟨rfl,rfl⟩
  have quietC:∀ (a0:Act) (g:Nat) (as:List Value) (v:Value) (K:Act→Prop),(∀ w,(execOp a0.eval o).run cx.P w=.ok (.enter g as.toArray) w)→(∀ w,MemOk cx.w0 cx.S m w→Calls cx.P g as.toArray w fun e w'=>e=.returned v∧Fr (fun _=>False) w w')→K (a0.put o.dst v)→o.quiet cx.P a0 (MemOk cx.w0 cx.S m) K:=by
   intro a0 g as v K hr hc hK
   refine⟨v,fun w hw=>?_,hK⟩
   unfold Oper.quietAt
   rw [hr w]
   refine⟨rfl,(hc w hw).mono ?_⟩
   rintro en w' ⟨rfl,hf⟩
   exact⟨rfl,hw.same hf⟩
  have goOn:∀ (e':Env) (kn':List (Nat × Bool)),EnvOk cx.n cx.df e' a→KnOk kn' e' →
    XOq cx o.dst o.op o.type e' m (fun v m'=>cont kn' o.dst v e' fun kn'' e''=>XQ cx ops k rest none kn'' e'' m') (fun ch m'=>k (.panic ch) e m')→o.quiet cx.P a (MemOk cx.w0 cx.S m) (wpQuiet cx.P ops (MemOk cx.w0 cx.S m) (fun a'=>∃ e',EnvOk cx.n cx.df e' a'∧k .normal e' m) rest):=by
   intro e' kn' he' hkn' hx
   have hK:∀ v,(cont kn' o.dst v e' fun kn'' e''=>XQ cx ops k rest none kn'' e'' m)→wpQuiet cx.P ops (MemOk cx.w0 cx.S m) (fun a'=>∃ e',EnvOk cx.n cx.df e' a'∧k .normal e' m) rest (a.put o.dst v):=by
    intro v hk
    obtain ⟨kn'',h1,h2⟩:=KnOk.put hkn' hk
    exact ih none kn'' _ _ hds' (he'.put hd v) ScOk.none_ h1 h2
   have hval:zcI cx o.dst o.op e' (fun v=>cont kn' o.dst v e' fun kn'' e''=>XQ cx ops k rest none kn'' e'' m)→o.quiet cx.P a (MemOk cx.w0 cx.S m) (wpQuiet cx.P ops (MemOk cx.w0 cx.S m) (fun a'=>∃ e',EnvOk cx.n cx.df e' a'∧k .normal e' m) rest):=by
    intro h
    unfold zcI at h
    split at h
    ·rename_i v hv
     exact quietV a v _ (fun w _=>zcX ht he' hv (fun p hp=>by cases hp)) (hK v h)
    ·rename_i v p hv
     exact quietV a v _ (fun w _=>zcX ht he' hv (fun q hq=>by cases hq;exact h.1)) (hK v h.2)
    ·exact h.elim
   have hread:∀ (sm:Sem Value) (v:Value),execOp a.eval o=(do pure (Next.value (← sm)))→RdG cx True m sm v→(cont kn' o.dst v e' fun kn'' e''=>XQ cx ops k rest none kn'' e'' m)→o.quiet cx.P a (MemOk cx.w0 cx.S m) (wpQuiet cx.P ops (MemOk cx.w0 cx.S m) (fun a'=>∃ e',EnvOk cx.n cx.df e' a'∧k .normal e' m) rest) :=
    fun sm v hs hr hk=>quietV a v _ (fun w hw=>zaZ _ _ hs (hr trivial w hw)) (hK v hk)
   generalize hop:o.op=op at hx hval
   unfold XOq at hx
   split at hx
   ·rename_i t x
    split at hx
    ·rename_i u hu
     obtain ⟨v,hr,hk⟩:=hx
     refine hread _ v ?_ hr hk
     unfold execOp;rw [hop];simp only [he'.ev hu]
    ·exact hx.elim
   ·rename_i st t x
    split at hx
    ·exact hval hx
    ·split at hx
     ·rename_i u hu
      obtain ⟨v,hr,hk⟩:=hx
      refine hread _ v ?_ hr hk
      unfold execOp;rw [hop];simp only [he'.ev hu]
     ·exact hx.elim
   ·rename_i bop t x y yt
    split at hx
    ·rename_i u v hu hv
     split at hx
     ·exact hval hx
     ·obtain ⟨r,hr,hk⟩:=hx
      refine hread _ r ?_ hr hk
      unfold execOp;rw [hop];simp only [he'.ev hu,he'.ev hv,zdK]
    ·exact hx.elim
   ·rename_i c
    obtain ⟨callee,args,argTypes⟩:=c
    dsimp only at hx
    split at hx
    ·rename_i g
     split at hx
     ·rename_i as has
      obtain ⟨v,hc,hk⟩:=hx
      obtain ⟨hen,hcl⟩:=hc trivial
      refine quietC a g as v _ (fun w=>?_) hcl (hK v hk)
      have h2:=zb0 he' has
      unfold execOp
      rw [hop]
      simp only [resolve,h2,Act.eval,Deferred.ofValue,Sem.run_bind,Sem.run_pure,Result.andThen_ok,invoke]
      rw [hen]
      congr 2
      apply Array.toList_inj.1
      simp
     ·exact hx.elim
    ·rename_i f _
     split at hx
     ·rename_i g fs cs as hf has
      obtain ⟨v,hc,hk⟩:=hx
      obtain ⟨hen,hcl⟩:=hc trivial
      refine quietC a g _ v _ (fun w=>?_) hcl (hK v hk)
      have h2:=zb0 he' has
      have h3:=he'.ev hf
      unfold execOp
      rw [hop]
      simp only [resolve,h2,h3,Deferred.ofValue,Sem.run_bind,Sem.run_pure,Result.andThen_ok,invoke]
      rw [hen]
      congr 2
      apply Array.toList_inj.1
      simp
     ·exact hx.elim
    ·exact hval hx
    ·exact hx.elim
   ·exact hx.elim
   ·exact hx.elim
   ·exact hx.elim
   ·exact hx.elim
   ·exact hx.elim
   ·exact hx.elim
   ·exact hx.elim
   ·exact hval hx
  have goOff:∀ (e':Env) (kn':List (Nat × Bool)),EnvOk cx.n cx.df e' a→KnOk kn' e'→(cont kn' o.dst undef e' fun kn'' e''=>XQ cx ops k rest none kn'' e'' m)→wpQuiet cx.P ops (MemOk cx.w0 cx.S m) (fun a'=>∃ e',EnvOk cx.n cx.df e' a'∧k .normal e' m) rest (a.put o.dst undef):=by
   intro e' kn' he' hkn' hx
   obtain ⟨kn'',h1,h2⟩:=KnOk.put hkn' hx
   exact ih none kn'' _ _ hds' (he'.put hd undef) ScOk.none_ h1 h2
  change XLs cx (XOq cx) ops k o rest (XQ cx ops k rest) sc kn e m at h
  unfold XLs at h
  split at h
  ·-- no guard
   rename_i hg
   refine zji (za1 hg) ?_
   split at h
   ·rename_i c x y hop
    split at h
    ·rename_i v hv
     obtain ⟨t,h1,h2⟩:=zoo he hsc hkn hv
     have hrun:∀ w,(execOp a.eval o).run cx.P w=.ok (.value v) w:=by
      intro w
      unfold execOp
      rw [hop]
      simp [h1,asBool,h2]
     obtain ⟨kn',h3,h4⟩:=KnOk.put hkn h
     exact quietV a v _ (fun w _=>hrun w) (ih none kn' _ _ hds' (he.put hd v) ScOk.none_ h3 h4)
    ·exact h.elim
   ·exact goOn e kn he hkn h
  ·rename_i j wnt hg
   split at h
   ·exact h.elim
   ·rename_i s hs
    split at h
    ·rename_i lit hk
     have hb:=hkn _ _ hk
     split at h
     ·rename_i hl
      refine zji ?_ (goOn e kn he hkn h)
      rw [za0 he hg hs hb,← ziY];exact hl
     ·rename_i hl
      refine zhN ?_ (goOff e kn he hkn h)
      rw [za0 he hg hs hb,← ziY];exact hl
    ·split at h
     ·rename_i b hb
      have hwn:=za0 (ops:=ops) he hg hs hb
      split at h
      ·-- under a guard that stays open
       split at h
       ·exact h.elim
       ·rename_i d hdst
        split at h
        ·exact h.elim
        ·rename_i hfresh
         have hne:s≠d:=by rintro rfl;rw [hfresh] at hb;cases hb
         have hoff:∀ v,EnvOk cx.n cx.df e (a.put (some d) v):=fun v=>he.put_off v hfresh
         rw [hdst] at hd
         have step:∀ ce:Env,(b=wnt→EnvOk cx.n cx.df ce a)→(zju cx b wnt d o.op ce m fun ce'=>XQ cx ops k rest (some ⟨s,wnt,b,ce'⟩) kn e m)→wpQuiet cx.P ops (MemOk cx.w0 cx.S m) (fun a'=>∃ e',EnvOk cx.n cx.df e' a'∧k .normal e' m) (o::rest) a:=by
          intro ce hce h
          have fin:∀ (ce':Env) (v:Value),(b=wnt→EnvOk cx.n cx.df ce' (a.put (some d) v))→XQ cx ops k rest (some ⟨s,wnt,b,ce'⟩) kn e m→wpQuiet cx.P ops (MemOk cx.w0 cx.S m) (fun a'=>∃ e',EnvOk cx.n cx.df e' a'∧k .normal e' m) rest (a.put (some d) v):=fun ce' v hce' hx =>
           ih (some ⟨s,wnt,b,ce'⟩) kn e _ hds' (hoff v) (fun c hc=>by cases hc;exact⟨hb,hce'⟩) hkn hx
          have offCase:¬ b=wnt→∀ ce',XQ cx ops k rest (some ⟨s,wnt,b,ce'⟩) kn e m→wpQuiet cx.P ops (MemOk cx.w0 cx.S m) (fun a'=>∃ e',EnvOk cx.n cx.df e' a'∧k .normal e' m) (o::rest) a:=fun hbw ce' hx =>
           zhN (by rw [hwn];simpa using hbw) (by rw [hdst];exact fin ce' undef (fun hh=>absurd hh hbw) hx)
          have onCase:b=wnt→∀ v,(∀ w,MemOk cx.w0 cx.S m w→(execOp a.eval o).run cx.P w=.ok (.value v) w)→XQ cx ops k rest (some ⟨s,wnt,b,(d,v)::ce⟩) kn e m→wpQuiet cx.P ops (MemOk cx.w0 cx.S m) (fun a'=>∃ e',EnvOk cx.n cx.df e' a'∧k .normal e' m) (o::rest) a:=fun hbw v hrun hx =>
           zji (by rw [hwn];simpa using hbw) (quietV a v _ hrun (by rw [hdst];exact fin _ v (fun _=>(hce hbw).put (d:=some d) hd v) hx))
          have viaPop:(match popV cx (some d) o.op ce with
            | some (v,none)=>XQ cx ops k rest (some ⟨s,wnt,b,(d,v)::ce⟩) kn e m
            | some (v,some p)=>(b=wnt→p)∧XQ cx ops k rest (some ⟨s,wnt,b,(d,v)::ce⟩) kn e m
            | none=>(b=wnt→False)∧XQ cx ops k rest (some ⟨s,wnt,b,ce⟩) kn e m)→wpQuiet cx.P ops (MemOk cx.w0 cx.S m) (fun a'=>∃ e',EnvOk cx.n cx.df e' a'∧k .normal e' m) (o::rest) a:=by
           intro h
           split at h
           ·rename_i v hv
            by_cases hbw:b=wnt
            ·exact onCase hbw v (fun w _=>zcX ht (hce hbw) (by rw [hdst];exact hv) (fun p hp=>by cases hp)) h
            ·exact offCase hbw _ h
           ·rename_i v p hv
            by_cases hbw:b=wnt
            ·exact onCase hbw v (fun w _=>zcX ht (hce hbw) (by rw [hdst];exact hv) (fun q hq=>by cases hq;exact h.1 hbw)) h.2
            ·exact offCase hbw _ h.2
           ·by_cases hbw:b=wnt
            ·exact (h.1 hbw).elim
            ·exact offCase hbw _ h.2
          have viaRead:∀ (sm:Sem Value) (v:Value),(b=wnt→execOp a.eval o=(do pure (Next.value (← sm))))→RdG cx (b=wnt) m sm v→XQ cx ops k rest (some ⟨s,wnt,b,(d,v)::ce⟩) kn e m→wpQuiet cx.P ops (MemOk cx.w0 cx.S m) (fun a'=>∃ e',EnvOk cx.n cx.df e' a'∧k .normal e' m) (o::rest) a:=by
           intro sm v hsm hl hx
           by_cases hbw:b=wnt
           ·exact onCase hbw v (fun w hw=>zaZ _ _ (hsm hbw) (hl hbw w hw)) hx
           ·exact offCase hbw _ hx
          have viaNone:((b=wnt→False)∧XQ cx ops k rest (some ⟨s,wnt,b,ce⟩) kn e m)→wpQuiet cx.P ops (MemOk cx.w0 cx.S m) (fun a'=>∃ e',EnvOk cx.n cx.df e' a'∧k .normal e' m) (o::rest) a:=by
           intro h
           by_cases hbw:b=wnt
           ·exact (h.1 hbw).elim
           ·exact offCase hbw _ h.2
          unfold zju at h
          split at h
          ·rename_i t x hop
           split at h
           ·rename_i u hu
            obtain ⟨v,hl,hx⟩:=h
            refine viaRead _ v (fun hbw=>?_) hl hx
            unfold execOp
            rw [hop]
            simp only [(hce hbw).ev hu]
           ·exact viaNone h
          ·rename_i st t x hop
           split at h
           ·rw [← hop] at h;exact viaPop h
           ·split at h
            ·rename_i u hu
             obtain ⟨v,hl,hx⟩:=h
             refine viaRead _ v (fun hbw=>?_) hl hx
             unfold execOp
             rw [hop]
             simp only [(hce hbw).ev hu]
            ·exact viaNone h
          ·rename_i op t x y yt hop
           split at h
           ·rename_i u v hu hv
            split at h
            ·rw [← hop] at h;exact viaPop h
            ·obtain ⟨r,hl,hx⟩:=h
             refine viaRead _ r (fun hbw=>?_) hl hx
             unfold execOp
             rw [hop]
             simp only [(hce hbw).ev hu,(hce hbw).ev hv,zdK]
           ·exact viaNone h
          ·rename_i g args ats hop
           split at h
           ·rename_i as has
            obtain ⟨v,hl,hx⟩:=h
            by_cases hbw:b=wnt
            ·obtain ⟨hen,hcl⟩:=hl hbw
             refine zji (by rw [hwn];simpa using hbw) ?_
             have h2:=zb0 (hce hbw) has
             refine quietC a g as v _ (fun w=>?_) hcl (by rw [hdst];exact fin _ v (fun _=>(hce hbw).put (d:=some d) hd v) hx)
             unfold execOp
             rw [hop]
             simp only [resolve,h2,Act.eval,Deferred.ofValue,Sem.run_bind,Sem.run_pure,Result.andThen_ok,invoke]
             rw [hen]
             congr 2
             apply Array.toList_inj.1
             simp
            ·exact offCase hbw _ hx
           ·exact viaNone h
          ·exact viaPop h
         split at h
         ·rename_i c hc
          obtain ⟨h1,h2,h3⟩:=zgK hc
          obtain ⟨g1,g2⟩:=hsc c h1
          rw [h2,hb] at g1
          have hbb:b=c.b:=by injection g1 with g1;injection g1
          exact step c.ce (fun hbw=>g2 (by rw [← hbb,hbw,h3])) h
         ·exact step e (fun _=>he) h
      ·split at h
       ·-- want true
        cases b with
        | true=>exact zji (by rw [hwn];rfl) (goOn _ _ (he.same hb) (hkn.cons s true) (h.1 rfl))
        | false=>exact zhN (by rw [hwn];rfl) (goOff _ _ (he.same hb) (hkn.cons s false) (h.2 rfl))
       ·cases b with
        | true=>exact zhN (by rw [hwn];rfl) (goOff _ _ (he.same hb) (hkn.cons s true) (h.1 rfl))
        | false=>exact zji (by rw [hwn];rfl) (goOn _ _ (he.same hb) (hkn.cons s false) (h.2 rfl))
     ·rename_i vs hb
      exact zhN (zha he hg hs hb) (goOff e kn he hkn h)
     ·exact h.elim
theorem zep (w:World) (n:Nat):Fr (fun _=>False) w { w with drawn:=n }:=⟨rfl,rfl,rfl,Nat.le_refl _,fun _ _ _=>rfl⟩
theorem zao (ht:TabOk cx.P cx.tab) (hmix:cx.P.follows .mixedOrders=true) {id:Nat} {ops:Array Oper} (hB:Region.lexB .any ops=true) (hds:zbD cx.n ops.toList=true) {k:Exit→Env→Mem→Prop} {e:Env} {m:Mem} (h:XQ cx ops k ops.toList none [] e m):Dr cx id ops k e m:=by
 intro a w he hm
 refine wp_region_quiet (C:=MemOk cx.w0 cx.S m) hmix hB (hm.same (zep w _)) ?_
 have:=zxt ht ops.toList none [] e a hds he ScOk.none_ (KnOk.nil e) h
 have mono:∀ (l:List Oper) (a:Act) (Q Q':Act→Prop),(∀ a,Q a→Q' a)→wpQuiet cx.P ops (MemOk cx.w0 cx.S m) Q l a→wpQuiet cx.P ops (MemOk cx.w0 cx.S m) Q' l a:=by
  intro l
  induction l with
  | nil=>intro a Q Q' hq h;exact hq _ h
  | cons o r ih =>
   intro a Q Q' hq h
   unfold wpQuiet at h ⊢
   split at h
   ·rename_i hw;rw [if_pos hw];exact Oper.quiet_mono (fun a=>ih a Q Q' hq) h
   ·rename_i hw;rw [if_neg hw];exact ih _ Q Q' hq h
 exact mono _ _ _ _ (fun a' ⟨e',h1,h2⟩ w' hw'=>⟨e',m,h1,hw',h2⟩) this
end soundL
section soundC
variable {cx:Cx}
theorem zg5 (ht:TabOk cx.P cx.tab):∀ (c:Code) (k:Exit→Env→Mem→Prop) (e:Env) (m:Mem) (a:Act) (w:World),EnvOk cx.n cx.df e a→MemOk cx.w0 cx.S m w→XC cx c k e m→c.wp cx.P (Qk cx k) a w:=by
 intro c
 induction c with
 | skip=>intro k e m a w he hm h;exact wp_skip ⟨e,m,he,hm,h⟩
 | label l=>intro k e m a w he hm h;exact wp_label ⟨e,m,he,hm,h⟩
 | ret=>intro k e m a w he hm h;exact wp_ret ⟨e,m,he,hm,h⟩
 | exit id=>intro k e m a w he hm h;exact wp_exit ⟨e,m,he,hm,h⟩
 | seq x y ihx ihy =>
  intro k e m a w he hm h
  change zxr cx x y (XC cx x) (XC cx y) k e m at h
  unfold zxr at h
  split at h
  ·exact h a w he hm
  change Xseq (XC cx x) (XC cx y) k e m at h
  refine wp_seq (wp_mono (ihx _ e m a w he hm h) ?_)
  rintro ex a' w' ⟨e',m',he',hm',hk⟩
  cases ex with
  | normal=>exact ihy k e' m' a' w' he' hm' hk
  | exit id=>exact⟨e',m',he',hm',hk⟩
  | goto l=>exact⟨e',m',he',hm',hk⟩
  | ret=>exact⟨e',m',he',hm',hk⟩
  | panic ch=>exact⟨e',m',he',hm',hk⟩
  | outgrown=>exact⟨e',m',he',hm',hk⟩
 | block id x ih =>
  intro k e m a w he hm h
  refine wp_block (wp_mono (ih _ e m a w he hm h) ?_)
  rintro ex a' w' ⟨e',m',he',hm',hk⟩
  cases ex with
  | exit i =>
   dsimp only at hk
   split at hk
   ·rename_i hb
    have:=Nat.eq_of_beq_eq_true hb
    subst this
    show (if i=i then _ else _)
    rw [if_pos rfl]
    exact⟨e',m',he',hm',hk⟩
   ·rename_i hb
    have hne:¬ i=id:=by rintro rfl;simp at hb
    show (if i=id then _ else _)
    rw [if_neg hne]
    exact⟨e',m',he',hm',hk⟩
  | normal=>exact⟨e',m',he',hm',hk⟩
  | goto l=>exact⟨e',m',he',hm',hk⟩
  | ret=>exact⟨e',m',he',hm',hk⟩
  | panic ch=>exact⟨e',m',he',hm',hk⟩
  | outgrown=>exact⟨e',m',he',hm',hk⟩
 | cond c x y ihx ihy =>
  intro k e m a w he hm h
  change zxs c (XC cx x) (XC cx y) k e m at h
  unfold zxs at h
  split at h
  ·rename_i b hb
   exact wp_cond_split (he.ev hb) (fun hh=>ihx k e m a w he hm (h.1 hh)) (fun hh=>ihy k e m a w he hm (h.2 hh))
  ·exact h.elim
 | region id ops draw =>
  intro k e m a w he hm h
  cases draw with
  | false =>
   change (match zbD cx.n ops.toList with|true=>XL cx ops k ops.toList none [] e m|false=>False) at h
   split at h
   ·rename_i hd
    exact wp_region_list (zs0 ht ops.toList none [] e m a w hd he hm ScOk.none_ (KnOk.nil e) h)
   ·exact h.elim
  | true=>exact h a w he hm
 | loop c _=>intro k e m a w he hm h;exact h a w he hm
 | rangeFunc f ps as bd _ _=>intro k e m a w he hm h;exact h a w he hm
 | scope bd _=>intro k e m a w he hm h;exact h a w he hm
 | goto l=>intro k e m a w he hm h;exact h a w he hm
 | refuse why=>intro k e m a w he hm h;exact h a w he hm
def SubM (cx:Cx) (m m':Mem):Prop:=∀ w,MemOk cx.w0 cx.S m w→MemOk cx.w0 cx.S m' w
theorem SubM.refl (cx:Cx) (m:Mem):SubM cx m m:=fun _ h=>h
theorem SubM.perm {m m':Mem} (h:m.Perm m'):SubM cx m m':=fun _ hm=>hm.perm h
theorem SubM.sub {m m':Mem} (h:m'.Sublist m):SubM cx m m':=fun _ hm=>hm.sublist h
theorem cut {γ:Type} (st1 st2:List Nat) {P:Program} {n:Nat} {w0:World} {S:Nat→Prop} {tab:Tab} {wr pf st:List Nat} {df:List Deferred} (ht:TabOk P tab) {x y:Code} {k:KK} {e:Env} {m:Mem} (I:γ→Prop) (E:γ→Env) (M:γ→Mem)
  (h1:XC ⟨P,n,w0,S,tab,wr,pf,st1,df⟩ x (fun ex e m=>match ex with
   | .normal=>∃ g,I g∧Env.sub (E g) e∧SubM ⟨P,n,w0,S,tab,wr,pf,st1,df⟩ m (M g)
   | ex=>k ex e m) e m)
  (h2:∀ g,I g→XC ⟨P,n,w0,S,tab,wr,pf,st2,df⟩ y k (E g) (M g)):Cut ⟨P,n,w0,S,tab,wr,pf,st,df⟩ x y k e m:=by
 intro a w he hm
 refine wp_seq (wp_mono (zg5 (cx:=⟨P,n,w0,S,tab,wr,pf,st1,df⟩) ht x _ e m a w he hm h1) ?_)
 rintro ex a' w' ⟨e',m',he',hm',hk⟩
 cases ex with
 | normal =>
  obtain ⟨g,q1,q2,q3⟩:=hk
  exact zg5 (cx:=⟨P,n,w0,S,tab,wr,pf,st2,df⟩) ht y k (E g) (M g) a' w' (he'.sub q2) (q3 w' hm') (h2 g q1)
 | exit id=>exact⟨e',m',he',hm',hk⟩
 | goto l=>exact⟨e',m',he',hm',hk⟩
 | ret=>exact⟨e',m',he',hm',hk⟩
 | panic ch=>exact⟨e',m',he',hm',hk⟩
 | outgrown=>exact⟨e',m',he',hm',hk⟩
theorem lp {γ:Type} (ht:TabOk cx.P cx.tab) {c:Code} {k:Exit→Env→Mem→Prop} {e:Env} {m:Mem} (I:γ→Prop) (E:γ→Env) (M:γ→Mem) (μ:γ→Nat) (g0:γ) (h0:I g0) (he0:Env.sub (E g0) e) (hm0:SubM cx m (M g0))
  (round:∀ g,I g→XC cx c (fun ex e m=>match ex with
   | .normal=>∃ g',I g'∧μ g'<μ g∧Env.sub (E g') e∧SubM cx m (M g')
   | ex=>k ex e m) (E g) (M g)):Lp cx c k e m:=by
 intro a w he hm
 refine wp_loop (fun a w=>∃ g,I g∧EnvOk cx.n cx.df (E g) a∧MemOk cx.w0 cx.S (M g) w) (fun a w=>Classical.epsilon fun n=>∃ g,I g∧EnvOk cx.n cx.df (E g) a∧MemOk cx.w0 cx.S (M g) w∧μ g=n∧∀ g',I g'→EnvOk cx.n cx.df (E g') a→MemOk cx.w0 cx.S (M g') w→n≤μ g') ⟨g0,h0,he.sub he0,hm0 w hm⟩ ?_
 have least:∀ a w,(∃ g,I g∧EnvOk cx.n cx.df (E g) a∧MemOk cx.w0 cx.S (M g) w)→∃ n g,I g∧EnvOk cx.n cx.df (E g) a∧MemOk cx.w0 cx.S (M g) w∧μ g=n∧∀ g',I g'→EnvOk cx.n cx.df (E g') a→MemOk cx.w0 cx.S (M g') w→n≤μ g':=by
  intro a w ⟨g,h1,h2,h3⟩
  have:∀ n,∀ g,μ g=n→I g→EnvOk cx.n cx.df (E g) a→MemOk cx.w0 cx.S (M g) w→∃ n g,I g∧EnvOk cx.n cx.df (E g) a∧MemOk cx.w0 cx.S (M g) w∧μ g=n∧∀ g',I g'→EnvOk cx.n cx.df (E g') a→MemOk cx.w0 cx.S (M g') w→n≤μ g':=by
   intro n
   induction n using Nat.strongRecOn with
   | _ n ih =>
    intro g hn h1 h2 h3
    by_cases hall:∀ g',I g'→EnvOk cx.n cx.df (E g') a→MemOk cx.w0 cx.S (M g') w→n≤μ g'
    ·exact⟨n,g,h1,h2,h3,hn,hall⟩
    ·simp only [Classical.not_forall] at hall
     obtain ⟨g',k1,k2,k3,k4⟩:=hall
     exact ih (μ g') (by omega) g' rfl k1 k2 k3
  exact this _ g rfl h1 h2 h3
 intro a w hI
 have hsp:=Classical.epsilon_spec (least a w hI)
 obtain ⟨g,h1,h2,h3,h4,_⟩:=hsp
 refine wp_mono (zg5 ht c _ (E g) (M g) a w h2 h3 (round g h1)) ?_
 rintro ex a' w' ⟨e',m',he',hm',hk⟩
 cases ex with
 | normal =>
  obtain ⟨g',q1,q2,q3,q4⟩:=hk
  have hI':∃ g,I g∧EnvOk cx.n cx.df (E g) a'∧MemOk cx.w0 cx.S (M g) w':=⟨g',q1,he'.sub q3,q4 w' hm'⟩
  refine⟨hI',?_⟩
  have hsp':=Classical.epsilon_spec (least a' w' hI')
  obtain ⟨g2,_,_,_,_,r5⟩:=hsp'
  have:=r5 g' q1 (he'.sub q3) (q4 w' hm')
  show _<_
  omega
 | exit id=>exact⟨e',m',he',hm',hk⟩
 | goto l=>exact⟨e',m',he',hm',hk⟩
 | ret=>exact⟨e',m',he',hm',hk⟩
 | panic ch=>exact⟨e',m',he',hm',hk⟩
 | outgrown=>exact⟨e',m',he',hm',hk⟩
/-! ## a function -/
def resL (cx:Cx) (m:Mem) (e:Env):List ResultVar→List Value→Prop
 | [],vs=>vs=[]
 | .tmp t::r,vs=>∃ v us,e.get t=some v∧vs=v::us∧resL cx m e r us
 | .cell t ty::r,vs=>∃ u v us,e.get t=some u∧(∀ w,MemOk cx.w0 cx.S m w→(Instr.loadAt ty u).run cx.P w=.ok v w)∧vs=v::us∧resL cx m e r us
def zuI:List Value→Value
 | [v]=>v
 | vs=>.tuple vs.toArray
def fin (cx:Cx) (fn:Func) (R:Ending→World→Prop) (ex:Exit) (e:Env) (m:Mem):Prop :=
 match ex with
 | .normal|.ret=>∃ vs,resL cx m e fn.results.toList vs∧∀ w,MemOk cx.w0 cx.S m w→R (.returned (zuI vs)) w
 | .panic ch=>∀ w,MemOk cx.w0 cx.S m w→R (.panicked ch) w
 | _=>False
end soundC
section soundD
variable {cx:Cx}
def Ld (cx:Cx) (m:Mem) (t:Nat) (x v:Value):Prop:=∀ w,MemOk cx.w0 cx.S m w→(Instr.loadAt t x).run cx.P w=.ok v w
theorem Ld.g {m:Mem} {t:Nat} {x v:Value} (h:Ld cx m t x v) {g:Prop}:RdG cx g m (Instr.loadAt t x) v:=fun _=>h
theorem ldg {m:Mem} {t:Nat} {x v:Value} {g:Prop} (h:g→Ld cx m t x v):RdG cx g m (Instr.loadAt t x) v:=h
theorem zai {m:Mem} {t:Nat} {x v:Value} {K:Value→Mem→Prop} (h:Ld cx m t x v) (hk:K v m):Rn cx m (Instr.loadAt t x) K :=
 fun w hm=>⟨v,w,m,h w hm,hm,hk⟩
inductive Has:Mem→Res→Prop
 | here {r:Res} {m:Mem}:Has (r::m) r
 | there {r s:Res} {m:Mem}:Has m r→Has (s::m) r
theorem Has.mem {m:Mem} {r:Res} (h:Has m r):r∈m:=by
 induction h with
 | here=>exact List.mem_cons_self ..
 | there _ ih=>exact List.mem_cons_of_mem _ ih
inductive Upd:Mem→Res→Res→Mem→Prop
 | here {r r':Res} {m:Mem}:Upd (r::m) r r' (r'::m)
 | there {r r' s:Res} {m m':Mem}:Upd m r r' m'→Upd (s::m) r r' (s::m')
theorem Upd.perm {m m':Mem} {r r':Res} (h:Upd m r r' m'):∃ rest,m.Perm (r::rest)∧m'.Perm (r'::rest):=by
 induction h with
 | here=>exact⟨_,List.Perm.refl _,List.Perm.refl _⟩
 | there _ ih =>
  obtain ⟨rest,h1,h2⟩:=ih
  exact⟨_::rest,((h1.cons _).trans (List.Perm.swap ..)),((h2.cons _).trans (List.Perm.swap ..))⟩
theorem zeF {P:Program} {t:Nat} {i:TyI} (h:i.ok P t) (hk:i.kind.flat=true) {a:Addr} {v:Value} {w:World} (hc:w.cell? a=some v):(Instr.loadAt t (.pointer (some a))).run P w=.ok v w:=by
 obtain ⟨d,hd,hkd⟩:=h.desc
 have hagg:zmc d=false:=by
  cases hi:i.kind<;>rw [hi] at hkd hk<;>simp [TyK.ok,TyK.flat] at hkd hk
  ·exact hkd.1
  ·subst hkd;rfl
  ·subst hkd;rfl
  ·subst hkd;rfl
  ·subst hkd;rfl
  ·obtain ⟨ms,rfl⟩:=hkd;rfl
 have:(isAgg t).run P w=.ok false w:=by
  cases d<;>simp [zmc] at hagg<;>simp [isAgg,run_underlying hd]
 simp [Instr.loadAt,Instr.sureAddr,loadVar,this,load,Sem.run,hc]
theorem zh9 {P:Program} {t:Nat} {i:TyI} {fs:List (Nat × Nat)} (h:i.ok P t) (hk:i.kind=.struct fs) {a:Addr} {vs:List Value} {w:World} (hl:vs.length=i.cells) (hc:∀ j v,vs[j]?=some v→w.cell? (a.add j)=some v) :
  (Instr.loadAt t (.pointer (some a))).run P w=.ok (.agg vs.toArray) w:=by
 obtain ⟨d,hd,hkd⟩:=h.desc
 rw [hk] at hkd
 obtain ⟨flds,rfl,_⟩:=hkd
 have:(isAgg t).run P w=.ok true w:=by simp [isAgg,run_underlying hd]
 have h2:=run_loadCells_list (P:=P) w a vs hc
 rw [hl] at h2
 simp [Instr.loadAt,Instr.sureAddr,loadVar,this,za3 h,h2]
theorem zaJ {w:World} {b:Nat} {cs:List Value} {t':Nat} (h:w.heap[b]?=some (.cells cs.toArray t')) (off:Nat):w.cell? ⟨b,off,none⟩=cs[off]?:=by
 have:=cell_of_row w b off cs.toArray t' (0,0) h
 simpa using this
theorem ld1 (ht:TabOk cx.P cx.tab) {m:Mem} {t:Nat} {i:TyI} {b off t':Nat} {cs:List Value} {v:Value} (hh:Has m (.blk b (.cells cs.toArray t'))) (hi:cx.tab.get t=some i) (hk:i.kind.flat=true) (hv:nth cs off=some v):Ld cx m t (.pointer (some ⟨b,off,none⟩)) v:=by
 intro w hm
 refine zeF (ht _ _ hi) hk ?_
 rw [zaJ (hm.ok _ hh.mem),← zco]
 exact hv
def zcJ {α:Type}:Nat→List α→List α
 | 0,_=>[]
 | _+1,[]=>[]
 | n+1,x::r=>x::zcJ n r
def zeZ {α:Type}:Nat→List α→List α
 | 0,l=>l
 | _+1,[]=>[]
 | n+1,_::r=>zeZ n r
theorem zc1 {α:Type}:∀ (n:Nat) (l:List α),zcJ n l=l.take n
 | 0,l=>by simp [zcJ]
 | n+1,[]=>by simp [zcJ]
 | n+1,x::r=>by simp [zcJ,zc1 n r]
theorem zcG {α:Type}:∀ (n:Nat) (l:List α),zeZ n l=l.drop n
 | 0,l=>by simp [zeZ]
 | n+1,[]=>by simp [zeZ]
 | n+1,x::r=>by simp [zeZ,zcG n r]
theorem ldN (ht:TabOk cx.P cx.tab) {m:Mem} {t:Nat} {i:TyI} {b off t':Nat} {cs vs:List Value} {fs:List (Nat × Nat)} (hh:Has m (.blk b (.cells cs.toArray t'))) (hi:cx.tab.get t=some i) (hk:i.kind=.struct fs)
  (hv:zcJ i.cells (zeZ off cs)=vs) (hl:vs.length=i.cells):Ld cx m t (.pointer (some ⟨b,off,none⟩)) (.agg vs.toArray):=by
 intro w hm
 refine zh9 (ht _ _ hi) hk hl fun j v hj=>?_
 rw [Addr.add_lit,zaJ (hm.ok _ hh.mem)]
 rw [← hv,zc1,zcG,List.getElem?_take] at hj
 split at hj
 ·rwa [List.getElem?_drop] at hj
 ·cases hj
theorem ldF (ht:TabOk cx.P cx.tab) {m:Mem} {t:Nat} {i:TyI} {a:Addr} {v:Value} (hc:cx.w0.cell? a=some v) (hs:¬ cx.S a.block) (hi:cx.tab.get t=some i) (hk:i.kind.flat=true):Ld cx m t (.pointer (some a)) v :=
 fun _ hm=>zeF (ht _ _ hi) hk (hm.far hc hs)
theorem ldFN (ht:TabOk cx.P cx.tab) {m:Mem} {t:Nat} {i:TyI} {a:Addr} {vs:List Value} {fs:List (Nat × Nat)} (hc:∀ j v,vs[j]?=some v→cx.w0.cell? (a.add j)=some v) (hs:¬ cx.S a.block) (hi:cx.tab.get t=some i) (hk:i.kind=.struct fs) (hl:vs.length=i.cells) :
  Ld cx m t (.pointer (some a)) (.agg vs.toArray):=by
 intro w hm
 refine zh9 (ht _ _ hi) hk hl fun j v hj=>hm.far (hc j v hj) ?_
 have:(a.add j).block=a.block:=by unfold Addr.add;split<;>rfl
 rw [this]
 exact hs
def oneC:Value→Bool
 | .agg _|.tuple _=>false
 | _=>true
theorem zwO (v:Value):oneC v=v.oneCell':=by cases v<;>rfl
def zfH:List Value→Bool
 | []=>true
 | v::r=>match oneC v with
  | true=>zfH r
  | false=>false
theorem zgy:∀ {l:List Value},zfH l=true→∀ v∈l,v.oneCell'=true
 | [],_,v,hv=>by cases hv
 | u::r,h,v,hv=>by
  simp only [zfH] at h
  split at h
  ·rename_i hu
   rcases List.mem_cons.1 hv with rfl|hv
   ·rw [← zwO];exact hu
   ·exact zgy h v hv
  ·cases h
def putL (off:Nat) (vs l:List Value):List Value:=zbp off vs l
theorem zaN:∀ (vs:List Value) (off:Nat) (l:List Value),off+vs.length≤l.length→zbp off vs l=l.take off++vs++l.drop (off+vs.length)
 | [],off,l,_=>by simp [zbp]
 | v::r,off,l,h=>by
  simp only [List.length_cons] at h
  simp only [zbp]
  rw [zaN r (off+1) (l.set off v) (by simp;omega)]
  have h1:(l.set off v).take (off+1)=l.take off++[v]:=by
   rw [List.take_succ_eq_append_getElem (by simp;omega),List.take_set_of_le (Nat.le_refl _)]
   simp
  have h2:(l.set off v).drop (off+1+r.length)=l.drop (off+(v::r).length):=by
   rw [List.drop_set_of_lt (by omega)]
   simp only [List.length_cons]
   congr 1
   omega
  rw [h1,h2]
  simp
theorem Fr.setRow (w:World) (g:Nat) (cs:Array Value):Fr (·=g) w (w.setRow g cs) :=
 ⟨rfl,rfl,rfl,by simp [World.setRow],fun k _ hs=>by
  simp only [World.setRow,Array.getElem?_modify]
  rw [if_neg (fun e=>hs e.symm)]⟩
theorem zh4 {w:World} {g:Nat} {cur cs:Array Value} {t:Nat} {f:Nat × Nat} (h:w.heap[g]?=some (.cells cur t f)):(w.setRow g cs).heap[g]?=some (.cells cs t f):=by
 simp [World.setRow,Array.getElem?_modify,h]
theorem ziv {w0 w w':World} {S:Nat→Prop} {m m':Mem} {b:Nat} {o o':Obj} (h:MemOk w0 S m w) (hu:Upd m (.blk b o) (.blk b o') m') (hf:Fr (·=b) w w') (ho:w'.heap[b]?=some o'):MemOk w0 S m' w':=by
 obtain ⟨rest,h1,h2⟩:=hu.perm
 exact ((h.perm h1).turn hf ho).perm h2.symm
theorem zaO (ht:TabOk cx.P cx.tab) {m m':Mem} {t:Nat} {i:TyI} {b off t':Nat} {cs cs':List Value} {v:Value} {K:Mem→Prop} (hi:cx.tab.get t=some i) (hu:Upd m (.blk b (.cells cs.toArray t')) (.blk b (.cells cs'.toArray t')) m')
  (hl:(zaS v).length=i.cells) (h1:zfH (zaS v)=true) (hfit:Nat.ble (off+(zaS v).length) cs.length=true) (hcs:zbp off (zaS v) cs=cs') (hk:K m'):RnU cx m (Instr.storeAt t (.pointer (some ⟨b,off,none⟩)) v) K:=by
 intro w hm
 obtain ⟨rest,hp1,_⟩:=hu.perm
 have hb:w.heap[b]?=some (.cells cs.toArray t'):=(hm.perm hp1).ok _ (List.mem_cons_self ..)
 have hle:=Nat.le_of_ble_eq_true hfit
 have hst:=run_storeCells_at cx.P b off t' (zaS v) 0 cs.toArray w hb (by simpa using hle) (zgy h1)
 simp only [Nat.add_zero] at hst
 rw [← zaN _ _ _ hle,hcs] at hst
 refine⟨_,m',?_,ziv hm hu (Fr.setRow w b cs'.toArray) (zh4 hb),hk⟩
 have hsz:v.cells.size=i.cells:=by rw [zg1];simpa using hl
 simp only [Instr.storeAt,Instr.sureAddr,Sem.run_bind,Sem.run_pure,Result.andThen_ok,storeVar,za3 (ht _ _ hi)]
 rw [if_neg (by simp [hsz]),zd5]
 simpa using hst
/-! ## calls -/
theorem zae {m:Mem} {g:Nat} {as:List Value} {K:Value→Mem→Prop} {KP:List PanicEntry→Mem→Prop} (v:Value) (h:∀ w,MemOk cx.w0 cx.S m w→Calls cx.P g as.toArray w fun e w'=>e=.returned v∧Fr (fun _=>False) w w') (hk:K v m):Cl cx m g as K KP:=by
 intro w hm
 refine (h w hm).mono ?_
 rintro e w' ⟨rfl,hf⟩
 exact⟨m,hm.same hf,hk⟩
theorem zab {P:Program} {g:Nat} (h:∀ (args:Array Value) (w:World),(callFunc g args).run P w=.ok (.enter g args) w):Enters P g:=h
/-! ## a function's end, a function's beginning -/
def zfR (tmps:Array Value):ResultVar→Sem Value
 | .tmp t=>pure (tmps.getD t undef)
 | .cell b t=>do loadVar t (← asAddr (tmps.getD b undef))
theorem zpG (fn:Func) (tmps:Array Value):results fn tmps=(do let vs ← fn.results.mapM (zfR tmps);pure (if h:vs.size=1 then vs[0] else .tuple vs)):=by
 unfold results
 congr 1
theorem zgP {m:Mem} {e:Env} {a:Act} {w:World} (he:EnvOk cx.n cx.df e a) (hm:MemOk cx.w0 cx.S m w):∀ {l:List ResultVar} {vs:List Value},resL cx m e l vs→(l.mapM (zfR a.tmps)).run cx.P w=.ok vs w
 | [],vs,h=>by simp [resL] at h;subst h;simp
 | .tmp t::r,vs,h=>by
  obtain ⟨v,us,h1,rfl,h3⟩:=h
  have ih:=zgP he hm h3
  have hv:(zfR a.tmps (.tmp t)).run cx.P w=.ok v w:=by rw [zfR,he.2.2 _ _ h1];rfl
  simp only [List.mapM_cons,Sem.run_bind,hv,Sem.run_pure,Result.andThen_ok,ih]
 | .cell b t::r,vs,h=>by
  obtain ⟨u,v,us,h1,h2,rfl,h3⟩:=h
  have ih:=zgP he hm h3
  have hv:=h2 w hm
  have hu:=he.2.2 _ _ h1
  have hv:(zfR a.tmps (.cell b t)).run cx.P w=.ok v w:=by
   rw [zfR,hu]
   cases u with
   | pointer ad =>
    cases ad with
    | none=>simp [Instr.loadAt,Instr.sureAddr,stuck,Sem.run] at hv
    | some ad=>simpa [Instr.loadAt,Instr.sureAddr,asAddr] using hv
   | _=>simp [Instr.loadAt,Instr.sureAddr,stuck,Sem.run] at hv
  simp only [List.mapM_cons,Sem.run_bind,hv,Sem.run_pure,Result.andThen_ok,ih]
theorem zcx {m:Mem} {e:Env} {a:Act} {w:World} (he:EnvOk cx.n cx.df e a) (hm:MemOk cx.w0 cx.S m w) {fn:Func} {vs:List Value} (h:resL cx m e fn.results.toList vs):(results fn a.tmps).run cx.P w=.ok (zuI vs) w:=by
 have h1:=zgP he hm h
 have h2:(fn.results.mapM (zfR a.tmps)).run cx.P w=.ok vs.toArray w:=by
  rw [Array.mapM_eq_mapM_toList]
  simp only [Sem.run_map,h1]
  rfl
 rw [zpG]
 simp only [Sem.run_bind]
 rw [h2]
 simp only [Result.andThen_ok,Sem.run_pure]
 congr 1
 match vs with
 | []=>rfl
 | [v]=>rfl
 | v::u::r=>simp [zuI]
def zhm:Nat→List Value→Env
 | _,[]=>[]
 | i,v::r=>(i,v)::zhm (i+1) r
theorem zd6:∀ (l:List Value) (i t:Nat) (v:Value),(zhm i l).get t=some v→i≤t∧l[t-i]?=some v
 | [],_,_,_,h=>by cases h
 | u::r,i,t,v,h=>by
  rw [zhm,Env.get_cons] at h
  by_cases hit:i=t
  ·subst hit;rw [if_pos rfl] at h;cases h;simp
  ·rw [if_neg hit] at h
   obtain ⟨h1,h2⟩:=zd6 r (i+1) t v h
   refine⟨by omega,?_⟩
   rw [show t-i=(t-(i+1))+1 by omega]
   simpa using h2
def zfN:Nat→Env→Bool
 | _,[]=>true
 | i,(j,_)::r=>match Nat.beq i j with
  | true=>zfN (i+1) r
  | false=>false
theorem zdT:∀ {i:Nat} {e:Env},zfN i e=true→e=zhm i (e.map (·.2))
 | _,[],_=>rfl
 | i,(j,v)::r,h=>by
  unfold zfN at h
  split at h
  ·rename_i hb
   have:=Nat.eq_of_beq_eq_true hb
   subst this
   simp only [List.map_cons,zhm]
   rw [← zdT h]
  ·cases h
theorem enter (e0:Env) (ht:TabOk cx.P cx.tab) {f:FuncId} {fn:Func} {c:Code} (hf:cx.P.funcs[f]?=some fn) (hb:fn.body=some c) (hn:fn.ntmps=cx.n) (he0:zfN 0 e0=true) (hl:Nat.ble e0.length cx.n=true) {m:Mem} {w:World} (hm:MemOk cx.w0 cx.S m w)
  {R:Ending→World→Prop} (h:XC cx c (fin cx fn R) e0 m) (hD:cx.df=[]:=by rfl):Calls cx.P f (e0.map (·.2)).toArray w R:=by
 have he0':=zdT he0
 generalize hargs:e0.map (·.2)=args at he0'
 subst he0'
 refine calls_of_wp hf hb ?_
 have hle:=Nat.le_of_ble_eq_true hl
 have hlen:args.length≤cx.n:=by rw [← hargs];simpa using hle
 clear hargs
 refine wp_mono (zg5 ht c _ _ m _ w ⟨hD.symm,?_,?_⟩ hm h) ?_
 ·simp;omega
 ·intro t v hv
  obtain ⟨_,h2⟩:=zd6 _ _ _ _ hv
  simp at h2
  have hlt:t<args.length:=(List.getElem?_eq_some_iff.1 h2).1
  have h3:(args.toArray++Array.replicate (fn.ntmps-args.toArray.size) undef)[t]?=some v:=by
   rw [Array.getElem?_append_left (by simpa using hlt)]
   simpa using h2
  rw [Array.getD_eq_getD_getElem?,h3]
  rfl
 ·rintro ex a' w' ⟨e',m',he',hm',hk⟩
  cases ex with
  | normal=>obtain ⟨vs,h1,h2⟩:=hk;exact⟨he'.1.trans hD,_,zcx he' hm' h1,h2 w' hm'⟩
  | ret=>obtain ⟨vs,h1,h2⟩:=hk;exact⟨he'.1.trans hD,_,zcx he' hm' h1,h2 w' hm'⟩
  | panic ch=>exact⟨he'.1.trans hD,hk w' hm'⟩
  | exit id=>exact hk.elim
  | goto l=>exact hk.elim
  | outgrown=>exact hk.elim
theorem br_t {b:Bool} {X Y:Prop} (hb:b=true) (h:X):Br b X Y:=⟨fun _=>h,fun hf=>absurd (hb.symm.trans hf) (by decide)⟩
theorem br_f {b:Bool} {X Y:Prop} (hb:b=false) (h:Y):Br b X Y:=⟨fun ht=>absurd (hb.symm.trans ht) (by decide),fun _=>h⟩
theorem br {b:Bool} {X Y:Prop} (h1:b=true→X) (h2:b=false→Y):Br b X Y:=⟨h1,h2⟩
theorem br_d {p:Prop} [Decidable p] {X Y:Prop} (h1:p→X) (h2:¬ p→Y):Br (decide p) X Y:=⟨fun h=>h1 (of_decide_eq_true h),fun h=>h2 (of_decide_eq_false h)⟩
theorem br_n {b:Bool} {X Y:Prop} (h:Br b Y X):Br (!b) X Y:=by
 cases b with
 | true=>exact⟨fun hb=>absurd hb (by decide),fun _=>h.1 rfl⟩
 | false=>exact⟨fun _=>h.2 rfl,fun hb=>absurd hb (by decide)⟩
end soundD
/-! ## the table, by closed facts -/
def zjd (P:Program) (t:Nat):Option (Nat × Nat × Option (Array Value)):=(P.info? t).map fun i=>(i.size,i.bytes,i.zero.map Value.cells)
def zq9 (P:Program) (t:Nat):Option (List (Nat × Nat)):=match P.underlying t with
 | some (.struct flds)=>flds.toList.mapM fun f=>(P.info? f.type).map fun i=>(f.offset,i.size)
 | _=>none
def zvG (P:Program) (t:Nat):Bool:=match P.underlying t with
 | some (.interface _)|some (.struct _)|some (.array _ _)|none=>false
 | _=>true
def zvI (P:Program) (t:Nat):Bool:=match P.underlying t with
 | some (.interface _)=>true
 | _=>false
section tabs
variable {P:Program} {t cells bytes:Nat} {zero:List Value}
theorem zeT (h:zjd P t=some (cells,bytes,some zero.toArray)):∃ inf,P.info? t=some inf∧inf.size=cells∧inf.bytes=bytes∧(inf.zero).map Value.cells=some zero.toArray:=by
 unfold zjd at h
 cases hi:P.info? t with
 | none=>rw [hi] at h;cases h
 | some i =>
  rw [hi] at h
  simp only [Option.map_some,Option.some.injEq,Prod.mk.injEq] at h
  exact⟨i,rfl,h.1,h.2.1,h.2.2⟩
theorem zaV {fs:List (Nat × Nat)} (h:zjd P t=some (cells,bytes,some zero.toArray)) (hs:zq9 P t=some fs):TyI.ok P t ⟨.struct fs,cells,bytes,zero⟩:=by
 refine⟨zeT h,?_⟩
 unfold zq9 at hs
 split at hs
 ·rename_i flds hu
  exact⟨_,hu,flds,rfl,hs⟩
 ·cases hs
theorem zaI (h:zjd P t=some (cells,bytes,some zero.toArray)) (hs:zvG P t=true):TyI.ok P t ⟨.plain,cells,bytes,zero⟩:=by
 refine⟨zeT h,?_⟩
 unfold zvG at hs
 cases hu:P.underlying t with
 | none=>rw [hu] at hs;simp at hs
 | some d =>
  rw [hu] at hs
  refine⟨d,rfl,?_,?_⟩
  ·cases d<;>simp at hs<;>rfl
  ·rintro ms rfl;simp at hs
theorem ztb (h:zjd P t=some (cells,bytes,some zero.toArray)) (hs:zvI P t=true):TyI.ok P t ⟨.iface,cells,bytes,zero⟩:=by
 refine⟨zeT h,?_⟩
 unfold zvI at hs
 split at hs
 ·rename_i ms hu;exact⟨_,hu,ms,rfl⟩
 ·cases hs
theorem zbM {e:Nat} (h:zjd P t=some (cells,bytes,some zero.toArray)) (hs:P.underlying t=some (.slice e)):TyI.ok P t ⟨.slice e,cells,bytes,zero⟩:=⟨zeT h,_,hs,rfl⟩
theorem zhd {m e:Nat} (h:zjd P t=some (cells,bytes,some zero.toArray)) (hs:P.underlying t=some (.array m e)):TyI.ok P t ⟨.arr m e,cells,bytes,zero⟩:=⟨zeT h,_,hs,rfl⟩
theorem zxz (h:zjd P t=some (cells,bytes,some zero.toArray)) (hs:P.underlying t=some .string):TyI.ok P t ⟨.str,cells,bytes,zero⟩:=⟨zeT h,_,hs,rfl⟩
theorem zfr {k:IntKind} (h:zjd P t=some (cells,bytes,some zero.toArray)) (hs:P.underlying t=some (.int k)):TyI.ok P t ⟨.int k,cells,bytes,zero⟩:=⟨zeT h,_,hs,rfl⟩
theorem zv7 (h:zjd P t=some (cells,bytes,some zero.toArray)) (hs:P.underlying t=some .bool):TyI.ok P t ⟨.bool,cells,bytes,zero⟩:=⟨zeT h,_,hs,rfl⟩
end tabs
/-! ## ends -/
section ends
variable {cx:Cx} {fn:Func} {R:Ending→World→Prop} {e:Env} {m:Mem}
theorem fin0 (hr:fn.results=#[]) (h:∀ w,MemOk cx.w0 cx.S m w→R (.returned (.tuple #[])) w) {ex:Exit} (hx:ex=.ret∨ex=.normal):fin cx fn R ex e m:=by
 rcases hx with rfl|rfl<;>exact⟨[],by rw [hr];rfl,h⟩
theorem fin1 {t:Tmp} (hr:fn.results=#[.tmp t]) {v:Value} (hv:e.get t=some v) (h:∀ w,MemOk cx.w0 cx.S m w→R (.returned v) w):fin cx fn R .ret e m :=
 ⟨[v],by rw [hr];exact⟨v,[],hv,rfl,rfl⟩,h⟩
theorem fin2 {t u:Tmp} (hr:fn.results=#[.tmp t,.tmp u]) {v v':Value} (hv:e.get t=some v) (hv':e.get u=some v') (h:∀ w,MemOk cx.w0 cx.S m w→R (.returned (.tuple #[v,v'])) w):fin cx fn R .ret e m :=
 ⟨[v,v'],by rw [hr];exact⟨v,[v'],hv,rfl,v',[],hv',rfl,rfl⟩,h⟩
theorem fin3 {t u s:Tmp} (hr:fn.results=#[.tmp t,.tmp u,.tmp s]) {v v' v'':Value} (hv:e.get t=some v) (hv':e.get u=some v') (hv'':e.get s=some v'') (h:∀ w,MemOk cx.w0 cx.S m w→R (.returned (.tuple #[v,v',v''])) w):fin cx fn R .ret e m :=
 ⟨[v,v',v''],by rw [hr];exact⟨v,[v',v''],hv,rfl,v',[v''],hv',rfl,v'',[],hv'',rfl,rfl⟩,h⟩
theorem zw7 {t:Tmp} {ty:TypeId} (hr:fn.results=#[.cell t ty]) {u v:Value} (hu:e.get t=some u) (hv:Ld cx m ty u v) (h:∀ w,MemOk cx.w0 cx.S m w→R (.returned v) w):fin cx fn R .ret e m :=
 ⟨[v],by rw [hr];exact⟨u,v,[],hu,hv,rfl,rfl⟩,h⟩
theorem zbV {t s:Tmp} {ty:TypeId} (hr:fn.results=#[.cell t ty,.tmp s]) {u v v':Value} (hu:e.get t=some u) (hv:Ld cx m ty u v) (hv':e.get s=some v') (h:∀ w,MemOk cx.w0 cx.S m w→R (.returned (.tuple #[v,v'])) w):fin cx fn R .ret e m :=
 ⟨[v,v'],by rw [hr];exact⟨u,v,[v'],hu,hv,rfl,v',[],hv',rfl,rfl⟩,h⟩
theorem zap {ch:List PanicEntry} (h:∀ w,MemOk cx.w0 cx.S m w→R (.panicked ch) w):fin cx fn R (.panic ch) e m:=h
end ends
/-! ## reading -/
section reads
variable {cx:Cx}
def Rd (cx:Cx) (m:Mem) (s:Sem Value) (v:Value):Prop:=∀ w,MemOk cx.w0 cx.S m w→s.run cx.P w=.ok v w
theorem Rd.g {m:Mem} {s:Sem Value} {v:Value} (h:Rd cx m s v) {g:Prop}:RdG cx g m s v:=fun _=>h
theorem rdg {m:Mem} {s:Sem Value} {v:Value} {g:Prop} (h:g→Rd cx m s v):RdG cx g m s v:=h
theorem Rd.n {m:Mem} {s:Sem Value} {v:Value} {K:Value→Mem→Prop} (h:Rd cx m s v) (hk:K v m):Rn cx m s K:=fun w hm=>⟨v,w,m,h w hm,hm,hk⟩
def Ints (cx:Cx) (m:Mem) (k:IntKind) (p:Option Addr) (xs:List Int):Prop :=
 0<xs.length→∃ b o,p=some ⟨b,o,none⟩∧∀ w,MemOk cx.w0 cx.S m w→∀ i,i<xs.length→w.cell? ⟨b,o+i,none⟩=some (.int k (xs.getD i 0))
def IntsIn (k:IntKind) (w:World) (p:Option Addr) (xs:List Int):Prop :=
 0<xs.length→∃ b o,p=some ⟨b,o,none⟩∧∀ i,i<xs.length→w.cell? ⟨b,o+i,none⟩=some (.int k (xs.getD i 0))
theorem IntsIn.ints {m:Mem} {k:IntKind} {p:Option Addr} {xs:List Int} (h:IntsIn k cx.w0 p xs) (hs:∀ b,¬ cx.S b):Ints cx m k p xs:=by
 intro hn
 obtain ⟨b,o,rfl,hc⟩:=h hn
 exact⟨b,o,rfl,fun w hm i hi=>hm.far (hc i hi) (hs _)⟩
theorem Ints.in_ {m:Mem} {k:IntKind} {p:Option Addr} {xs:List Int} (h:Ints cx m k p xs) {w:World} (hm:MemOk cx.w0 cx.S m w):IntsIn k w p xs:=by
 intro hn
 obtain ⟨b,o,rfl,hc⟩:=h hn
 exact⟨b,o,rfl,hc w hm⟩
theorem Ints.plain {m:Mem} {k:IntKind} {p:Option Addr} {xs:List Int} (h:Ints cx m k p xs) (hn:0<xs.length):Pl p:=by
 obtain ⟨b,o,rfl,_⟩:=h hn;exact⟨b,o,rfl⟩
theorem Ints.ld (ht:TabOk cx.P cx.tab) {m:Mem} {k:IntKind} {p:Option Addr} {xs:List Int} (h:Ints cx m k p xs) {t:Nat} {i:TyI} (hi:cx.tab.get t=some i) (hk:i.kind.flat=true) {j:Nat} (hj:j<xs.length):Ld cx m t (.pointer (pl p j)) (.int k (xs.getD j 0)):=by
 obtain ⟨b,o,rfl,hc⟩:=h (by omega)
 exact fun w hm=>zeF (ht _ _ hi) hk (hc w hm j hj)
theorem zpz {P:Program} {w:World} {s d e:Nat} {i j l:TyI} (hi:i.ok P s) (hk:i.kind=.slice e) (hl:l.ok P e) (hlk:l.kind=.int .u8) (hj:j.ok P d) (hjk:j.kind=.str) {p:Option Addr} {xs:List Int} (h:IntsIn .u8 w p xs) (c:Nat) :
  (convert s d (.slice p xs.length c)).run P w=.ok (.string (strOfNums xs)) w:=by
 obtain ⟨d1,h1,k1⟩:=hi.desc
 obtain ⟨d2,h2,k2⟩:=hl.desc
 obtain ⟨d3,h3,k3⟩:=hj.desc
 rw [hk] at k1;rw [hlk] at k2;rw [hjk] at k3
 have k1:d1=.slice e:=k1
 have k2:d2=.int .u8:=k2
 have k3:d3=.string:=k3
 subst k1 k2 k3
 by_cases hn:0<xs.length
 ·obtain ⟨b,o,rfl,hc⟩:=h hn
  exact run_convert_bytes_arg w s e h1 h2 b o _ c xs rfl hc d h3
 ·have:xs=[]:=List.eq_nil_of_length_eq_zero (by omega)
  subst this
  rw [run_convert_bytes_string w s d e p _ c h1 h2 h3]
  cases p with
  | none=>simp [Conv.bytesToString,strOfNums];rfl
  | some a=>simp [Conv.bytesToString,strOfNums,loadCells,loadCellsFrom];rfl
theorem zux (ht:TabOk cx.P cx.tab) {m:Mem} {s d e:Nat} {i j l:TyI} (hi:cx.tab.get s=some i) (hk:i.kind=.slice e) (hl:cx.tab.get e=some l) (hlk:l.kind=.int .u8) (hj:cx.tab.get d=some j) (hjk:j.kind=.str) {p:Option Addr} {xs:List Int} (h:Ints cx m .u8 p xs) (c:Nat) :
  Rd cx m (convert s d (.slice p xs.length c)) (.string (strOfNums xs)):=fun _ hm=>zpz (ht _ _ hi) hk (ht _ _ hl) hlk (ht _ _ hj) hjk (h.in_ hm) c
end reads
/-! ## bytes -/
section bytes_
variable {cx:Cx}
theorem zcl {m:Mem} {s:Sem Value} {v:Value} (h:∀ w,s.run cx.P w=.ok v w):Rd cx m s v:=fun w _=>h w
def zag (bs:List UInt8):List Int:=bs.map fun b=>(b.toNat:Int)
theorem zaf (bs:List UInt8):(zag bs).length=bs.length:=by simp [zag]
theorem zpk (bs:List UInt8):strOfNums (zag bs)=⟨bs.toArray⟩:=by
 unfold strOfNums zag
 congr 1
 rw [List.map_map]
 have:(List.map ((fun n:Int=>UInt8.ofNat n.toNat) ∘ fun b:UInt8=>(b.toNat:Int)) bs)=bs:=by
  conv=>rhs;rw [← List.map_id bs]
  apply List.map_congr_left
  intro x _
  simp
 rw [this]
def BytsIn (w:World) (p:Option Addr) (bs:List UInt8):Prop:=IntsIn .u8 w p (zag bs)
def Byts (cx:Cx) (m:Mem) (p:Option Addr) (bs:List UInt8):Prop:=Ints cx m .u8 p (zag bs)
theorem BytsIn.byts {m:Mem} {p:Option Addr} {bs:List UInt8} (h:BytsIn cx.w0 p bs) (hs:∀ b,¬ cx.S b):Byts cx m p bs:=IntsIn.ints h hs
theorem Byts.in_ {m:Mem} {p:Option Addr} {bs:List UInt8} (h:Byts cx m p bs) {w:World} (hm:MemOk cx.w0 cx.S m w):BytsIn w p bs:=Ints.in_ h hm
theorem zcy (ht:TabOk cx.P cx.tab) {m:Mem} {s d e:Nat} {i j l:TyI} (hi:cx.tab.get s=some i) (hk:i.kind=.slice e) (hl:cx.tab.get e=some l) (hlk:l.kind=.int .u8) (hj:cx.tab.get d=some j) (hjk:j.kind=.str) {p:Option Addr} {bs:List UInt8} (h:Byts cx m p bs) (c:Nat) :
  Rd cx m (convert s d (.slice p bs.length c)) (.string ⟨bs.toArray⟩):=by
 have:=zux ht hi hk hl hlk hj hjk h c
 rwa [zaf,zpk] at this
theorem zfT (bs:List UInt8) (i:Nat):(zag bs).getD i 0=((bs.getD i 0).toNat:Int):=by
 unfold zag
 rcases Nat.lt_or_ge i bs.length with h|h
 ·simp [List.getD,List.getElem?_eq_getElem h]
 ·simp [List.getD,List.getElem?_eq_none h]
theorem Byts.ld (ht:TabOk cx.P cx.tab) {m:Mem} {p:Option Addr} {bs:List UInt8} (h:Byts cx m p bs) {t:Nat} {i:TyI} (hi:cx.tab.get t=some i) (hk:i.kind.flat=true) {j:Nat} (hj:j<bs.length):Ld cx m t (.pointer (pl p j)) (.int .u8 ((bs.getD j 0).toNat:Int)):=by
 have:=Ints.ld ht h hi hk (j:=j) (by rw [zaf];exact hj)
 rwa [zfT] at this
theorem Byts.plain {m:Mem} {p:Option Addr} {bs:List UInt8} (h:Byts cx m p bs) (hn:0<bs.length):Pl p:=Ints.plain h (by rw [zaf];exact hn)
end bytes_
end Go.Proofs.YtlmgelmloddfgaaGreat.Eng
namespace Go.Proofs.YtlmgelmloddfgaaGreat.Eng
open Go Go.RowKit
section tail
variable {P:Program} {ops:Array Oper} {md:Region.Mode} {C:World→Prop}
def AnyHead (P:Program) (md:Region.Mode) (ops:Array Oper) (C:World→Prop) (n:Nat) (L:Array Bool→Act→Prop):Nat→Array Bool→Act→Prop
 | 0,listed,a=>L listed a
 | f+1,listed,a=>Region.ready md ops listed≠[]∧∀ i∈Region.ready md ops listed,i<n∧qOp P ops C i (AnyHead P md ops C n L f (listed.setIfInBounds i true)) a
theorem AnyHead.all {n g:Nat} {L:Array Bool→Act→Prop} {Q:Exit→Act→World→Prop} (hL:∀ listed a w,C w→L listed a→wpAny P md ops Q g listed a w) :
  ∀ (f:Nat) (listed:Array Bool) (a:Act) (w:World),C w→AnyHead P md ops C n L f listed a→wpAny P md ops Q (f+g) listed a w
 | 0,listed,a,w,hw,h=>by rw [Nat.zero_add];exact hL _ _ _ hw h
 | f+1,listed,a,w,hw,h=>by
  rw [show f+1+g=(f+g)+1 by omega]
  exact⟨fun h0=>absurd h0 h.1,fun i hi=>wpOp_of_qOp hw (fun a' w' hw' h'=>AnyHead.all hL f _ a' w' hw' h') (h.2 i hi).2⟩
theorem zr9 {n i j:Nat} {listed:Array Bool} (hs:Region.sinkB md ops n=true) (hc:Region.chainB md ops n=true) (hn:n<ops.size) (inv:HeadInv md ops n listed) (hin:i<n) (hun:listed.getD i true=false)
  (hj:j∈Region.ready md ops listed):j<n:=by
 rcases Nat.lt_or_ge j n with h|h
 ·exact h
 ·exact absurd hj (tail_waits hs hc hn inv _ i rfl hin hun j h)
theorem AnyHead.first {n i:Nat} {oi:Oper} {v:Value} {L:Array Bool→Act→Prop} (hi:ops[i]?=some oi) (hsel:∀ (j:Nat) (o:Oper) cs b,ops[j]?=some o→o.op≠.select cs b)
  (hs:Region.sinkB md ops n=true) (hc:Region.chainB md ops n=true) (hn:n<ops.size) (hin:i<n) (hdone:∀ listed a,L listed a→∀ j∈Region.ready md ops listed,n≤j) :
  ∀ (f:Nat) (listed:Array Bool) (a:Act),HeadInv md ops n listed →
   (∀ j oj,ops[j]?=some oj→j≠i→listed.getD j true=false→(∀ e∈oj.after,Region.binds md e=true→e.on≠i)→oi.apart ops oj=true) →
   i∈Region.ready md ops listed→YieldsIn P ops C oi v a →
   AnyHead P md ops C n L f (listed.setIfInBounds i true) (a.put oi.dst v)→AnyHead P md ops C n L (f+1) listed a:=by
 intro f
 induction f with
 | zero =>
  intro listed a inv _ hr hy H
  have hun:=(mem_ready.1 hr).1
  refine⟨fun h=>(by rw [h] at hr;cases hr),fun j hj=>?_⟩
  have hjn:=zr9 hs hc hn inv hin hun hj
  refine⟨hjn,?_⟩
  by_cases hji:j=i
  ·subst hji;exact hy.qOp hi H
  ·have:=hdone _ _ H j (ready_mono hj hji)
   omega
 | succ f ih =>
  intro listed a inv hfree hr hy H
  have hun:=(mem_ready.1 hr).1
  refine⟨fun h=>(by rw [h] at hr;cases hr),fun j hj=>?_⟩
  have hjn:=zr9 hs hc hn inv hin hun hj
  refine⟨hjn,?_⟩
  by_cases hji:j=i
  ·subst hji;exact hy.qOp hi H
  ·have h1:=(H.2 j (ready_mono hj hji)).2
   obtain ⟨hjun,oj,hoj,hall⟩:=mem_ready.1 hj
   have hnot:∀ e∈oj.after,Region.binds md e=true→e.on≠i:=fun e he hb heq=>by
    have h2:=hall e he hb
    rw [heq,getD_both hun] at h2
    cases h2
   have h2:=qOp_put hoj (hfree j oj hoj hji hjun hnot) (fun cs b=>hsel i oi cs b hi) (fun cs b=>hsel j oj cs b hoj) hy h1
   refine qOp_mono (fun a' h3=>ih (listed.setIfInBounds j true) a' (inv.set hj hjn) (fun k ok hk hki hunk hno=>?_) (ready_mono hr (Ne.symm hji)) h3.1 ?_) h2
   ·refine hfree k ok hk hki ?_ hno
    by_cases hjk:j=k
    ·subst hjk;exact hjun
    ·rwa [getD_set_ne true hjk] at hunk
   ·rw [Array.setIfInBounds_comm _ _ hji]
    exact h3.2
theorem AnyHead.lex {n g:Nat} {Lq:Act→Prop} (hsel:Region.noSelect ops=true) (hs:Region.sinkB md ops n=true) (hc:Region.chainB md ops n=true) (hn:n<ops.size) :
  ∀ (l:List Oper) (k:Nat) (listed:Array Bool) (a:Act),(∀ j,j<l.length→l[j]?=ops[k+j]?)→k+l.length=n→HeadInv md ops n listed →
  Region.lexHead md ops g l.length k listed=true→wpQuiet P ops C Lq l a →
  AnyHead P md ops C n (fun listed' a'=>Region.seqB md ops g n listed'=true∧Lq a') l.length listed a
 | [],k,listed,a,_,hk,_,hB,h=>by
  have:k=n:=by simpa using hk
  subst this
  exact⟨by simpa [Region.lexHead] using hB,h⟩
 | o::l,k,listed,a,hl,hk,inv,hB,h=>by
  have h0:ops[k]?=some o:=by simpa using (hl 0 (by simp)).symm
  simp only [List.length_cons,Region.lexHead,Bool.and_eq_true] at hB
  obtain ⟨⟨hr,hf⟩,hB'⟩:=hB
  have hkn:k<n:=by simp only [List.length_cons] at hk;omega
  have hr':k∈Region.ready md ops listed:=by simpa using hr
  have hst:qOp P ops C k (wpQuiet P ops C Lq l) a:=by unfold qOp;simp only [h0];exact h
  obtain ⟨v,hy,hK⟩:=yieldsIn_of_qOp h0 hst
  exact AnyHead.first h0 (Region.noSelect_spec hsel) hs hc hn hkn (fun listed' a' hL=>seqB_ready hL.1) l.length listed a inv (Region.free_spec h0 hf) hr' hy
   (AnyHead.lex hsel hs hc hn l (k+1) _ _ (fun j hj=>by have:=hl (j+1) (by simp;omega);simpa [Nat.add_assoc,Nat.add_comm 1 j] using this) (by simp only [List.length_cons] at hk;omega) (inv.set hr' hkn) hB' hK)
theorem zfm {id:Nat} {Q:Exit→Act→World→Prop} {a:Act} {w:World} (n:Nat) (hm:P.follows .mixedOrders=true) (hB:Region.lexTailB .any ops n=true) (hC:C { w with drawn:=w.drawn+1 })
  (h:wpQuiet P ops C (fun a'=>∀ w',C w'→wpList P ops Q (ops.toList.drop n) a' w') (ops.toList.take n) a):(Code.region id ops true).wp P Q a w:=by
 simp only [Region.lexTailB,Bool.and_eq_true,decide_eq_true_eq] at hB
 obtain ⟨⟨⟨⟨hsel,hn⟩,hs⟩,hc⟩,hlex⟩:=hB
 have htl:(ops.toList.take n).length=n:=by simp;omega
 have hdl:(ops.toList.drop n).length=ops.size-n:=by simp
 have inv0:HeadInv .any ops n (Array.replicate ops.size false) :=
  ⟨by simp,fun j oj _ hl=>(by rw [getD_replicate_false] at hl;cases hl),fun t _ ht=>getD_in (by simpa using ht) (getD_replicate_false _ _)⟩
 have H:=AnyHead.lex (md:=.any) (g:=ops.size-n) hsel hs hc hn (ops.toList.take n) 0 _ a (fun j hj=>by
  have hj':j<n:=by rw [htl] at hj;exact hj
  simp [hj']) (by simpa using htl) inv0 (by rw [htl];exact hlex) h
 refine wp_region_any hm ?_
 have:=AnyHead.all (Q:=Q) (g:=ops.size-n) (fun listed a' w' hw' hL=>by
  have:=wpAny_of_seq (md:=.any) (Q':=Q) (ops.toList.drop n) n listed a' w' (fun j=>by simp [List.getElem?_drop]) (by rw [hdl];exact hL.1) (hL.2 w' hw')
  rwa [hdl] at this) _ _ _ _ hC H
 rw [htl,show n+(ops.size-n)=ops.size by omega] at this
 exact this
end tail
section tailE
variable {cx:Cx}
theorem zg7 {P:Program} {ops:Array Oper} {C:World→Prop}:∀ (l:List Oper) (a:Act) (Q Q':Act→Prop),(∀ a,Q a→Q' a)→wpQuiet P ops C Q l a→wpQuiet P ops C Q' l a:=by
 intro l
 induction l with
 | nil=>intro a Q Q' hq h;exact hq _ h
 | cons o r ih =>
  intro a Q Q' hq h
  unfold wpQuiet at h ⊢
  split at h
  ·rename_i hw;rw [if_pos hw];exact Oper.quiet_mono (fun a=>ih a Q Q' hq) h
  ·rename_i hw;rw [if_neg hw];exact ih _ Q Q' hq h
theorem zcD (n:Nat) (ht:TabOk cx.P cx.tab) (hmix:cx.P.follows .mixedOrders=true) {id:Nat} {ops:Array Oper} (hB:Region.lexTailB .any ops n=true) (hd1:zbD cx.n (zcJ n ops.toList)=true) (hd2:zbD cx.n (zeZ n ops.toList)=true) {k:Exit→Env→Mem→Prop} {e:Env} {m:Mem}
  (h:XQ cx ops (fun _ e m=>XL cx ops k (zeZ n ops.toList) none [] e m) (zcJ n ops.toList) none [] e m):Dr cx id ops k e m:=by
 rw [zc1] at h hd1
 rw [zcG] at hd2
 intro a w he hm
 refine zfm (C:=MemOk cx.w0 cx.S m) n hmix hB (hm.same (zep w _)) ?_
 have:=zxt ht _ none [] e a hd1 he ScOk.none_ (KnOk.nil e) h
 refine zg7 _ _ _ _ (fun a' ⟨e',h1,h2⟩ w' hw'=>?_) this
 rw [zcG] at h2
 exact zs0 ht _ none [] e' m a' w' hd2 h1 hw' ScOk.none_ (KnOk.nil e') h2
end tailE
end Go.Proofs.YtlmgelmloddfgaaGreat.Eng
namespace Go.Proofs.YtlmgelmloddfgaaGreat.Eng
open Go Go.RowKit
section row
variable {cx:Cx}
theorem MemOk.nilRow {w0 w:World} {S:Nat→Prop} {m:Mem} (h:MemOk w0 S m w) (t size:Nat):MemOk w0 S (.row none 0 0 t size []::m) w :=
 h.cons (World.ownsRow_nil w 0 t size) (fun b hb=>by cases hb) (fun b hb=>by cases hb)
theorem SubM.row0 {m m':Mem} (h:SubM cx m m') (t size:Nat):SubM cx m (.row none 0 0 t size []::m'):=fun w hm=>(h w hm).nilRow t size
theorem SubM.row {m m':Mem} {A:Option Addr} {cap n n' t size:Nat} {xs ys:List Value} (h:xs=ys) (hn:n=n') (hs:m'.Sublist m):SubM cx (.row A cap n t size xs::m) (.row A cap n' t size ys::m'):=by
 subst h hn;exact SubM.sub (hs.cons_cons _)
theorem Fr.of_grown_none {S:Nat→Prop} {w w':World} (h:w.grownBy w' none):Fr S w w':=Fr.of_grown h (fun _ hk=>by cases hk)
theorem Res.row_own {A:Option Addr} {cap n t size:Nat} {xs:List Value}:(Res.row A cap n t size xs).foot=Value.ownBlock (.slice A n cap):=by cases A<;>rfl
theorem MemOk.fresh {w0 w w':World} {S:Nat→Prop} {m:Mem} {A:Option Addr} {cap n t size:Nat} {xs:List Value} (h:MemOk w0 S m w) (hf:Fr (fun _=>False) w w') (hr:w'.ownsRow w.heap.size t size (.slice A n cap) n xs) :
  MemOk w0 S (.row A cap n t size xs::m) w':=by
 have hr0:w'.ownsRow 0 t size (.slice A n cap) n xs:=⟨hr.1,hr.2.imp id fun ⟨g,c,cur,e1,_,e3⟩=>⟨g,c,cur,e1,Nat.zero_le _,e3⟩⟩
 refine (h.same hf).cons hr0 (fun b hb=>?_) (fun b hb s hs hsb=>?_)
 ·rw [Res.row_own] at hb
  exact .inl (Nat.le_trans h.fr.size (hr.lt b hb).1)
 ·rw [Res.row_own] at hb
  have:=Res.ok_lt (h.ok s hs) hsb
  have:=(hr.lt b hb).1
  omega
theorem TyI.zeroOf {P:Program} {t:Nat} {i:TyI} (h:i.ok P t):∃ inf z,P.info? t=some inf∧inf.zero=some z∧inf.size=i.cells∧inf.bytes=i.bytes∧z.cells=i.zero.toArray:=by
 obtain ⟨inf,h1,h2,h3,h4⟩:=h.info
 cases hz:inf.zero with
 | none=>rw [hz] at h4;cases h4
 | some z=>rw [hz] at h4;simp at h4;exact⟨inf,z,h1,hz,h2,h3,h4⟩
theorem TyI.sliceOf {P:Program} {t e:Nat} {i:TyI} (h:i.ok P t) (hk:i.kind=.slice e):P.underlying t=some (.slice e):=by
 obtain ⟨d,h1,h2⟩:=h.desc
 rw [hk] at h2
 simp only [TyK.ok] at h2
 rw [h1,h2]
theorem zur (ht:TabOk cx.P cx.tab) {m:Mem} {t e:Nat} {i ti:TyI} {kl kc:IntKind} {c:Int} {K:Value→Mem→Prop} (hi:cx.tab.get t=some i) (hk:i.kind=.slice e) (hti:cx.tab.get e=some ti)
  (h0:0≤c) (hb:ti.bytes*c.toNat≤281474976710656) (h63:c≤9223372036854775807) (hK:∀ b,K (.slice (some ⟨b,0,none⟩) 0 c.toNat) (.row (some ⟨b,0,none⟩) c.toNat 0 e ti.cells []::m)) :
  Rn cx m (Instr.makeSlice t (.int kl 0) (.int kc c)) K:=by
 intro w hm
 obtain ⟨inf,z,h1,h2,h3,h4,_⟩:=TyI.zeroOf (ht _ _ hti)
 obtain ⟨w',hr,ho,hg⟩:=run_make_own w w.heap.size t e inf z ti.cells (TyI.sliceOf (ht _ _ hi) hk) h1 h2 h3 kl kc c.toNat (by rw [h4];exact hb) (by simp only [maxLen];omega) (Nat.le_refl _)
 rw [Int.toNat_of_nonneg h0] at hr
 exact⟨_,w',_,hr,hm.fresh (Fr.of_grown_none hg) ho,hK _⟩
theorem zc2 (ht:TabOk cx.P cx.tab) {m:Mem} {t e:Nat} {i ti:TyI} {z:Value} {kl kc:IntKind} {c:Int} {K:Value→Mem→Prop} (hi:cx.tab.get t=some i) (hk:i.kind=.slice e) (hti:cx.tab.get e=some ti) (hz:ti.zero=[z]) (h1c:ti.cells=1)
  (h0:0≤c) (hb:ti.bytes*c.toNat≤281474976710656) (h63:c≤9223372036854775807) (hK:∀ b,K (.slice (some ⟨b,0,none⟩) c.toNat c.toNat) (.row (some ⟨b,0,none⟩) c.toNat c.toNat e 1 (List.replicate c.toNat z)::m)) :
  Rn cx m (Instr.makeSlice t (.int kl c) (.int kc c)) K:=by
 intro w hm
 obtain ⟨inf,z',h1,h2,h3,h4,h5⟩:=TyI.zeroOf (ht _ _ hti)
 obtain ⟨w',hr,ho,hg⟩:=run_make_full w w.heap.size t e inf z' 1 (TyI.sliceOf (ht _ _ hi) hk) h1 h2 (h3.trans h1c) kl kc c.toNat (by rw [h4];exact hb) (by simp only [maxLen];omega) (Nat.le_refl _)
 rw [Int.toNat_of_nonneg h0] at hr
 rw [h5,hz,toList_madeCells_one,Nat.mul_one] at ho
 exact⟨_,w',_,hr,hm.fresh (Fr.of_grown_none hg) ho,hK _⟩
inductive Out:Mem→Res→Mem→Prop
 | here {r:Res} {m:Mem}:Out (r::m) r m
 | there {r s:Res} {m m':Mem}:Out m r m'→Out (s::m) r (s::m')
theorem Out.perm {m m':Mem} {r:Res} (h:Out m r m'):m.Perm (r::m'):=by
 induction h with
 | here=>exact List.Perm.refl _
 | there _ ih=>exact (ih.cons _).trans (List.Perm.swap ..)
theorem Fr.of_row {w w':World} {row:Option Nat} (h:w.grownBy w' row):Fr (fun k=>some k=row) w w':=Fr.of_grown h (fun _ hk=>hk.symm)
theorem zrx (ht:TabOk cx.P cx.tab) {m m':Mem} {t e ty:Nat} {i ti:TyI} {A:Option Addr} {cap n size:Nat} {xs:List Value} {a:Addr} {k c:Nat} {news:List Value} {K:Value→Mem→Prop}
  (hi:cx.tab.get t=some i) (hk:i.kind=.slice e) (hti:cx.tab.get e=some ti) (hz:ti.zero.length=ti.cells) (hs:ti.cells=size) (hp:0<ti.cells)
  (hu:Out m (.row A cap n e size xs) m') (hl:news.length=k*size) (hnews:∀ w,MemOk cx.w0 cx.S m w→∀ j u,news[j]?=some u→w.cell? (a.add j)=some u) (h1:zfH news=true)
  (hb:(n+k)*ti.bytes≤140737488355328) (h63:n+k≤9223372036854775807) (hK:∀ A' cap',K (.slice A' (n+k) cap') (.row A' cap' (n+k) e size (xs++news)::m')) :
  Rn cx m (Builtin.append_ #[t,t] ty #[.slice A n cap,.slice (some a) k c]) K:=by
 intro w hm
 obtain ⟨inf,z,g1,g2,g3,g4,g5⟩:=TyI.zeroOf (ht _ _ hti)
 have hm1:=hm.perm hu.perm
 have hown:w.ownsRow 0 e size (.slice A n cap) n xs:=hm1.ok _ (List.mem_cons_self ..)
 obtain ⟨v',w',hr,ho,hg,_,hat⟩:=run_append_own_at (P:=cx.P) w 0 t ty e inf z size ti.bytes (TyI.sliceOf (ht _ _ hi) hk) g1 g2 (g3.trans hs) g4 (by rw [g5];simpa [hs] using hz) (hs ▸ hp) (.slice A n cap) n xs hown a k c news hl (hnews w hm) (zgy h1) (by simp only [maxLen];omega) hb (Nat.zero_le _)
 have hv:∃ A' cap',v'=.slice A' (n+k) cap':=by
  rcases ho.2 with ⟨e1,e2⟩|⟨g,c',cur,e1,_⟩
  ·exact⟨none,0,by rw [e1];congr 1;exact e2.symm⟩
  ·exact⟨_,c',e1⟩
 obtain ⟨A',cap',rfl⟩:=hv
 have hapart:=(List.pairwise_cons.1 hm1.apart).1
 have hmt:MemOk cx.w0 cx.S m' w':=hm1.tail.step (Fr.of_row hg) (fun b hb hT=>by
   have:=hm1.own _ (List.mem_cons_self ..) b (by rw [Res.row_own];exact hT.symm)
   exact this.elim (fun h=>absurd hb (by omega)) id) (fun r hr b hb hT=>hapart r hr b (by rw [Res.row_own];exact hT.symm) hb)
 refine⟨_,w',_,hr,?_,hK A' cap'⟩
 refine hmt.cons ho (fun b hb=>?_) (fun b hb s hs' hsb=>?_)
 ·rw [Res.row_own] at hb
  rcases hat with hat|hat
  ·exact hm1.own _ (List.mem_cons_self ..) b (by rw [Res.row_own,← hat];exact hb)
  ·rw [hat] at hb;cases hb;exact .inl hm.fr.size
 ·rw [Res.row_own] at hb
  rcases hat with hat|hat
  ·exact hapart s hs' b (by rw [Res.row_own,← hat];exact hb) hsb
  ·rw [hat] at hb;cases hb
   exact Nat.lt_irrefl _ (Res.ok_lt (hm1.tail.ok s hs') hsb)
theorem zuN {m:Mem} {b t':Nat} {news:List Value} (hh:Has m (.blk b (.cells news.toArray t'))):∀ w,MemOk cx.w0 cx.S m w→∀ j u,news[j]?=some u→w.cell? ((⟨b,0,none⟩:Addr).add j)=some u:=by
 intro w hm j u hj
 rw [Addr.add_lit,Nat.zero_add,zaJ (hm.ok _ hh.mem)]
 exact hj
theorem zaQ {w:World} {A:Option Addr} {cap n t size:Nat} {xs:List Value} (h:w.ownsRow 0 t size (.slice A n cap) n xs) {j:Nat} {v:Value} (hj:xs[j]?=some v):∃ b,A=some ⟨b,0,none⟩∧w.cell? ⟨b,j,none⟩=some v:=by
 have hg:∃ b,A=some ⟨b,0,none⟩:=by
  rcases h.2 with ⟨e1,rfl⟩|⟨g,_,_,e1,_⟩
  ·have:=h.1;simp at this;subst this;simp at hj
  ·exact⟨g,by injection e1⟩
 obtain ⟨b,rfl⟩:=hg
 have:=h.cells (g:=b) rfl j v hj
 rw [Addr.add_lit,Nat.zero_add] at this
 exact⟨b,rfl,this⟩
theorem zge {m:Mem} {A:Option Addr} {cap n t size:Nat} {xs:List Value} (hh:Has m (.row A cap n t size xs)) {w:World} (hm:MemOk cx.w0 cx.S m w) (hn:0<xs.length):Pl A:=by
 obtain ⟨b,rfl,_⟩:=zaQ (hm.ok _ hh.mem) (List.getElem?_eq_getElem hn)
 exact⟨b,0,rfl⟩
theorem ldR (ht:TabOk cx.P cx.tab) {m:Mem} {A:Option Addr} {cap n t' size:Nat} {xs:List Value} {t j:Nat} {i:TyI} {v:Value} (hh:Has m (.row A cap n t' size xs)) (hi:cx.tab.get t=some i) (hk:i.kind.flat=true) (hj:xs[j]?=some v):Ld cx m t (.pointer (pl A j)) v:=by
 intro w hm
 obtain ⟨b,rfl,hc⟩:=zaQ (hm.ok _ hh.mem) hj
 refine zeF (ht _ _ hi) hk ?_
 simpa using hc
theorem Ints.row {m:Mem} {A:Option Addr} {cap n t:Nat} {k:IntKind} {xs:List Int} (hh:Has m (.row A cap n t 1 (xs.map (.int k)))) (hex:∃ w,MemOk cx.w0 cx.S m w):Ints cx m k A xs:=by
 intro hn
 obtain ⟨w1,hm1⟩:=hex
 obtain ⟨b,rfl,_⟩:=zaQ (hm1.ok _ hh.mem) (j:=0) (v:=.int k (xs.getD 0 0)) (by simp [List.getD,List.getElem?_eq_getElem hn])
 refine⟨b,0,rfl,fun w hm i hi=>?_⟩
 obtain ⟨b',hb',hc⟩:=zaQ (hm.ok _ hh.mem) (j:=i) (v:=.int k (xs.getD i 0)) (by simp [List.getD,List.getElem?_eq_getElem hi])
 injection hb' with hb';injection hb' with hb'
 subst hb'
 simpa using hc
theorem zik (ht:TabOk cx.P cx.tab) {m:Mem} {s d e:Nat} {i j l:TyI} {A:Option Addr} {cap n t:Nat} {bs:List UInt8} (hi:cx.tab.get s=some i) (hk:i.kind=.slice e) (hl:cx.tab.get e=some l) (hlk:l.kind=.int .u8) (hj:cx.tab.get d=some j) (hjk:j.kind=.str)
  (hh:Has m (.row A cap n t 1 ((zag bs).map (.int .u8)))) (hn:n=bs.length):Rd cx m (convert s d (.slice A n cap)) (.string ⟨bs.toArray⟩):=by
 intro w hm
 subst hn
 exact zcy ht hi hk hl hlk hj hjk (Ints.row hh ⟨w,hm⟩) cap w hm
end row
/-! ## strings as lists -/
abbrev Str (l:List UInt8):ByteArray:=⟨l.toArray⟩
theorem Str.size (l:List UInt8):(Str l).size=l.length:=by show l.toArray.size=_;simp
theorem Str.inj {l k:List UInt8}:Str l=Str k↔l=k:=by
 constructor
 ·intro h;have:=congrArg (fun s=>s.data.toList) h;simpa using this
 ·rintro rfl;rfl
end Go.Proofs.YtlmgelmloddfgaaGreat.Eng
namespace Go.Proofs.YtlmgelmloddfgaaGreat.Eng
open Go Go.RowKit
section any
variable {P:Program} {ops:Array Oper} {md:Region.Mode} {C:World→Prop} {Q:Exit→Act→World→Prop}
def AnyC (P:Program) (md:Region.Mode) (ops:Array Oper) (C:World→Prop) (Q:Exit→Act→World→Prop):Nat→Array Bool→Act→World→Prop
 | 0,listed,a,w=>Region.ready md ops listed=[]∧Q .normal a w
 | f+1,listed,a,w=>(Region.ready md ops listed=[]→Q .normal a w) ∧
  ∀ i∈Region.ready md ops listed,wpOp P ops Q i (fun a' w'=>C w'∧AnyC P md ops C Q f (listed.setIfInBounds i true) a' w') a w
theorem AnyC.any:∀ (f:Nat) (listed:Array Bool) (a:Act) (w:World),AnyC P md ops C Q f listed a w→wpAny P md ops Q f listed a w
 | 0,_,_,_,h=>h
 | f+1,_,_,_,h=>⟨h.1,fun i hi=>wpOp_mono (fun a' w' h'=>AnyC.any f _ a' w' h'.2) (h.2 i hi)⟩
def zqC (Q:Exit→Act→World→Prop):Prop:=∀ ch a d v w,Q (.panic ch) (Act.put a d v) w→Q (.panic ch) a w
def Yst (P:Program) (ops:Array Oper) (C:World→Prop) (o:Oper) (v:Value) (a:Act):Prop :=
 Region.wanted o (yielded ops a.tmps)=true∧∀ w,C w→(execOp a.eval o).run P w=.ok (.value v) w
theorem zs8 {o:Oper} {a:Act} {d:Option Tmp} {v:Value} {next:Act→World→Prop} (hne:∀ x,d=some x→o.dst≠some x) (hb:zqC Q) {r:Result Next} (h:o.upon P (a.put d v) next Q r) :
  o.upon P a (fun a' w'=>(∃ u df,a'=({ a with defers:=df }).put o.dst u)∧next (a'.put d v) w') Q r:=by
 have hv:∀ (u:Value) (w':World),next ((a.put d v).put o.dst u) w'→(∃ u' df,a.put o.dst u=({ a with defers:=df }).put o.dst u')∧next ((a.put o.dst u).put d v) w':=by
  intro u w' h
  refine⟨⟨u,a.defers,rfl⟩,?_⟩
  rw [← Act.put_comm a v u hne];exact h
 cases r with
 | ok n w' =>
  cases n<;>simp only [Oper.upon] at h ⊢
  case value u=>exact hv u w' h
  case skip=>exact hv _ w' h
  case defer df =>
   refine⟨⟨undef,df::a.defers,rfl⟩,?_⟩
   rw [← Act.put_comm ({ a with defers:=df::a.defers }:Act) v undef hne]
   cases d<;>exact h
  case enter f args =>
   refine h.mono fun e w'' h'=>?_
   cases e with
   | returned u=>exact hv u w'' h'
   | panicked ch=>exact hb _ _ _ _ _ h'
   | outgrown=>exact h'
  case row row args =>
   exact h.mono fun u w'' h'=>hv u w'' h'
 | halt x w' =>
  cases x<;>simp only [Oper.upon] at h ⊢
  exact hb _ _ _ _ _ h
theorem znT {j:Nat} {oi oj:Oper} {v:Value} (hj:ops[j]?=some oj) (hap:oi.apart ops oj=true) (hb:zqC Q)
  (hsi:∀ cs b,oi.op≠.select cs b) (hsj:∀ cs b,oj.op≠.select cs b) {K:Act→World→Prop} {a:Act} {w:World} (hy:Yst P ops C oi v a) (h:wpOp P ops Q j K (a.put oi.dst v) w) :
  wpOp P ops Q j (fun a' w'=>Yst P ops C oi v a'∧K (a'.put oi.dst v) w') a w:=by
 obtain ⟨h1,h2,h3⟩:=Oper.apart_spec hap
 have keep:∀ (df:List Deferred) (u:Value),Yst P ops C oi v (({ a with defers:=df }:Act).put oj.dst u):=by
  intro df u
  have e1:=execOp_put (ops:=ops) oi hsi ({ a with defers:=df }:Act) oj.dst u h3
  have e2:=wanted_put (ops:=ops) oi ({ a with defers:=df }:Act) oj.dst u h3
  exact⟨e2.trans hy.1,fun w hw=>by rw [e1];exact hy.2 w hw⟩
 unfold wpOp at *
 simp only [hj] at *
 rw [wanted_put oj a oi.dst v h1] at h
 split
 ·rename_i hw
  simp only [hw,if_true] at h
  rcases h with h|⟨h,hl⟩
  ·refine .inl ?_
   unfold Oper.wp at h
   rw [execOp_put oj hsj a oi.dst v h1] at h
   have:oj.wp P a w (fun a' w'=>(∃ u df,a'=({ a with defers:=df }:Act).put oj.dst u)∧K (a'.put oi.dst v) w') Q:=zs8 h2 hb h
   refine Oper.wp_mono (fun a' w' hh=>?_) this
   obtain ⟨⟨u,df,rfl⟩,hk⟩:=hh
   exact⟨keep df u,hk⟩
  ·refine .inr ⟨?_,hl⟩
   unfold Oper.asks at h ⊢
   rwa [execOp_put oj hsj a oi.dst v h1] at h
 ·rename_i hw
  simp only [hw] at h
  refine⟨keep a.defers _,?_⟩
  rw [← Act.put_comm a v undef h2];exact h
theorem zht {i:Nat} {oi:Oper} {v:Value} {a:Act} {w:World} {K:Act→World→Prop} (hi:ops[i]?=some oi) (hy:Yst P ops C oi v a) (hw:C w) (h:K (a.put oi.dst v) w):wpOp P ops Q i K a w:=by
 unfold wpOp
 simp only [hi,hy.1,if_true]
 refine .inl ?_
 unfold Oper.wp
 rw [hy.2 w hw]
 exact h
theorem AnyC.first (hb:zqC Q) {i:Nat} {oi:Oper} {v:Value} (hi:ops[i]?=some oi) (hsel:∀ (j:Nat) (o:Oper) cs b,ops[j]?=some o→o.op≠.select cs b) :
  ∀ (f:Nat) (listed:Array Bool) (a:Act) (w:World),C w →
   (∀ j oj,ops[j]?=some oj→j≠i→listed.getD j true=false→(∀ e∈oj.after,Region.binds md e=true→e.on≠i)→oi.apart ops oj=true) →
   i∈Region.ready md ops listed→Yst P ops C oi v a →
   AnyC P md ops C Q f (listed.setIfInBounds i true) (a.put oi.dst v) w→AnyC P md ops C Q (f+1) listed a w:=by
 intro f
 induction f with
 | zero =>
  intro listed a w hw _ hr hy H
  refine⟨fun h=>(by rw [h] at hr;cases hr),fun j hj=>?_⟩
  by_cases hji:j=i
  ·subst hji;exact zht hi hy hw ⟨hw,H⟩
  ·have:=ready_mono hj hji
   rw [H.1] at this
   cases this
 | succ f ih =>
  intro listed a w hw hfree hr hy H
  have hun:=(mem_ready.1 hr).1
  refine⟨fun h=>(by rw [h] at hr;cases hr),fun j hj=>?_⟩
  by_cases hji:j=i
  ·subst hji;exact zht hi hy hw ⟨hw,H⟩
  ·have h1:=H.2 j (ready_mono hj hji)
   obtain ⟨hjun,oj,hoj,hall⟩:=mem_ready.1 hj
   have hnot:∀ e∈oj.after,Region.binds md e=true→e.on≠i:=fun e he hbd heq=>by
    have h2:=hall e he hbd
    rw [heq,getD_both hun] at h2
    cases h2
   have h2:=znT hoj (hfree j oj hoj hji hjun hnot) hb (fun cs b=>hsel i oi cs b hi) (fun cs b=>hsel j oj cs b hoj) hy h1
   refine wpOp_mono (fun a' w' ⟨h3,h4,h5⟩=>⟨h4,ih (listed.setIfInBounds j true) a' w' h4 (fun k ok hk hki hunk hno=>?_) (ready_mono hr (Ne.symm hji)) h3 ?_⟩) h2
   ·refine hfree k ok hk hki ?_ hno
    by_cases hjk:j=k
    ·subst hjk;exact hjun
    ·rwa [getD_set_ne true hjk] at hunk
   ·rw [Array.setIfInBounds_comm _ _ hji]
    exact h5
inductive Tr where
 | done
 | stop
 | hoist (i:Nat) (t:Tr)
 | alts (i:Nat) (t more:Tr)
def Tr.heads:Tr→List Nat
 | .alts i _ more=>i::more.heads
 | _=>[]
def Tr.chk (ops:Array Oper):Tr→Nat→Bool→Array Bool→Bool
 | .done,_,top,l=>top&&(Region.ready .any ops l).isEmpty
 | .stop,_,top,_=>!top
 | .hoist i t,f,top,l=>top&&decide (0<f)&&(Region.ready .any ops l).contains i&&Region.free .any ops l i&&t.chk ops (f-1) true (l.setIfInBounds i true)
 | .alts i t more,f,top,l=>(!top||(Region.ready .any ops l).all fun j=>(i::more.heads).contains j)&&decide (0<f)&&(Region.ready .any ops l).contains i&&t.chk ops (f-1) true (l.setIfInBounds i true)&&more.chk ops f false l
def Tr.hs:List Nat→Tr→Tr
 | [],t=>t
 | i::r,t=>.hoist i (Tr.hs r t)
def Tr.sq:List Nat→Tr→Tr
 | [],t=>t
 | i::r,t=>.alts i (Tr.sq r t) .stop
end any
section anyE
variable {cx:Cx}
def XOs (cx:Cx) (mC:Mem) (dst:Option Nat) (op:Op) (e:Env) (K:Value→Prop):Prop :=
 match op with
 | .load t a=>match e.ev a with
  | some x=>∃ v,RdG cx True mC (Instr.loadAt t x) v∧K v
  | none=>False
 | op=>zcI cx dst op e K
def zg4 (cx:Cx) (mC:Mem) (ops:List Oper) (i:Nat) (ih:Env→Mem→Prop):Env→Mem→Prop:=fun e m=>match nth ops i with
 | some o=>match o.guard with
  | none=>XOs cx mC o.dst o.op e fun v=>ih (e.putD o.dst v) m
  | some _=>False
 | none=>False
def zvT (cx:Cx) (mC:Mem) (ops:List Oper) (kp:List PanicEntry→Mem→Prop) (i:Nat) (ih more:Env→Mem→Prop):Env→Mem→Prop:=fun e m=>(match nth ops i with
 | some o=>match o.guard with
  | none=>XO cx o.dst o.op o.type e m (fun v m'=>SubM cx m' mC∧ih (e.putD o.dst v) m') kp
  | some _=>False
 | none=>False)∧more e m
noncomputable def XT (cx:Cx) (mC:Mem) (ops:List Oper) (k:Env→Mem→Prop) (kp:List PanicEntry→Mem→Prop) (t:Tr):Env→Mem→Prop :=
 Tr.rec (motive:=fun _=>Env→Mem→Prop) k (fun _ _=>True) (fun i _ ih=>zg4 cx mC ops i ih) (fun i _ _ ih more=>zvT cx mC ops kp i ih more) t
def QT (cx:Cx) (k:Env→Mem→Prop) (kp:List PanicEntry→Mem→Prop):Exit→Act→World→Prop
 | .normal,a,w=>∃ e m,EnvOk cx.n cx.df e a∧MemOk cx.w0 cx.S m w∧k e m
 | .panic ch,a,w=>EnvOk cx.n cx.df [] a∧∃ m,MemOk cx.w0 cx.S m w∧kp ch m
 | _,_,_=>False
theorem EnvOk.nil {n:Nat} {D:List Deferred} {e:Env} {a:Act} (h:EnvOk n D e a):EnvOk n D [] a:=⟨h.1,h.2.1,fun t v hv=>by cases hv⟩
theorem QT.blind {k:Env→Mem→Prop} {kp:List PanicEntry→Mem→Prop}:zqC (QT cx k kp):=by
 intro ch a d v w h
 refine⟨⟨?_,?_,fun t v hv=>by cases hv⟩,h.2⟩
 ·have:=h.1.1;cases d<;>exact this
 ·have:=h.1.2.1;cases d with
  | none=>exact this
  | some d=>simpa [Act.put] using this
theorem zcT:∀ {n:Nat} {l:List Oper} {i:Nat} {o:Oper},zbD n l=true→nth l i=some o→o.dst.all (fun i=>decide (i<n))=true
 | n,[],i,o,_,hi=>by cases i<;>cases hi
 | n,o'::r,0,o,h,hi=>by cases hi;exact (zeo h).1
 | n,o'::r,i+1,o,h,hi=>zcT (zeo h).2 hi
theorem zvU (ht:TabOk cx.P cx.tab) {mC:Mem} {o:Oper} {e:Env} {a:Act} {K:Value→Prop} (he:EnvOk cx.n cx.df e a) (h:XOs cx mC o.dst o.op e K):∃ v,(∀ w,MemOk cx.w0 cx.S mC w→(execOp a.eval o).run cx.P w=.ok (.value v) w)∧K v:=by
 have viaPop:zcI cx o.dst o.op e K→∃ v,(∀ w,MemOk cx.w0 cx.S mC w→(execOp a.eval o).run cx.P w=.ok (.value v) w)∧K v:=by
  intro h
  unfold zcI at h
  split at h
  ·rename_i v hv
   exact⟨v,fun w _=>zcX ht he hv (fun p hp=>by cases hp),h⟩
  ·rename_i v p hv
   exact⟨v,fun w _=>zcX ht he hv (fun q hq=>by cases hq;exact h.1),h.2⟩
  ·exact h.elim
 unfold XOs at h
 split at h
 ·rename_i t x hop
  split at h
  ·rename_i u hu
   obtain ⟨v,hl,hk⟩:=h
   refine⟨v,fun w hw=>?_,hk⟩
   have:=hl trivial w hw
   unfold execOp
   rw [hop]
   simp only [he.ev hu]
   exact zf8 this
  ·exact h.elim
 ·exact viaPop h
theorem XT_ok (ht:TabOk cx.P cx.tab) {ops:Array Oper} {mC:Mem} {k:Env→Mem→Prop} {kp:List PanicEntry→Mem→Prop} (hsel:Region.noSelect ops=true) (hds:zbD cx.n ops.toList=true):∀ (t:Tr) (f:Nat) (top:Bool) (listed:Array Bool) (e:Env) (m:Mem) (a:Act) (w:World),
  Tr.chk ops t f top listed=true→EnvOk cx.n cx.df e a→MemOk cx.w0 cx.S m w→MemOk cx.w0 cx.S mC w→XT cx mC ops.toList k kp t e m →
  (top=true→AnyC cx.P .any ops (MemOk cx.w0 cx.S mC) (QT cx k kp) f listed a w) ∧
  (top=false→∀ i∈t.heads,0<f∧wpOp cx.P ops (QT cx k kp) i (fun a' w'=>MemOk cx.w0 cx.S mC w'∧AnyC cx.P .any ops (MemOk cx.w0 cx.S mC) (QT cx k kp) (f-1) (listed.setIfInBounds i true) a' w') a w):=by
 intro t
 induction t with
 | done =>
  intro f top listed e m a w hc he hm hmC h
  simp only [Tr.chk,Bool.and_eq_true,List.isEmpty_iff] at hc
  refine⟨fun _=>?_,fun h0=>absurd (hc.1.symm.trans h0) (by decide)⟩
  have hq:QT cx k kp .normal a w:=⟨e,m,he,hm,h⟩
  cases f with
  | zero=>exact⟨hc.2,hq⟩
  | succ f=>exact⟨fun _=>hq,fun i hi=>by rw [hc.2] at hi;cases hi⟩
 | stop =>
  intro f top listed e m a w hc he hm hmC h
  simp only [Tr.chk,Bool.not_eq_true'] at hc
  exact⟨fun h0=>absurd (h0.symm.trans hc) (by decide),fun _ i hi=>by cases hi⟩
 | hoist i t ih =>
  intro f top listed e m a w hc he hm hmC h
  simp only [Tr.chk,Bool.and_eq_true,decide_eq_true_eq] at hc
  obtain ⟨⟨⟨⟨htop,hf⟩,hr⟩,hfr⟩,hc⟩:=hc
  refine⟨fun _=>?_,fun h0=>absurd (htop.symm.trans h0) (by decide)⟩
  change zg4 cx mC ops.toList i (XT cx mC ops.toList k kp t) e m at h
  unfold zg4 at h
  split at h
  ·rename_i o ho
   have hi:ops[i]?=some o:=by rw [zco] at ho;simpa using ho
   split at h
   ·rename_i hg
    obtain ⟨v,hy,hk⟩:=zvU ht he h
    obtain ⟨f,rfl⟩:∃ f',f=f'+1:=⟨f-1,by omega⟩
    have hds':=zcT hds ho
    have:=(ih f true (listed.setIfInBounds i true) _ m (a.put o.dst v) w hc (he.put hds' v) hm hmC hk).1 rfl
    exact AnyC.first QT.blind hi (Region.noSelect_spec hsel) f listed a w hmC (Region.free_spec hi hfr) (by simpa using hr) ⟨za1 hg,hy⟩ this
   ·exact h.elim
  ·exact h.elim
 | alts i t more ih ihm =>
  intro f top listed e m a w hc he hm hmC h
  simp only [Tr.chk,Bool.and_eq_true,decide_eq_true_eq] at hc
  obtain ⟨⟨⟨⟨hcov,hf⟩,hri⟩,hct⟩,hcm⟩:=hc
  change zvT cx mC ops.toList kp i (XT cx mC ops.toList k kp t) (XT cx mC ops.toList k kp more) e m at h
  obtain ⟨h1,h2⟩:=h
  have hmore:=(ihm f false listed e m a w hcm he hm hmC h2).2 rfl
  have hhead:wpOp cx.P ops (QT cx k kp) i (fun a' w'=>MemOk cx.w0 cx.S mC w'∧AnyC cx.P .any ops (MemOk cx.w0 cx.S mC) (QT cx k kp) (f-1) (listed.setIfInBounds i true) a' w') a w:=by
   split at h1
   ·rename_i o ho
    have hi:ops[i]?=some o:=by rw [zco] at ho;simpa using ho
    have hds':=zcT hds ho
    split at h1
    ·rename_i hg
     unfold wpOp
     simp only [hi,za1 hg,if_true]
     refine .inl (zsZ ht he hm h1 (fun v m' w' hm' hk=>?_) (fun ch m' w' hm' hk=>⟨he.nil,m',hm',hk⟩))
     have hmC':=hk.1 w' hm'
     exact⟨hmC',(ih (f-1) true (listed.setIfInBounds i true) _ m' (a.put o.dst v) w' hct (he.put hds' v) hm' hmC' hk.2).1 rfl⟩
    ·exact h1.elim
   ·exact h1.elim
  have hall:∀ j∈(Tr.alts i t more).heads,0<f∧wpOp cx.P ops (QT cx k kp) j (fun a' w'=>MemOk cx.w0 cx.S mC w'∧AnyC cx.P .any ops (MemOk cx.w0 cx.S mC) (QT cx k kp) (f-1) (listed.setIfInBounds j true) a' w') a w:=by
   intro j hj
   rcases List.mem_cons.1 hj with rfl|hj
   ·exact⟨hf,hhead⟩
   ·exact hmore j hj
  refine⟨fun htop=>?_,fun _=>hall⟩
  subst htop
  simp only [Bool.not_true,Bool.false_or,List.all_eq_true,List.contains_iff_mem] at hcov
  obtain ⟨f,rfl⟩:∃ f',f=f'+1:=⟨f-1,by omega⟩
  have hri':i∈Region.ready .any ops listed:=by simpa using hri
  refine⟨fun h0=>(by rw [h0] at hri';cases hri'),fun j hj=>(hall j ?_).2⟩
  have:=hcov j hj
  simpa [Tr.heads] using this
theorem cpg {g:Prop} {m:Mem} {f:Nat} {args:List Value} {v:Value} (h1:Enters cx.P f) (h2:g→∀ w,MemOk cx.w0 cx.S m w→Calls cx.P f args.toArray w fun e w'=>e=.returned v∧Fr (fun _=>False) w w'):CpG cx g m f args v:=fun hg=>⟨h1,h2 hg⟩
theorem za5 {γ:Type} (t:Tr) (mC:Mem) (ht:TabOk cx.P cx.tab) (hmix:cx.P.follows .mixedOrders=true) {id:Nat} {ops:Array Oper} (hc:(Region.noSelect ops&&Tr.chk ops t ops.size true (Array.replicate ops.size false))=true) (hds:zbD cx.n ops.toList=true) {k:Exit→Env→Mem→Prop} {e:Env} {m:Mem}
  (I:γ→Prop) (E:γ→Env) (M:γ→Mem) (hmC:SubM cx m mC)
  (h:XT cx mC ops.toList (fun e m=>∃ g,I g∧Env.sub (E g) e∧SubM cx m (M g)) (fun ch m=>k (.panic ch) [] m) t e m)
  (hk:∀ g,I g→k .normal (E g) (M g)):Dr cx id ops k e m:=by
 intro a w he hm
 simp only [Bool.and_eq_true] at hc
 have hm':=hm.same (zep w (w.drawn+1))
 have:=((XT_ok ht hc.1 hds t ops.size true _ e m a _ hc.2 he hm' (hmC _ hm') h).1 rfl).any
 refine wp_mono (wp_region_any hmix this) ?_
 intro ex a' w' hq
 cases ex with
 | normal =>
  obtain ⟨e',m',h1,h2,g,h3,h4,h5⟩:=hq
  exact⟨E g,M g,h1.sub h4,h5 _ h2,hk g h3⟩
 | panic ch =>
  obtain ⟨h1,m',h2,h3⟩:=hq
  exact⟨[],m',h1,h2,h3⟩
 | exit id=>exact hq.elim
 | goto l=>exact hq.elim
 | ret=>exact hq.elim
 | outgrown=>exact hq.elim
end anyE
end Go.Proofs.YtlmgelmloddfgaaGreat.Eng
namespace Go.Proofs.YtlmgelmloddfgaaGreat.Eng
open Go Go.RowKit
def Foot (m:Mem) (b:Nat):Prop:=∃ r∈m,r.foot=some b
theorem MemOk.part {w0 w:World} {S:Nat→Prop} {m r:Mem} (h:MemOk w0 S (m++r) w):MemOk w (Foot m) m w :=
 ⟨Fr.refl _ _,fun x hx=>h.ok x (List.mem_append_left _ hx),fun x hx b hb=>.inr ⟨x,hx,hb⟩,(List.pairwise_append.1 h.apart).1⟩
theorem MemOk.beside {w0 w w':World} {S:Nat→Prop} {m r:Mem} (h:MemOk w0 S (m++r) w) (hf:Fr (Foot m) w w'):MemOk w0 S r w':=by
 have hcross:=(List.pairwise_append.1 h.apart).2.2
 refine⟨⟨hf.os.trans h.fr.os,hf.tape.trans h.fr.tape,hf.output.trans h.fr.output,Nat.le_trans h.fr.size hf.size,fun k hk hs=>?_⟩,fun x hx=>?_,fun x hx=>h.own x (List.mem_append_right _ hx),(List.pairwise_append.1 h.apart).2.1⟩
 ·refine (hf.block k (Nat.lt_of_lt_of_le hk h.fr.size) fun ⟨x,hx,hb⟩=>?_).trans (h.fr.block k hk hs)
  exact (h.own x (List.mem_append_left _ hx) k hb).elim (fun h=>absurd hk (by omega)) hs
 ·have hok:=h.ok x (List.mem_append_right _ hx)
  refine Res.ok_of hok fun b hb=>hf.block b (Res.ok_lt hok hb) fun ⟨y,hy,hyb⟩=>?_
  exact hcross y hy x hx b hyb hb
theorem MemOk.frame {w0 w w':World} {S:Nat→Prop} {m m' r:Mem} (h:MemOk w0 S (m++r) w) (h':MemOk w (Foot m) m' w'):MemOk w0 S (m'++r) w':=by
 have hb:=h.beside h'.fr
 have hcross:=(List.pairwise_append.1 h.apart).2.2
 refine⟨hb.fr,fun x hx=>(List.mem_append.1 hx).elim (h'.ok x) (hb.ok x),fun x hx b hbf=>?_,List.pairwise_append.2 ⟨h'.apart,hb.apart,fun x hx y hy b hbx hby=>?_⟩⟩
 ·rcases List.mem_append.1 hx with hx|hx
  ·rcases h'.own x hx b hbf with h1|⟨y,hy,hyb⟩
   ·exact .inl (Nat.le_trans h.fr.size h1)
   ·exact h.own y (List.mem_append_left _ hy) b hyb
  ·exact hb.own x hx b hbf
 ·rcases h'.own x hx b hbx with h1|⟨z,hz,hzb⟩
  ·have:=Res.ok_lt (h.ok y (List.mem_append_right _ hy)) hby
   omega
  ·exact hcross z hz y hy b hzb hby
def Ctr (P:Program) (g:Nat) (args:List Value) (m:Mem) (R:Ending→Mem→Prop) (w:World):Prop :=
 Calls P g args.toArray w fun e w'=>∃ m',R e m'∧MemOk w (Foot m) m' w'
def Stb (m:Mem) (w:World) (p:World→Prop):Prop:=∀ w',Fr (Foot m) w w'→p w'
inductive Sel:Mem→Mem→Mem→Prop
 | nil {m:Mem}:Sel m [] m
 | cons {m m' m1 r:Mem} {x:Res}:Out m x m'→Sel m' m1 r→Sel m (x::m1) r
 | all {m:Mem}:Sel m m []
 | skip {m m1 r:Mem} {x:Res}:Sel m m1 r→Sel (x::m) m1 (x::r)
theorem Sel.perm {m m1 r:Mem} (h:Sel m m1 r):m.Perm (m1++r):=by
 induction h with
 | nil=>exact List.Perm.refl _
 | cons ho _ ih=>exact ho.perm.trans (ih.cons _)
 | all=>rw [List.append_nil]
 | skip _ ih=>exact (ih.cons _).trans List.perm_middle.symm
section
variable {cx:Cx}
theorem zac {m m1 r:Mem} {g:Nat} {vs9:List Value} {K:Value→Mem→Prop} {KP:List PanicEntry→Mem→Prop} {R:Ending→Mem→Prop} (hs:Sel m m1 r)
  (h:∀ w,MemOk cx.w0 cx.S (m1++r) w→Ctr cx.P g vs9 m1 R w)
  (hk:∀ e m',R e m'→match e with
   | .returned v=>K v (m'++r)
   | .panicked ch=>KP ch (m'++r)
   | .outgrown=>False):Cl cx m g vs9 K KP:=by
 intro w hm
 have hm':=hm.perm hs.perm
 refine (h w hm').mono fun e w' ⟨m',hr,ho⟩=>?_
 have hf:=hm'.frame ho
 have:=hk e m' hr
 cases e with
 | returned v=>exact⟨_,hf,this⟩
 | panicked ch=>exact⟨_,hf,this⟩
 | outgrown=>exact this
theorem stb {m r:Mem} {w:World} {p:World→Prop} (hm:MemOk cx.w0 cx.S (m++r) w) (h:∀ w,MemOk cx.w0 cx.S r w→p w):Stb m w p:=fun _ hf=>h _ (hm.beside hf)
theorem Stb.now {m:Mem} {w:World} {p:World→Prop} (h:Stb m w p):p w:=h w (Fr.refl _ _)
theorem MemOk.sel {w0 w:World} {S:Nat→Prop} {m m1 r:Mem} (h:MemOk w0 S m w) (hs:Sel m m1 r):MemOk w0 S m1 w:=(h.perm hs.perm).sublist (List.sublist_append_left _ _)
theorem SubM.sel {m m1 r:Mem} (hs:Sel m m1 r):SubM cx m m1:=fun _ h=>h.sel hs
theorem zvD (ht:TabOk cx.P cx.tab) {m m':Mem} {t e ty:Nat} {i ti:TyI} {A:Option Addr} {cap n size:Nat} {xs:List Value} {a:Addr} {k c:Nat} {news:List Value} {K:Value→Mem→Prop}
  (hi:cx.tab.get t=some i) (hk:i.kind=.slice e) (hti:cx.tab.get e=some ti) (hz:ti.zero.length=ti.cells) (hs:ti.cells=size) (hp:(Nat.ble 1 ti.cells&&Nat.ble ti.bytes 4096)=true)
  (hu:Out m (.row A cap n e size xs) m') (hl:news.length=k*size) (hnews:∀ w,MemOk cx.w0 cx.S m w→∀ j u,news[j]?=some u→w.cell? (a.add j)=some u) (h1:zfH news=true)
  (hb:n+k≤34359738368) (hK:∀ A' cap',K (.slice A' (n+k) cap') (.row A' cap' (n+k) e size (xs++news)::m')) :
  Rn cx m (Builtin.append_ #[t,t] ty #[.slice A n cap,.slice (some a) k c]) K:=by
 simp only [Bool.and_eq_true,Nat.ble_eq] at hp
 refine zrx ht hi hk hti hz hs hp.1 hu hl hnews h1 ?_ (by omega) hK
 exact Nat.le_trans (Nat.mul_le_mul_left _ hp.2) (by omega)
theorem Stb.ints {m0 m:Mem} {k:IntKind} {p:Option Addr} {xs:List Int} (h:Stb m0 cx.w0 (fun w=>IntsIn k w p xs)) (hS:cx.S=Foot m0):Ints cx m k p xs:=by
 intro hn
 obtain ⟨b,o,rfl,_⟩:=h.now hn
 refine⟨b,o,rfl,fun w hm i hi=>?_⟩
 obtain ⟨b',o',hb,hc⟩:=h w (hS ▸ hm.fr) hn
 injection hb with hb;injection hb with hb1 hb2
 subst hb1 hb2
 exact hc i hi
theorem Stb.byts {m0 m:Mem} {p:Option Addr} {bs:List UInt8} (h:Stb m0 cx.w0 (fun w=>BytsIn w p bs)) (hS:cx.S=Foot m0):Byts cx m p bs:=Stb.ints h hS
theorem zaw (ht:TabOk cx.P cx.tab) {m m':Mem} {t:Nat} {i:TyI} {A:Option Addr} {cap n t' size off:Nat} {xs xs':List Value} {v:Value} {K:Mem→Prop} (hi:cx.tab.get t=some i) (hu:Out m (.row A cap n t' size xs) m')
  (hl:(zaS v).length=i.cells) (h1:zfH (zaS v)=true) (hfit:off+(zaS v).length≤n*size) (hpos:0<(zaS v).length) (hxs:zbp off (zaS v) xs=xs') (hk:K (.row A cap n t' size xs'::m')):RnU cx m (Instr.storeAt t (.pointer (pl A off)) v) K:=by
 intro w hm
 have hm1:=hm.perm hu.perm
 have hown:w.ownsRow 0 t' size (.slice A n cap) n xs:=hm1.ok _ (List.mem_cons_self ..)
 have hlen:=hown.1
 rcases hown.2 with ⟨_,h0⟩|⟨b,cap',cur,hv,_,hb,hc,hmax,hsz,hcur⟩
 ·subst h0;omega
 ·injection hv with e1 _ e3
  subst e1 e3
  have hcap:n*size≤cap*size:=Nat.mul_le_mul_right _ hc
  have hst:=run_storeCells_at cx.P b off t' (zaS v) 0 cur w hb (by omega) (zgy h1)
  simp only [Nat.add_zero] at hst
  rw [← zaN _ _ _ (by simp;omega)] at hst
  have hxs':(zbp off (zaS v) cur.toList).take (n*size)=xs':=by
   rw [← hxs,← hcur,zaN _ _ _ (by simp;omega),zaN _ _ _ (by simp;omega)]
   rw [List.append_assoc,List.append_assoc,List.take_append,List.take_take,List.length_take,Array.length_toList,List.take_append,List.drop_take,List.take_take]
   rw [show min (n*size) off=off by omega,show min off (n*size)=off by omega,show min off cur.size=off by omega]
   rw [List.take_of_length_le (l:=zaS v) (by omega),show n*size-off-(zaS v).length=n*size-(off+(zaS v).length) by omega]
  have hlen':(zbp off (zaS v) cur.toList).length=cur.size:=by
   rw [zaN _ _ _ (by simp;omega)]
   simp;omega
  refine⟨w.setRow b (zbp off (zaS v) cur.toList).toArray,.row (some ⟨b,0,none⟩) cap n t' size xs'::m',?_,?_,hk⟩
  ·have hsv:v.cells.size=i.cells:=by rw [zg1];simpa using hl
   simp only [Instr.storeAt,Instr.sureAddr,pl,Option.map_some,Sem.run_bind,Sem.run_pure,Result.andThen_ok,storeVar,za3 (ht _ _ hi),Nat.zero_add]
   rw [if_neg (by simp [hsv]),zd5]
   simpa using hst
  ·have hf:=Fr.setRow w b (zbp off (zaS v) cur.toList).toArray
   have hown1:=hm1.own _ (List.mem_cons_self ..) b rfl
   refine (hm1.tail.step hf (fun k hkk hT=>?_) (fun r hr k hkk hT=>?_)).cons ?_ (fun k hkk=>?_) (fun k hkk s hs=>?_)
   ·subst hT;exact hown1.elim (fun hb=>absurd hkk (by omega)) id
   ·subst hT;exact (List.pairwise_cons.1 hm1.apart).1 r hr k rfl hkk
   ·refine⟨?_,.inr ⟨b,cap,_,rfl,Nat.zero_le _,zh4 hb,hc,hmax,by simp [hlen',hsz],by simpa using hxs'⟩⟩
    rw [← hxs',List.length_take,hlen']
    omega
   ·cases hkk;exact hown1
   ·cases hkk;exact (List.pairwise_cons.1 hm1.apart).1 s hs b rfl
theorem zcj {m m1:Mem} {g:Nat} {vs9:List Value} {K:Value→Mem→Prop} {KP:List PanicEntry→Mem→Prop} (hs:SubM cx m m1) (h:Cl cx m1 g vs9 K KP):Cl cx m g vs9 K KP:=fun w hm=>h w (hs w hm)
theorem SubM.torow {m m':Mem} {b t n:Nat} {xs:List Value} (h:Out m (.blk b (.cells xs.toArray t)) m') (hn:xs.length=n) (hmax:Nat.ble n 9223372036854775807=true):SubM cx m (.row (some ⟨b,0,none⟩) n n t 1 xs::m'):=by
 intro w hm
 have hm1:=hm.perm h.perm
 have hb:w.heap[b]?=some (.cells xs.toArray t):=hm1.ok _ (List.mem_cons_self ..)
 have hown:=hm1.own _ (List.mem_cons_self ..) b rfl
 refine hm1.tail.cons ⟨by omega,.inr ⟨b,n,xs.toArray,rfl,Nat.zero_le _,hb,Nat.le_refl _,by simp only [maxLen];exact Nat.le_of_ble_eq_true hmax,by simp [hn],by simp [← hn]⟩⟩ (fun b' hb'=>?_) (fun b' hb' s hs=>?_)
 ·cases hb';exact hown
 ·cases hb'
  exact (List.pairwise_cons.1 hm1.apart).1 s hs b rfl
end
end Go.Proofs.YtlmgelmloddfgaaGreat.Eng
