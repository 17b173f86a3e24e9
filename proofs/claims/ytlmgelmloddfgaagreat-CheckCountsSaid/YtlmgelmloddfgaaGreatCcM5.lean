/- Part of a proof: contracts of the functions that the law reaches. No statement of the seat is proved here. -/
import Derived.Test.YtlmgelmloddfgaaGreatCcM4
import Derived.Laws.CopyRow
import Derived.Laws.IdiomCopy
import Derived.Lib.BufferWrite
set_option linter.unusedVariables false
set_option linter.unusedSimpArgs false
set_option linter.unusedSectionVars false
set_option maxRecDepth 100000
namespace Go.Proofs.YtlmgelmloddfgaaGreat
open Go Go.RowKit Eng
section
def cntF (bs:List UInt8) (order:Int) (i:Nat):Int:=zsJ bs (zaG order).toNat i
theorem zxk (bs:List UInt8) (order:Int) (i:Nat):0≤cntF bs order i∧cntF bs order i<18446744073709551616:=by
 unfold cntF zsJ
 split
 ·rename_i h
  have h1:(bs.getD (i*(zaG order).toNat/8) 0).toNat<256:=(bs.getD _ 0).toNat_lt
  have h2:=Nat.mod_le ((bs.getD (i*(zaG order).toNat/8) 0).toNat/2 ^ (i*(zaG order).toNat%8)) (2 ^ (zaG order).toNat)
  have h3:=Nat.div_le_self (bs.getD (i*(zaG order).toNat/8) 0).toNat (2 ^ (i*(zaG order).toNat%8))
  omega
 ·have:=zgW bs (i*(zaG order).toNat/8) (k:=(zaG order).toNat/8) (by rcases zcd order with h|h|h|h|h|h|h|h<;>rw [h]<;>decide)
  omega
theorem rowI {w:World} {k:IntKind} {A:Option Addr} {cap n t:Nat} {xs:List Int} (h:w.ownsRow 0 t 1 (.slice A n cap) n (xs.map (.int k))):IntsIn k w A xs:=by
 intro hn
 obtain ⟨b,rfl,_⟩:=zaQ h (j:=0) (v:=.int k (xs.getD 0 0)) (by simp [List.getD,List.getElem?_eq_getElem hn])
 refine⟨b,0,rfl,fun i hi=>?_⟩
 obtain ⟨b',hb',hc⟩:=zaQ h (j:=i) (v:=.int k (xs.getD i 0)) (by simp [List.getD,List.getElem?_eq_getElem hi])
 injection hb' with hb';injection hb' with hb'
 subst hb'
 simpa using hc
attribute [local irreducible] Br Rn RnU Cl RdG CpG Ld Rd Lp Dr Oth Cut fin Fits Eng.Enters Md NA
theorem znO:Eng.Enters Tryz.prog 147:=zab fun _ _=>by kernel_rfl
set_option maxHeartbeats 2000000 in
theorem zvo {γ:Type} (bs:List UInt8) (order:Int) (ho:0≤order∧order≤6) (many:Nat) (hmany:8*(bs.length:Int)/zaG order=many) (hlen:bs.length≤20000000) (bB oB:Nat) (A:Option Addr) (c:Nat) (J:Nat→γ→Mem) (I:Nat→γ→Prop) (g0:γ) (hI0:I 0 g0) (l:Nat) (w:World)
  (hm:MemOk w (Foot (AlM bB oB A c bs order++J 0 g0)) (AlM bB oB A c bs order++J 0 g0) w)
  (hskip:∀ (i:Nat) (g:γ),cntF bs order i=0→I i g→I (i+1) g∧J (i+1) g=J i g)
  (hround:∀ (i:Nat) (g:γ) (w':World),i<many→cntF bs order i≠0→I i g→MemOk w (Foot (AlM bB oB A c bs order++J 0 g0)) (AlM bB oB A c bs order++J i g) w' →
   YieldAt Fence.wide 0 Tryz.prog l #[.int .i64 (i:Nat),.int .u64 (cntF bs order i)] w' fun e w''=>e=.returned (.bool true)∧∃ g',I (i+1) g'∧MemOk w (Foot (AlM bB oB A c bs order++J 0 g0)) (AlM bB oB A c bs order++J (i+1) g') w'') :
  Calls Tryz.prog 147 #[.func (.yield l) #[] #[],.pointer (some ⟨bB,0,none⟩),.pointer (some ⟨oB,0,none⟩)] w fun e w'=>(∃ v,e=.returned v)∧∃ g,I many g∧MemOk w (Foot (AlM bB oB A c bs order++J 0 g0)) (AlM bB oB A c bs order++J many g) w':=by
 generalize hS:Foot (AlM bB oB A c bs order++J 0 g0)=S at hm hround ⊢
 have hwc:=zcd order
 have hw0:zaG order≠0:=by
  have hc:order=0∨order=1∨order=2∨order=3∨order=4∨order=5∨order=6:=by omega
  rcases hc with rfl|rfl|rfl|rfl|rfl|rfl|rfl<;>decide
 have hmb:many≤160000000:=by
  have h1:=Int.ediv_le_self (zaG order) (show 0≤8*(bs.length:Int) by omega)
  omega
 have hbs:∀ {cx:Cx} {m:Mem} {w':World},MemOk cx.w0 cx.S m w'→Has m (.row A c bs.length 5 1 ((zag bs).map (.int .u8)))→BytsIn w' A bs:=fun hm hh=>rowI (hm.ok _ hh.mem)
 refine enter (cx:=⟨Tryz.prog,33,w,S,tab,[],[],[5],[]⟩) [(0,.func (.yield l) #[] #[]),(1,.pointer (some ⟨bB,0,none⟩)),(2,.pointer (some ⟨oB,0,none⟩))] zaa Tryz.func147 rfl rfl rfl rfl hm ?_
 refine gGw ?_
 refine⟨zix,zae _ (fun w' _=>zoz A bs.length c order w' (by omega)) ?_⟩
 rw [zpS,if_neg hw0,hmany]
 refine gGw ?_
 refine lp zaa (γ:=Nat × γ) (fun q=>q.1≤many∧I q.1 q.2) (fun q=>[(15,.int .i64 (q.1:Int)),(14,.int .i64 (many:Int)),(0,.func (.yield l) #[] #[]),(1,.pointer (some ⟨bB,0,none⟩)),(2,.pointer (some ⟨oB,0,none⟩))]) (fun q=>AlM bB oB A c bs order++J q.1 q.2) (fun q=>many-q.1) (0,g0) ⟨by simp,hI0⟩ ⟨rfl,rfl,rfl,rfl,rfl,trivial⟩ (SubM.refl _ _) ?_
 rintro ⟨i,g⟩ ⟨hi,hIi⟩
 simp only at hi hIi
 dsimp only
 conv=>whnf
 refine br_d (fun hlt=>?_) (fun hge=>?_)
 ·have hlt':i<many:=by omega
  conv=>whnf
  have hfit:i*(zaG order).toNat+(zaG order).toNat≤8*bs.length:=by
   have h1:=Int.mul_ediv_add_emod (8*(bs.length:Int)) (zaG order)
   have h2:=Int.emod_nonneg (8*(bs.length:Int)) hw0
   rw [hmany] at h1
   obtain ⟨W,hW⟩:∃ W:Nat,zaG order=W:=⟨(zaG order).toNat,by omega⟩
   rw [hW] at h1 h2 ⊢
   have h3:W*(i+1)≤W*many:=Nat.mul_le_mul_left W (by omega)
   have h4:((W*many:Nat):Int)≤8*(bs.length:Int):=by push_cast;omega
   rw [Nat.mul_add,Nat.mul_one,Nat.mul_comm W i] at h3
   simp only [Int.toNat_natCast]
   omega
  have hwn:((zaG order).toNat:Int)=zaG order:=by omega
  refine za5 (γ:=Unit) (Tr.hs [0,1,3] (.sq [2,4] (.hs [5] .done))) (AlM bB oB A c bs order++J i g) zaa mixed (by kernel_rfl) rfl (fun _=>True)
   (fun _=>[(7,.int .u64 (cntF bs order i)),(6,.int .i64 (i:Int)),(15,.int .i64 (i:Int)),(14,.int .i64 (many:Int)),(0,.func (.yield l) #[] #[]),(1,.pointer (some ⟨bB,0,none⟩)),(2,.pointer (some ⟨oB,0,none⟩))]) (fun _=>AlM bB oB A c bs order++J i g) (SubM.refl _ _) ?_ ?_
  ·refine gGw ?_
   refine⟨zg8,zae (.int .i64 ((zaG order).toNat:Int)) (fun w' _=>by rw [hwn];exact zlm order w') ?_⟩
   conv=>whnf
   refine And.intro (SubM.refl _ _) ?_
   refine gGw ?_
   refine⟨znI,zae _ (fun w' hm'=>zvk bs A c (zaG order).toNat i w' (hbs hm' (by first|exact .there (.there .here)|skip)) hlen (by omega) hfit) ?_⟩
   conv=>whnf
   refine And.intro (SubM.refl _ _) ?_
   refine gGw ?_
   exact⟨(),trivial,⟨rfl,rfl,rfl,rfl,rfl,rfl,rfl,trivial⟩,SubM.refl _ _⟩
  ·rintro ⟨⟩ -
   conv=>whnf
   have hskip:=hskip i g
   have hround:=fun w'=>hround i g w' hlt'
   generalize cntF bs order i=C at hskip hround ⊢
   refine cutX zaa (γ:={ g':γ // I (i+1) g' }) (e':=[(31,.bool false),(15,.int .i64 (i:Int)),(14,.int .i64 (many:Int)),(0,.func (.yield l) #[] #[]),(1,.pointer (some ⟨bB,0,none⟩)),(2,.pointer (some ⟨oB,0,none⟩))]) (m':=fun g'=>AlM bB oB A c bs order++J (i+1) g'.1) ?_ (fun g'=>?_)
   ·intro a w1 he hm1
    rw [← wpIn_wide (n:=1)]
    refine wpIn_region_list ?_
    refine zf7 (r:=none) (V:=.int .u64 C) zaa he hm1 (za1 rfl) (by intro c h;cases h) rfl (by (conv=>whnf);exact⟨rfl,rfl⟩) ?_
    intro a w1 he hm1
    refine zf7 (r:=none) (V:=.bool (!decide (C=0))) zaa he hm1 (za1 rfl) (by intro c h;cases h) rfl (by (conv=>whnf);exact⟨rfl,rfl⟩) ?_
    intro a w1 he hm1
    refine zf7 (r:=none) (V:=.bool (!decide (C=0))) zaa he hm1 (za1 rfl) (by intro c h;cases h) rfl (by (conv=>whnf);exact⟨rfl,rfl⟩) ?_
    intro a w1 he hm1
    by_cases hC:C=0
    ·have hb:(!decide (C=0))=false:=by rw [decide_eq_true hC];rfl
     have he:=he.sub (e':=[(25,.bool false),(15,.int .i64 (i:Int)),(14,.int .i64 (many:Int)),(0,.func (.yield l) #[] #[]),(1,.pointer (some ⟨bB,0,none⟩)),(2,.pointer (some ⟨oB,0,none⟩))]) ⟨by rw [← hb];rfl,rfl,rfl,rfl,rfl,rfl,trivial⟩
     refine zlz (cx:=⟨Tryz.prog,33,w,S,tab,[],[],[5],[]⟩) he ((za0 he rfl rfl rfl).trans rfl) rfl (fun a he=>?_)
     refine zlz (cx:=⟨Tryz.prog,33,w,S,tab,[],[],[5],[]⟩) he ((za0 he rfl rfl rfl).trans rfl) rfl (fun a he=>?_)
     refine zlz (cx:=⟨Tryz.prog,33,w,S,tab,[],[],[5],[]⟩) he ((za0 he rfl rfl rfl).trans rfl) rfl (fun a he=>?_)
     refine zlz (cx:=⟨Tryz.prog,33,w,S,tab,[],[],[5],[]⟩) he ((za0 he rfl rfl rfl).trans rfl) rfl (fun a he=>?_)
     refine zlz (cx:=⟨Tryz.prog,33,w,S,tab,[],[],[5],[]⟩) he ((za0 he rfl rfl rfl).trans rfl) rfl (fun a he=>?_)
     refine zf7 (r:=none) (cx:=⟨Tryz.prog,33,w,S,tab,[],[],[5],[]⟩) (m:=AlM bB oB A c bs order++J i g) (V:=.bool false) zaa he hm1 (za1 rfl) (by intro c h;cases h) rfl (by (conv=>whnf);first|exact⟨rfl,rfl,rfl⟩|exact⟨trivial,rfl,rfl⟩|trace_state) ?_
     intro a w1 he hm1
     refine⟨rfl,he.sub ⟨rfl,rfl,rfl,rfl,rfl,rfl,trivial⟩,⟨g,(hskip hC hIi).1⟩,?_⟩
     rw [(hskip hC hIi).2];exact hm1
    ·have hb:(!decide (C=0))=true:=by rw [decide_eq_false hC];rfl
     have he:=he.sub (e':=[(25,.bool true),(6,.int .i64 (i:Int)),(7,.int .u64 C),(15,.int .i64 (i:Int)),(14,.int .i64 (many:Int)),(0,.func (.yield l) #[] #[]),(1,.pointer (some ⟨bB,0,none⟩)),(2,.pointer (some ⟨oB,0,none⟩))]) ⟨by rw [← hb];rfl,rfl,rfl,rfl,rfl,rfl,rfl,rfl,trivial⟩
     refine zf7 (r:=none) (cx:=⟨Tryz.prog,33,w,S,tab,[],[],[5],[]⟩) (m:=AlM bB oB A c bs order++J i g) (V:=.func (.yield l) #[] #[]) zaa he hm1 ((za0 he rfl rfl rfl).trans rfl) (by intro c h;cases h) rfl (by (conv=>whnf);exact⟨rfl,rfl⟩) ?_
     intro a w1 he hm1
     refine zf7 (r:=none) (cx:=⟨Tryz.prog,33,w,S,tab,[],[],[5],[]⟩) (m:=AlM bB oB A c bs order++J i g) (V:=.int .i64 (i:Int)) zaa he hm1 ((za0 he rfl rfl rfl).trans rfl) (by intro c h;cases h) rfl (by (conv=>whnf);exact⟨rfl,rfl⟩) ?_
     intro a w1 he hm1
     refine zf7 (r:=none) (cx:=⟨Tryz.prog,33,w,S,tab,[],[],[5],[]⟩) (m:=AlM bB oB A c bs order++J i g) (V:=.int .u64 C) zaa he hm1 ((za0 he rfl rfl rfl).trans rfl) (by intro c h;cases h) rfl (by (conv=>whnf);exact⟨rfl,rfl⟩) ?_
     intro a w1 he hm1
     refine zv1 (vs:=[.int .i64 (i:Int),.int .u64 C]) he ((za0 he rfl rfl rfl).trans rfl) rfl rfl rfl (hround w1 hC hIi hm1) rfl ?_
     rintro en w1 ⟨rfl,g',hg',hm1⟩
     refine⟨_,rfl,fun a he=>?_⟩
     refine zf7 (r:=none) (cx:=⟨Tryz.prog,33,w,S,tab,[],[],[5],[]⟩) (m:=AlM bB oB A c bs order++J (i+1) g') (V:=.bool false) zaa he hm1 ((za0 he rfl rfl rfl).trans rfl) (by intro c h;cases h) rfl (by (conv=>whnf);exact⟨rfl,rfl⟩) ?_
     intro a w1 he hm1
     refine zf7 (r:=none) (cx:=⟨Tryz.prog,33,w,S,tab,[],[],[5],[]⟩) (m:=AlM bB oB A c bs order++J (i+1) g') (V:=.bool false) zaa he hm1 (za1 rfl) (by intro c h;cases h) rfl (by (conv=>whnf);exact⟨rfl,rfl⟩) ?_
     intro a w1 he hm1
     exact⟨rfl,he.sub ⟨rfl,rfl,rfl,rfl,rfl,rfl,trivial⟩,⟨g',hg'⟩,hm1⟩
   ·conv=>whnf
    refine br_f rfl ?_
    conv=>whnf
    (repeat ((first|refine And.intro (zaB (by omega)) ?_|refine gG1 ?_|refine .mk fun Ap capp=>?_|intro _);conv=>whnf))
    exact⟨(i+1,g'.1),⟨by simp only;omega,g'.2⟩,by simp only;omega,⟨rfl,rfl,rfl,rfl,rfl,trivial⟩,SubM.refl _ _⟩
 ·have hil:i=many:=by omega
  subst hil
  refine gGw ?_
  exact fin0 rfl (fun w' hm=>⟨⟨_,rfl⟩,g,hIi,hm⟩) (by first|exact .inr rfl|exact .inl rfl)
end
section
def oddF (p:WP) (s:WS) (cl want is:Int):WS:=if is<want then zcs s ⟨6,IntKind.i64.wrap (cl*p.c),want,is⟩ else if want<is then zcs s ⟨7,IntKind.i64.wrap (cl*p.c),want,is⟩ else s
abbrev OM (oB:Nat) (p:WP) (s:WS) (g:MG):Mem:=.blk oB (.cells #[.pointer (some ⟨p.wB,0,none⟩)] 62)::WM p s g
def OR (oB:Nat) (p:WP) (g0:MG) (s:WS) (e:Ending) (m':Mem):Prop:=e=.returned (.tuple #[])∧∃ g,WOk s g∧g.es=g0.es∧g.ck=g0.ck∧m'=OM oB p s g
attribute [local irreducible] Br Rn RnU Cl RdG CpG Ld Rd Lp Dr Oth Cut fin Fits Eng.Enters Md NA
theorem zdW:Eng.Enters Tryz.prog 102:=zab fun _ _=>by kernel_rfl
theorem zit (oB:Nat) (p:WP) (s:WS) (g:MG) (cl want is:Int) (w:World) (hg:WOk s g) (hm:MemOk w (Foot (OM oB p s g)) (OM oB p s g) w) :
  Ctr Tryz.prog 102 [.int .i64 cl,.int .u64 want,.int .u64 is,.pointer (some ⟨oB,0,none⟩)] (OM oB p s g) (OR oB p g (oddF p s cl want is)) w:=by
 refine enter (cx:=CXS 49 [20,25,41,46] w (Foot (OM oB p s g))) [(0,.int .i64 cl),(1,.int .u64 want),(2,.int .u64 is),(3,.pointer (some ⟨oB,0,none⟩))] zaa Tryz.func102 rfl rfl rfl rfl hm ?_
 conv=>whnf
 refine br_d (fun hlt=>?_) (fun hge=>?_)
 ·rw [oddF,if_pos hlt]
  conv=>whnf
  refine za5 (γ:=MG) (Tr.hs [0,1,2,3,4,5,6,7,8,9,10,11,12] (.alts 13 (.alts 14 (.alts 15 (.alts 16 (.sq [17] .done) .stop) .stop) (.alts 15 (.alts 14 (.alts 16 (.sq [17] .done) .stop) (.alts 16 (.alts 14 (.sq [17] .done) .stop) .stop)) .stop)) (.alts 15 (.alts 13 (.alts 14 (.alts 16 (.sq [17] .done) .stop) (.alts 16 (.alts 14 (.sq [17] .done) .stop) .stop)) (.alts 16 (.alts 13 (.alts 14 (.sq [17] .done) .stop) .stop) .stop)) .stop))) [.blk oB (.cells #[.pointer (some ⟨p.wB,0,none⟩)] 62),.blk p.wB (.cells (za4 p s).toArray 68)] zaa mixed (by kernel_rfl) rfl (fun g2=>WOk (zcs s ⟨6,IntKind.i64.wrap (cl*p.c),want,is⟩) g2∧g2.es=g.es∧g2.ck=g.ck)
   (fun _=>[]) (fun g2=>.blk oB (.cells #[.pointer (some ⟨p.wB,0,none⟩)] 62)::WM p (zcs s ⟨6,IntKind.i64.wrap (cl*p.c),want,is⟩) g2) SubM.sl ?_ ?_
  ·refine gGw ?_
   refine⟨?_,?_⟩
   ·skip
    refine zaC zaE za9 0 zbE (by repeat constructor) hg.f ⟨6,IntKind.i64.wrap (cl*p.c),want,is⟩ ?_
    refine gGt ?_
    refine⟨?_,?_⟩
    ·skip
     refine gGt ?_
     refine zaL zaE za9 0 zbE (by repeat constructor) hg.f ⟨6,IntKind.i64.wrap (cl*p.c),want,is⟩ (fun es1 ck1 j st hM1 hj hs=>⟨_,(by repeat constructor),?_⟩)
     refine gGt ?_
     refine gGt ?_
     refine zak (j:=j) (s:=st) (x:=⟨6,IntKind.i64.wrap (cl*p.c),want,is⟩) (by repeat constructor) hM1 hj hs (IntKind.i64.wrap ((mget s.finds ⟨6,IntKind.i64.wrap (cl*p.c),want,is⟩).getD 0+1)) (fun es2 ck2 hM2=>⟨_,(by repeat constructor),?_⟩)
     refine gGt ?_
     rw [zax] at hM2
     exact⟨⟨g.es,g.ck,es2,ck2⟩,⟨⟨hg.h,hM2⟩,rfl,rfl⟩,trivial,SubM.refl _ _⟩
    conv=>whnf
    refine⟨?_,trivial⟩
    refine zaL zaE za9 0 zbE (by repeat constructor) hg.f ⟨6,IntKind.i64.wrap (cl*p.c),want,is⟩ (fun es1 ck1 j st hM1 hj hs=>⟨_,(by repeat constructor),?_⟩)
    refine gGt ?_
    refine⟨?_,?_⟩
    ·skip
     refine gGt ?_
     refine gGt ?_
     refine zak (j:=j) (s:=st) (x:=⟨6,IntKind.i64.wrap (cl*p.c),want,is⟩) (by repeat constructor) hM1 hj hs (IntKind.i64.wrap ((mget s.finds ⟨6,IntKind.i64.wrap (cl*p.c),want,is⟩).getD 0+1)) (fun es2 ck2 hM2=>⟨_,(by repeat constructor),?_⟩)
     refine gGt ?_
     rw [zax] at hM2
     exact⟨⟨g.es,g.ck,es2,ck2⟩,⟨⟨hg.h,hM2⟩,rfl,rfl⟩,trivial,SubM.refl _ _⟩
    conv=>whnf
    refine⟨?_,trivial⟩
    refine gGt ?_
    refine gGt ?_
    refine zak (j:=j) (s:=st) (x:=⟨6,IntKind.i64.wrap (cl*p.c),want,is⟩) (by repeat constructor) hM1 hj hs (IntKind.i64.wrap ((mget s.finds ⟨6,IntKind.i64.wrap (cl*p.c),want,is⟩).getD 0+1)) (fun es2 ck2 hM2=>⟨_,(by repeat constructor),?_⟩)
    refine gGt ?_
    rw [zax] at hM2
    exact⟨⟨g.es,g.ck,es2,ck2⟩,⟨⟨hg.h,hM2⟩,rfl,rfl⟩,trivial,SubM.refl _ _⟩
   conv=>whnf
   refine⟨?_,trivial⟩
   refine zaL zaE za9 0 zbE (by repeat constructor) hg.f ⟨6,IntKind.i64.wrap (cl*p.c),want,is⟩ (fun es1 ck1 j st hM1 hj hs=>⟨_,(by repeat constructor),?_⟩)
   refine gGt ?_
   refine⟨?_,?_⟩
   ·skip
    refine zaC zaE za9 0 zbE (by repeat constructor) hM1 ⟨6,IntKind.i64.wrap (cl*p.c),want,is⟩ ?_
    rw [zbx,if_pos rfl,Option.getD_some]
    refine gGt ?_
    refine⟨?_,?_⟩
    ·skip
     refine gGt ?_
     refine gGt ?_
     refine zak (j:=j) (s:=st) (x:=⟨6,IntKind.i64.wrap (cl*p.c),want,is⟩) (by repeat constructor) hM1 hj hs (IntKind.i64.wrap ((mget s.finds ⟨6,IntKind.i64.wrap (cl*p.c),want,is⟩).getD 0+1)) (fun es2 ck2 hM2=>⟨_,(by repeat constructor),?_⟩)
     refine gGt ?_
     rw [zax] at hM2
     exact⟨⟨g.es,g.ck,es2,ck2⟩,⟨⟨hg.h,hM2⟩,rfl,rfl⟩,trivial,SubM.refl _ _⟩
    conv=>whnf
    refine⟨?_,trivial⟩
    refine gGt ?_
    refine gGt ?_
    refine zak (j:=j) (s:=st) (x:=⟨6,IntKind.i64.wrap (cl*p.c),want,is⟩) (by repeat constructor) hM1 hj hs (IntKind.i64.wrap ((mget s.finds ⟨6,IntKind.i64.wrap (cl*p.c),want,is⟩).getD 0+1)) (fun es2 ck2 hM2=>⟨_,(by repeat constructor),?_⟩)
    refine gGt ?_
    rw [zax] at hM2
    exact⟨⟨g.es,g.ck,es2,ck2⟩,⟨⟨hg.h,hM2⟩,rfl,rfl⟩,trivial,SubM.refl _ _⟩
   conv=>whnf
   refine⟨?_,trivial⟩
   refine gGt ?_
   refine zaC zaE za9 0 zbE (by repeat constructor) hM1 ⟨6,IntKind.i64.wrap (cl*p.c),want,is⟩ ?_
   rw [zbx,if_pos rfl,Option.getD_some]
   refine gGt ?_
   refine gGt ?_
   refine zak (j:=j) (s:=st) (x:=⟨6,IntKind.i64.wrap (cl*p.c),want,is⟩) (by repeat constructor) hM1 hj hs (IntKind.i64.wrap ((mget s.finds ⟨6,IntKind.i64.wrap (cl*p.c),want,is⟩).getD 0+1)) (fun es2 ck2 hM2=>⟨_,(by repeat constructor),?_⟩)
   refine gGt ?_
   rw [zax] at hM2
   exact⟨⟨g.es,g.ck,es2,ck2⟩,⟨⟨hg.h,hM2⟩,rfl,rfl⟩,trivial,SubM.refl _ _⟩
  ·intro g2 hg2
   refine gGw ?_
   exact fin0 rfl (fun w' hm=>⟨_,⟨rfl,g2,hg2.1,hg2.2.1,hg2.2.2,rfl⟩,hm⟩) (by first|exact .inl rfl|exact .inr rfl)
 ·conv=>whnf
  refine br_d (fun hgt=>?_) (fun hle=>?_)
  ·rw [oddF,if_neg hge,if_pos hgt]
   conv=>whnf
   refine za5 (γ:=MG) (Tr.hs [0,1,2,3,4,5,6,7,8,9,10,11,12] (.alts 13 (.alts 14 (.alts 15 (.alts 16 (.sq [17] .done) .stop) .stop) (.alts 15 (.alts 14 (.alts 16 (.sq [17] .done) .stop) (.alts 16 (.alts 14 (.sq [17] .done) .stop) .stop)) .stop)) (.alts 15 (.alts 13 (.alts 14 (.alts 16 (.sq [17] .done) .stop) (.alts 16 (.alts 14 (.sq [17] .done) .stop) .stop)) (.alts 16 (.alts 13 (.alts 14 (.sq [17] .done) .stop) .stop) .stop)) .stop))) [.blk oB (.cells #[.pointer (some ⟨p.wB,0,none⟩)] 62),.blk p.wB (.cells (za4 p s).toArray 68)] zaa mixed (by kernel_rfl) rfl (fun g2=>WOk (zcs s ⟨7,IntKind.i64.wrap (cl*p.c),want,is⟩) g2∧g2.es=g.es∧g2.ck=g.ck)
    (fun _=>[]) (fun g2=>.blk oB (.cells #[.pointer (some ⟨p.wB,0,none⟩)] 62)::WM p (zcs s ⟨7,IntKind.i64.wrap (cl*p.c),want,is⟩) g2) SubM.sl ?_ ?_
   ·refine gGw ?_
    refine⟨?_,?_⟩
    ·skip
     refine zaC zaE za9 0 zbE (by repeat constructor) hg.f ⟨7,IntKind.i64.wrap (cl*p.c),want,is⟩ ?_
     refine gGt ?_
     refine⟨?_,?_⟩
     ·skip
      refine gGt ?_
      refine zaL zaE za9 0 zbE (by repeat constructor) hg.f ⟨7,IntKind.i64.wrap (cl*p.c),want,is⟩ (fun es1 ck1 j st hM1 hj hs=>⟨_,(by repeat constructor),?_⟩)
      refine gGt ?_
      refine gGt ?_
      refine zak (j:=j) (s:=st) (x:=⟨7,IntKind.i64.wrap (cl*p.c),want,is⟩) (by repeat constructor) hM1 hj hs (IntKind.i64.wrap ((mget s.finds ⟨7,IntKind.i64.wrap (cl*p.c),want,is⟩).getD 0+1)) (fun es2 ck2 hM2=>⟨_,(by repeat constructor),?_⟩)
      refine gGt ?_
      rw [zax] at hM2
      exact⟨⟨g.es,g.ck,es2,ck2⟩,⟨⟨hg.h,hM2⟩,rfl,rfl⟩,trivial,SubM.refl _ _⟩
     conv=>whnf
     refine⟨?_,trivial⟩
     refine zaL zaE za9 0 zbE (by repeat constructor) hg.f ⟨7,IntKind.i64.wrap (cl*p.c),want,is⟩ (fun es1 ck1 j st hM1 hj hs=>⟨_,(by repeat constructor),?_⟩)
     refine gGt ?_
     refine⟨?_,?_⟩
     ·skip
      refine gGt ?_
      refine gGt ?_
      refine zak (j:=j) (s:=st) (x:=⟨7,IntKind.i64.wrap (cl*p.c),want,is⟩) (by repeat constructor) hM1 hj hs (IntKind.i64.wrap ((mget s.finds ⟨7,IntKind.i64.wrap (cl*p.c),want,is⟩).getD 0+1)) (fun es2 ck2 hM2=>⟨_,(by repeat constructor),?_⟩)
      refine gGt ?_
      rw [zax] at hM2
      exact⟨⟨g.es,g.ck,es2,ck2⟩,⟨⟨hg.h,hM2⟩,rfl,rfl⟩,trivial,SubM.refl _ _⟩
     conv=>whnf
     refine⟨?_,trivial⟩
     refine gGt ?_
     refine gGt ?_
     refine zak (j:=j) (s:=st) (x:=⟨7,IntKind.i64.wrap (cl*p.c),want,is⟩) (by repeat constructor) hM1 hj hs (IntKind.i64.wrap ((mget s.finds ⟨7,IntKind.i64.wrap (cl*p.c),want,is⟩).getD 0+1)) (fun es2 ck2 hM2=>⟨_,(by repeat constructor),?_⟩)
     refine gGt ?_
     rw [zax] at hM2
     exact⟨⟨g.es,g.ck,es2,ck2⟩,⟨⟨hg.h,hM2⟩,rfl,rfl⟩,trivial,SubM.refl _ _⟩
    conv=>whnf
    refine⟨?_,trivial⟩
    refine zaL zaE za9 0 zbE (by repeat constructor) hg.f ⟨7,IntKind.i64.wrap (cl*p.c),want,is⟩ (fun es1 ck1 j st hM1 hj hs=>⟨_,(by repeat constructor),?_⟩)
    refine gGt ?_
    refine⟨?_,?_⟩
    ·skip
     refine zaC zaE za9 0 zbE (by repeat constructor) hM1 ⟨7,IntKind.i64.wrap (cl*p.c),want,is⟩ ?_
     rw [zbx,if_pos rfl,Option.getD_some]
     refine gGt ?_
     refine⟨?_,?_⟩
     ·skip
      refine gGt ?_
      refine gGt ?_
      refine zak (j:=j) (s:=st) (x:=⟨7,IntKind.i64.wrap (cl*p.c),want,is⟩) (by repeat constructor) hM1 hj hs (IntKind.i64.wrap ((mget s.finds ⟨7,IntKind.i64.wrap (cl*p.c),want,is⟩).getD 0+1)) (fun es2 ck2 hM2=>⟨_,(by repeat constructor),?_⟩)
      refine gGt ?_
      rw [zax] at hM2
      exact⟨⟨g.es,g.ck,es2,ck2⟩,⟨⟨hg.h,hM2⟩,rfl,rfl⟩,trivial,SubM.refl _ _⟩
     conv=>whnf
     refine⟨?_,trivial⟩
     refine gGt ?_
     refine gGt ?_
     refine zak (j:=j) (s:=st) (x:=⟨7,IntKind.i64.wrap (cl*p.c),want,is⟩) (by repeat constructor) hM1 hj hs (IntKind.i64.wrap ((mget s.finds ⟨7,IntKind.i64.wrap (cl*p.c),want,is⟩).getD 0+1)) (fun es2 ck2 hM2=>⟨_,(by repeat constructor),?_⟩)
     refine gGt ?_
     rw [zax] at hM2
     exact⟨⟨g.es,g.ck,es2,ck2⟩,⟨⟨hg.h,hM2⟩,rfl,rfl⟩,trivial,SubM.refl _ _⟩
    conv=>whnf
    refine⟨?_,trivial⟩
    refine gGt ?_
    refine zaC zaE za9 0 zbE (by repeat constructor) hM1 ⟨7,IntKind.i64.wrap (cl*p.c),want,is⟩ ?_
    rw [zbx,if_pos rfl,Option.getD_some]
    refine gGt ?_
    refine gGt ?_
    refine zak (j:=j) (s:=st) (x:=⟨7,IntKind.i64.wrap (cl*p.c),want,is⟩) (by repeat constructor) hM1 hj hs (IntKind.i64.wrap ((mget s.finds ⟨7,IntKind.i64.wrap (cl*p.c),want,is⟩).getD 0+1)) (fun es2 ck2 hM2=>⟨_,(by repeat constructor),?_⟩)
    refine gGt ?_
    rw [zax] at hM2
    exact⟨⟨g.es,g.ck,es2,ck2⟩,⟨⟨hg.h,hM2⟩,rfl,rfl⟩,trivial,SubM.refl _ _⟩
   ·intro g2 hg2
    refine gGw ?_
    exact fin0 rfl (fun w' hm=>⟨_,⟨rfl,g2,hg2.1,hg2.2.1,hg2.2.2,rfl⟩,hm⟩) (by first|exact .inl rfl|exact .inr rfl)
  ·rw [oddF,if_neg hge,if_neg hle]
   refine gGw ?_
   exact fin0 rfl (fun w' hm=>⟨_,⟨rfl,g,hg,rfl,rfl,rfl⟩,hm⟩) (by first|exact .inl rfl|exact .inr rfl)
end
end Go.Proofs.YtlmgelmloddfgaaGreat
namespace Go.Proofs.YtlmgelmloddfgaaGreat.Eng
open Go Go.RowKit
abbrev mkD (D:Nat):Deferred:={ target:=.collected D,args:=#[] }
abbrev MkM (ds:List Nat):Mem:=ds.map fun D=>Res.blk D (.deferred (some []))
theorem zma {P:Program} {fn:Func} {R:Ending→World→Prop} {w0:World} {S:Nat→Prop} {m:Mem} {tmps:Array Value} {v:Value}:∀ (ds:List Nat) (w:World),MemOk w0 S (MkM ds++m) w →
  (∀ w',MemOk w0 S m w'→(results fn tmps).run P w'=.ok v w'∧R (.returned v) w')→LeavesInM Fence.wide 0 P fn tmps R (ds.map mkD) .returning w
 | [],w,hm,h=>by
  show LeavesIn Fence.wide 0 P fn tmps R [] .returning w
  unfold LeavesIn
  exact⟨v,(h w hm).1,(h w hm).2⟩
 | D::ds,w,hm,h=>by
  have hD:w.heap[D]?=some (.deferred (some [])):=hm.ok (.blk D (.deferred (some []))) (List.mem_cons_self ..)
  refine⟨by simp,.inl ⟨D,_,rfl,run_takeDeferred hD,?_⟩⟩
  have hm2:=zdE (o':=.deferred none) hm .here
  exact zma ds _ hm2.tail h
theorem loopF {γ:Type} {P:Program} {c:Code} {Q:Exit→Act→World→Prop} {a:Act} {w:World} (Fit:γ→Act→World→Prop) (μ:γ→Nat) (g0:γ) (h0:Fit g0 a w)
  (round:∀ g a w,Fit g a w→c.wp P (fun ex a' w'=>match ex with
   | .normal=>∃ g',μ g'<μ g∧Fit g' a' w'
   | ex=>Q ex a' w') a w):(Code.loop c).wp P Q a w:=by
 refine wp_loop (fun a w=>∃ g,Fit g a w) (fun a w=>Classical.epsilon fun n=>∃ g,Fit g a w∧μ g=n∧∀ g',Fit g' a w→n≤μ g') ⟨g0,h0⟩ ?_
 have least:∀ a w,(∃ g,Fit g a w)→∃ n g,Fit g a w∧μ g=n∧∀ g',Fit g' a w→n≤μ g':=by
  intro a w ⟨g,h1⟩
  have:∀ n,∀ g,μ g=n→Fit g a w→∃ n g,Fit g a w∧μ g=n∧∀ g',Fit g' a w→n≤μ g':=by
   intro n
   induction n using Nat.strongRecOn with
   | _ n ih =>
    intro g hn h1
    by_cases hall:∀ g',Fit g' a w→n≤μ g'
    ·exact⟨n,g,h1,hn,hall⟩
    ·simp only [Classical.not_forall] at hall
     obtain ⟨g',k1,k4⟩:=hall
     exact ih (μ g') (by omega) g' rfl k1
  exact this _ g rfl h1
 intro a w hI
 have hsp:=Classical.epsilon_spec (least a w hI)
 obtain ⟨g,h1,h4,_⟩:=hsp
 refine wp_mono (round g a w h1) ?_
 intro ex a' w' hk
 cases ex with
 | normal =>
  obtain ⟨g',q1,q2⟩:=hk
  have hI':∃ g,Fit g a' w':=⟨g',q2⟩
  refine⟨hI',?_⟩
  have hsp':=Classical.epsilon_spec (least a' w' hI')
  obtain ⟨g2,_,_,r5⟩:=hsp'
  have:=r5 g' q2
  omega
 | _=>exact hk
end Go.Proofs.YtlmgelmloddfgaaGreat.Eng
namespace Go.Proofs.YtlmgelmloddfgaaGreat
open Go Go.RowKit Eng
section
attribute [local irreducible] Br Rn RnU Cl RdG CpG Ld Rd Lp Dr Oth Cut fin Fits Eng.Enters Md NA
theorem zla {w:World} {b i t:Nat} {cs:Array Value} {v:Value} (h:w.heap[b]?=some (.cells cs t)) (hv:cs[i]?=some v):w.cell? ⟨b,i,none⟩=some v:=by
 simp [World.cell?,h,hv]
theorem zs4 (p:WP) (s:WS) (at_ long:Int) (w:World) (hp:p.Ok) (ha:-4611686018427387904≤at_∧at_≤4611686018427387904) (hl:-4611686018427387904≤long∧long≤4611686018427387904) (hW:w.heap[p.wB]?=some (.cells (za4 p s).toArray 68)) :
  Calls Tryz.prog 99 #[.pointer (some ⟨p.wB,0,none⟩),.int .i64 at_,.int .i64 long] w fun e w'=>e=.returned (.bool (zau p at_ long))∧Fr (fun _=>False) w w':=by
 refine enter (cx:=CX 48 [] w) [(0,.pointer (some ⟨p.wB,0,none⟩)),(1,.int .i64 at_),(2,.int .i64 long)] zaa Tryz.func99 rfl rfl rfl rfl (MemOk.nil w _) ?_
 have h16:w.cell? ⟨p.wB,16,none⟩=some (.int .i64 p.c):=zla hW rfl
 have h17:w.cell? ⟨p.wB,17,none⟩=some (.int .i64 p.n):=zla hW rfl
 have hc0:=hp.c0
 have hc1:=hp.c1
 conv=>whnf
 have d1:=zed hc0 (a:=at_) (by omega)
 have d2:=zed hc0 (a:=long+p.c-1) (by omega)
 have e1:IntKind.i64.wrap (at_.tdiv p.c)=at_.tdiv p.c:=IntWalk.i64_in _ (by omega)
 have e2:IntKind.i64.wrap ((long+p.c-1).tdiv p.c)=(long+p.c-1).tdiv p.c:=IntWalk.i64_in _ (by omega)
 refine zao zaa mixed (by kernel_rfl) rfl ?_;conv=>whnf
 (repeat ((first|refine⟨_,Ld.g (ldF zaa h16 (fun h=>h) rfl rfl),?_⟩|refine⟨_,Ld.g (ldF zaa h17 (fun h=>h) rfl rfl),?_⟩|refine gG1 ?_|refine .mk fun Ap capp=>?_|intro _);conv=>whnf))
 refine fin1 rfl rfl (fun w' hm=>⟨?_,hm.fr⟩)
 rw [e1,e2];rfl
end
section
def zeW (bs:List UInt8) (order base:Int) (l:List (Int × Int)):Nat→List (Int × Int)
 | 0=>l
 | k+1=>if cntF bs order k=0 then zeW bs order base l k else mset (zeW bs order base l k) (base+k) (cntF bs order k)
def zcO (p:WP):Int:=8*p.c/zaG p.h.order
def zd2 (p:WP) (i:Nat):Int:=zaY (zaz p (p.h.counts+8*i))
def zdp (p:WP):Nat→List (Int × Int)
 | 0=>[]
 | i+1=>if zd2 p i=0 then zdp p i else if zau p (zd2 p i) p.c then zeW (liB p (zd2 p i) p.c) p.h.order (i*zcO p) (zdp p i) (zcO p).toNat else zdp p i
def zbh (p:WP):List (Int × Int):=if zau p p.h.counts (p.h.countsLen*p.c) then zdp p (p.h.countsLen*p.c/8).toNat else []
abbrev CM (oB mB vB:Nat) (p:WP) (s:WS) (g:MG) (ds:List Nat) (es:Array MapEntry) (ck:Nat):Mem :=
 .blk mB (.cells #[.map (some vB)] 41)::.blk vB (.map es ck)::.blk oB (.cells #[.pointer (some ⟨p.wB,0,none⟩)] 62)::.blk p.wB (.cells (za4 p s).toArray 68)::.blk p.hB (.map g.es g.ck)::.blk p.fB (.map g.fs g.fk)::MkM ds
/-! ## What compare finds, as a set -/
def oddX (p:WP) (cl want is:Int) (x:Fi):Prop:=(is<want∧x=⟨6,IntKind.i64.wrap (cl*p.c),want,is⟩)∨(want<is∧x=⟨7,IntKind.i64.wrap (cl*p.c),want,is⟩)
def twX (p:WP) (cl:Int) (h:Hl) (x:Fi):Prop:=(h.mixed=true∨(h.kind=0∧1<h.n))∧x=⟨4,IntKind.i64.wrap (cl*p.c),1,h.n⟩
def heX (p:WP) (hv:List (Int × Int)) (q:Int × Hl) (x:Fi):Prop:=twX p q.1 q.2 x∨oddX p q.1 q.2.n ((mget hv q.1).getD 0) x
def hvX (p:WP) (hs:List (Int × Hl)) (q:Int × Int) (x:Fi):Prop:=(mget hs q.1).isSome=false∧oddX p q.1 0 q.2 x
theorem ziL (s:WS) (y x:Fi):x∈keys (zcs s y).finds↔x∈keys s.finds∨x=y:=by
 show x∈keys (mset s.finds y _)↔_
 rw [zgn]
 split
 ·rename_i h
  exact⟨.inl,fun h2=>h2.elim id (fun e=>e ▸ h)⟩
 ·simp
theorem zot (p:WP) (s:WS) (cl want is:Int) (x:Fi):x∈keys (oddF p s cl want is).finds↔x∈keys s.finds∨oddX p cl want is x:=by
 unfold oddF oddX
 split
 ·rename_i h
  rw [ziL]
  exact⟨fun h1=>h1.elim .inl (fun h1=>.inr (.inl ⟨h,h1⟩)),fun h1=>h1.elim .inl (fun h1=>h1.elim (fun h1=>.inr h1.2) (fun h2=>absurd h2.1 (by omega)))⟩
 ·rename_i h
  split
  ·rename_i h2
   rw [ziL]
   exact⟨fun h1=>h1.elim .inl (fun h1=>.inr (.inr ⟨h2,h1⟩)),fun h1=>h1.elim .inl (fun h1=>h1.elim (fun h3=>absurd h3.1 h) (fun h1=>.inr h1.2))⟩
  ·rename_i h2
   exact⟨.inl,fun h3=>h3.elim id (fun h4=>h4.elim (fun h5=>absurd h5.1 h) (fun h5=>absurd h5.1 h2))⟩
theorem zoU {α:Type} {l:List α} {j:Nat} {a:α} (h:l[j]?=some a) (P:α→Prop):(∃ q∈l,P q)↔P a∨∃ q∈l.eraseIdx j,P q:=by
 induction l generalizing j with
 | nil=>simp at h
 | cons b r ih =>
  cases j with
  | zero =>
   simp only [List.getElem?_cons_zero,Option.some.injEq] at h
   subst h
   simp
  | succ j =>
   rw [List.getElem?_cons_succ] at h
   have:=ih h
   simp only [List.eraseIdx_cons_succ,List.mem_cons,or_and_right,exists_or,exists_eq_left]
   rw [this]
   exact⟨fun h=>h.elim (fun h=>.inr (.inl h)) (fun h=>h.elim .inl (fun h=>.inr (.inr h))),fun h=>h.elim (fun h=>.inr (.inl h)) (fun h=>h.elim .inl (fun h=>.inr (.inr h)))⟩
def SameC (s s':WS):Prop:=s'.holders=s.holders∧s'.data=s.data∧s'.packed=s.packed∧s'.zero=s.zero
theorem SameC.odd {s s':WS} (h:SameC s s') (p:WP) (cl a b:Int):SameC s (oddF p s' cl a b):=by
 unfold oddF
 split
 ·exact h
 ·split
  ·exact h
  ·exact h
def CmpR (p:WP) (s s':WS):Prop:=SameC s s'∧∀ x,x∈keys s'.finds↔(x∈keys s.finds∨∃ q∈s.holders,heX p (zbh p) q x)∨∃ q∈zbh p,hvX p s.holders q x
def zez (p:WP) (hv:List (Int × Int)) (s:WS) (q:Int × Hl):WS:=oddF p (if q.2.mixed||(decide (q.2.kind=0)&&decide (1<q.2.n)) then zcs s ⟨4,IntKind.i64.wrap (q.1*p.c),1,q.2.n⟩ else s) q.1 q.2.n ((mget hv q.1).getD 0)
theorem zpn (p:WP) (hv:List (Int × Int)) (s:WS) (q:Int × Hl) (x:Fi):x∈keys (zez p hv s q).finds↔x∈keys s.finds∨heX p hv q x:=by
 unfold zez heX twX
 rw [zot]
 split
 ·rename_i h
  simp only [Bool.or_eq_true,Bool.and_eq_true,decide_eq_true_eq] at h
  rw [ziL]
  simp only [h,true_and,or_assoc]
 ·rename_i h
  simp only [Bool.or_eq_true,Bool.and_eq_true,decide_eq_true_eq] at h
  simp only [h,false_and,false_or]
theorem ze6 {p:WP} {hv:List (Int × Int)} {s s':WS} (h:SameC s s') (q:Int × Hl):SameC s (zez p hv s' q):=by
 unfold zez
 refine SameC.odd ?_ p _ _ _
 split<;>exact h
def zi2 (p:WP) (hs:List (Int × Hl)) (s:WS) (q:Int × Int):WS:=if (mget hs q.1).isSome then s else oddF p s q.1 0 q.2
theorem zpm (p:WP) (hs:List (Int × Hl)) (s:WS) (q:Int × Int) (x:Fi):x∈keys (zi2 p hs s q).finds↔x∈keys s.finds∨hvX p hs q x:=by
 unfold zi2 hvX
 split
 ·rename_i h
  simp [h]
 ·rename_i h
  rw [zot]
  simp [h]
theorem zpl {p:WP} {hs:List (Int × Hl)} {s s':WS} (h:SameC s s') (q:Int × Int):SameC s (zi2 p hs s' q):=by
 unfold zi2
 split
 ·exact h
 ·exact SameC.odd h p _ _ _
abbrev HJ (l D mB iB nB vB:Nat) (i many:Int) (rec:Loop) (q:Array MapEntry × Nat):Mem :=
 [.blk l (.loop rec),.blk D (.deferred (some [])),.blk mB (.cells #[.map (some vB)] 41),.blk iB (.cells #[.int .i64 i] 2),.blk nB (.cells #[.int .i64 many] 3),.blk vB (.map q.1 q.2)]
attribute [local irreducible] Br Rn RnU Cl RdG CpG Ld Rd Lp Dr Oth Cut fin Fits Eng.Enters Md NA
theorem zjh:Eng.Enters Tryz.prog 63:=zab fun _ _=>by kernel_rfl
set_option maxHeartbeats 4000000 in
theorem znE (p:WP) (s:WS) (g:MG) (w:World) (hp:p.Ok) (ho:0≤p.h.order∧p.h.order≤6) (hcap:p.bs.length≤p.cap) (hg:WOk s g) (hb:BIn p w) (hm:MemOk w (Foot (WM p s g)) (WM p s g) w) :
  Ctr Tryz.prog 63 [.pointer (some ⟨p.wB,0,none⟩)] (WM p s g) (fun e m'=>e=.returned (.tuple #[])∧∃ s' g',CmpR p s s'∧WOk s' g'∧m'=WM p s' g') w:=by
 have hc0:=hp.c0
 have hc1:=hp.c1
 have hc8:=hp.c8
 have hcs:=hp.cs
 have hcl:=hp.cl
 have hlen:=hp.len
 obtain ⟨L,hL⟩:∃ L,L=p.h.countsLen*p.c:=⟨_,rfl⟩
 have hL0:0≤L:=by rw [hL];exact Int.mul_nonneg (by omega) (by omega)
 have hL1:L≤4294967296:=by
  rw [hL]
  have h1:p.h.countsLen*p.c≤65536*p.c:=Int.mul_le_mul_of_nonneg_right hcl.2 (by omega)
  omega
 have hL8:L%8=0:=by rw [hL,Int.mul_emod,hc8];simp
 have hfL:Fits .i64 (p.h.countsLen*p.c):=zaB (by rw [← hL];omega)
 refine zx9 [(0,.pointer (some ⟨p.wB,0,none⟩))] Tryz.func63 rfl rfl rfl (fun a he=>?_)
 refine zhp (cx:=⟨Tryz.prog,174,w,Foot (WM p s g),tab,[],[],[],[]⟩) zaa he hm ?_
 conv=>whnf
 intro oB
 conv=>whnf
 intro a w1 he hm
 refine zhp (cx:=⟨Tryz.prog,174,w,Foot (WM p s g),tab,[],[],[],[]⟩) zaa he hm ?_
 conv=>whnf
 intro vB
 conv=>whnf
 intro mB
 conv=>whnf
 refine gG0 ?_
 intro a w1 he hm
 refine wp_seq (wp_mono (Q:=fun ex a' w'=>ex=.normal∧∃ (ds:List Nat) (es:Array MapEntry) (ck:Nat),MapIs (Value.int .i64) (Value.int .u64) es ck (zbh p)∧EnvOk 174 (ds.map mkD) [(1,.pointer (some ⟨oB,0,none⟩)),(2,.pointer (some ⟨mB,0,none⟩))] a'∧MemOk w (Foot (WM p s g)) (CM oB mB vB p s g ds es ck) w') ?_ ?_)
 ·refine zhp (cx:=⟨Tryz.prog,174,w,Foot (WM p s g),tab,[],[],[],[]⟩) zaa he hm ?_
  conv=>whnf
  refine zao zaa mixed (by kernel_rfl) rfl ?_;conv=>whnf
  refine gG0 ?_
  rw [← hL]
  intro a w1 he hm
  refine zhp (cx:=⟨Tryz.prog,174,w,Foot (WM p s g),tab,[],[],[],[]⟩) zaa he hm ?_
  conv=>whnf
  refine za5 (γ:=Unit) (Tr.hs [0,1,2,3,4,5,6] (.sq [7] .done)) (.blk mB (.cells #[.map (some vB)] 41)::.blk vB (.map #[] 0)::OM oB p s g) zaa mixed (by kernel_rfl) rfl (fun _=>True) (fun _=>[(36,.bool (zau p p.h.counts L)),(3,.int .i64 L),(1,.pointer (some ⟨oB,0,none⟩)),(2,.pointer (some ⟨mB,0,none⟩))]) (fun _=>.blk mB (.cells #[.map (some vB)] 41)::.blk vB (.map #[] 0)::OM oB p s g) SubM.sl ?_ ?_
  ·refine gGw ?_
   refine⟨zd9,zac (m1:=WM p s g) (by repeat constructor) (fun w' hm'=>zjj p s g p.h.counts L w' hp (by omega) (by omega) hm'.part) ?_⟩
   rintro e m' ⟨rfl,rfl⟩
   refine gGt ?_
   exact⟨(),trivial,⟨rfl,rfl,rfl,rfl,trivial⟩,SubM.sl⟩
  rintro ⟨⟩ -
  intro a w1 he hm
  have hes:=he.sub (e':=[(36,.bool (zau p p.h.counts L)),(3,.int .i64 L),(1,.pointer (some ⟨oB,0,none⟩)),(2,.pointer (some ⟨mB,0,none⟩))]) ⟨rfl,rfl,rfl,rfl,trivial⟩
  have hms:MemOk w (Foot (WM p s g)) (CM oB mB vB p s g [] #[] 0) w1:=hm.sl
  clear he hm
  refine wp_cond_split (hes.ev rfl) (fun hw=>?_) (fun hw=>?_)
  ·have hle:=zaF hp hw
   refine zhp (cx:=⟨Tryz.prog,174,w,Foot (WM p s g),tab,[],[],[],[]⟩) zaa hes hms ?_
   conv=>whnf
   refine gG0 ?_
   intro a w1 he hm
   rw [show IntKind.i64.wrap (L.tdiv 8)=L/8 from by rw [Int.tdiv_eq_ediv_of_nonneg (by omega)];exact IntWalk.i64_in _ (by omega)] at he
   refine wp_block ?_
   refine loopF (γ:=Nat × List Nat × Array MapEntry × Nat) (fun q a w'=>(q.1:Int)≤L/8∧MapIs (Value.int .i64) (Value.int .u64) q.2.2.1 q.2.2.2 (zdp p q.1)∧EnvOk 174 (q.2.1.map mkD) [(39,.int .i64 (q.1:Int)),(38,.int .i64 (L/8)),(1,.pointer (some ⟨oB,0,none⟩)),(2,.pointer (some ⟨mB,0,none⟩))] a∧MemOk w (Foot (WM p s g)) (CM oB mB vB p s g q.2.1 q.2.2.1 q.2.2.2) w') (fun q=>(L/8).toNat-q.1) (0,[],#[],0) ⟨by simp only;omega,MapIs.nil _ _,he.sub ⟨rfl,rfl,rfl,rfl,trivial⟩,hm⟩ ?_
   rintro ⟨i,ds,es,ck⟩ a w1 ⟨hi,hM,he,hm⟩
   simp only at hi hM he hm ⊢
   refine zhp (cx:=⟨Tryz.prog,174,w,Foot (WM p s g),tab,[],[],[],ds.map mkD⟩) zaa he hm ?_
   conv=>whnf
   intro a w1 he hm
   refine wp_seq ?_
   refine wp_cond_split (he.ev rfl) (fun hlt=>?_) (fun hge=>?_)
   ·have hlt:(i:Int)<L/8:=by simpa using hlt
    refine wp_skip ?_
    refine wp_seq (wp_mono (Q:=fun ex a' w'=>ex=.normal∧∃ (ds:List Nat) (es:Array MapEntry) (ck:Nat),MapIs (Value.int .i64) (Value.int .u64) es ck (zdp p (i+1))∧EnvOk 174 (ds.map mkD) [(39,.int .i64 (i:Int)),(38,.int .i64 (L/8)),(1,.pointer (some ⟨oB,0,none⟩)),(2,.pointer (some ⟨mB,0,none⟩))] a'∧MemOk w (Foot (WM p s g)) (CM oB mB vB p s g ds es ck) w') ?_ ?_)
    ·have hwb:=zd8 p (p.h.counts+8*i)
     have hpb:=zir hwb.1
     have ew:((getV p.bs (p.h.counts+8*(i:Int)).toNat 8:Nat):Int)=zaz p (p.h.counts+8*i):=rfl
     have eP:zaY (zaz p (p.h.counts+8*i))=zd2 p i:=rfl
     refine wp_block ?_
     refine zhp (cx:=⟨Tryz.prog,174,w,Foot (WM p s g),tab,[],[],[],ds.map mkD⟩) zaa he hm ?_
     conv=>whnf
     intro iB
     conv=>whnf
     refine gG0 ?_
     intro a w1 he hm
     refine zhp (cx:=⟨Tryz.prog,174,w,Foot (WM p s g),tab,[],[],[],ds.map mkD⟩) zaa he hm ?_
     conv=>whnf
     refine za5 (γ:=Unit) (Tr.hs [0,1,2,3,4,5,6,7,8] (.sq [9,10] (.hs [11] .done))) (.blk iB (.cells #[.int .i64 (i:Int)] 2)::CM oB mB vB p s g ds es ck) zaa mixed (by kernel_rfl) rfl (fun _=>True)
      (fun _=>[(5,.int .i64 (zd2 p i)),(4,.pointer (some ⟨iB,0,none⟩)),(39,.int .i64 (i:Int)),(38,.int .i64 (L/8)),(1,.pointer (some ⟨oB,0,none⟩)),(2,.pointer (some ⟨mB,0,none⟩))]) (fun _=>.blk iB (.cells #[.int .i64 (i:Int)] 2)::CM oB mB vB p s g ds es ck) SubM.sl ?_ ?_
     ·refine gGw ?_
      refine⟨zc9,zac (m1:=WM p s g) (by repeat constructor) (fun w' hm'=>zf0 p s g (p.h.counts+8*i) w' hp (hb.fr (by rw [zbZ] at hm';exact hm'.fr)) (by omega) hm'.part) ?_⟩
      rintro e m' ⟨rfl,rfl⟩
      rw [ew]
      refine gGt ?_
      refine⟨zeM,zae _ (fun w' hm'=>ziq _ w' hwb.1) ?_⟩
      rw [eP]
      refine gGt ?_
      exact⟨(),trivial,⟨rfl,rfl,rfl,rfl,rfl,rfl,trivial⟩,SubM.sl⟩
     rintro ⟨⟩ -
     rw [eP] at hpb
     intro a w1 he hm
     refine zhp (cx:=⟨Tryz.prog,174,w,Foot (WM p s g),tab,[],[99],[],ds.map mkD⟩) zaa he hm ?_
     conv=>whnf
     refine zao zaa mixed (by kernel_rfl) rfl ?_
     conv=>whnf
     refine gG0 ?_
     refine⟨_,cpg zd9 (fun _ w' hm'=>zs4 p s (zd2 p i) p.c w' hp (by omega) (by omega) (hm'.ok (.blk p.wB (.cells (za4 p s).toArray 68)) (by simp))),?_⟩
     conv=>whnf
     refine gG0 ?_
     refine br (fun hx=>?_) (fun hx=>?_)
     ·have hL1':zdp p (i+1)=zdp p i:=by
       rw [zdp]
       by_cases h0:zd2 p i=0
       ·rw [if_pos h0]
       ·rw [if_neg h0]
        simp only [h0,decide_false,Bool.false_or,Bool.not_eq_true'] at hx
        rw [hx,if_neg (by decide)]
      conv=>whnf
      intro a w1 he hm
      refine⟨rfl,ds,es,ck,by rw [hL1'];exact hM,he.sub ⟨rfl,rfl,rfl,rfl,trivial⟩,hm.sl⟩
     simp only [Bool.or_eq_false_iff,decide_eq_false_iff_not,Bool.not_eq_false'] at hx
     obtain ⟨hx0,hxw⟩:=hx
     conv=>whnf
     intro a w1 he hm
     have hle2:=zaF hp hxw
     have hpl:Pl p.A:=(BytsIn.byts (cx:=CX 0 [] w) (m:=[]) (hb w (Fr.refl _ _)) (fun _ h=>h)).plain (by omega)
     have hlb:(liB p (zd2 p i) p.c).length=p.c.toNat:=by unfold liB;rw [List.length_take,List.length_drop];omega
     refine zhp (cx:=⟨Tryz.prog,174,w,Foot (WM p s g),tab,[],[],[],ds.map mkD⟩) zaa he hm ?_
     conv=>whnf
     refine zao zaa mixed (by kernel_rfl) rfl ?_;conv=>whnf
     refine gG0 ?_
     refine And.intro ⟨by omega,by omega,by omega,.inr hpl⟩ ?_
     conv=>whnf
     refine gG0 ?_
     rw [show (zd2 p i+p.c).toNat-(zd2 p i).toNat=(liB p (zd2 p i) p.c).length by omega]
     generalize hBL:liB p (zd2 p i) p.c=BL at hlb ⊢
     intro a w1 he hm
     have hsub:∀ w',Fr (FW p) w w'→BytsIn w' (cutA p.A p.cap (zd2 p i).toNat 1) BL:=fun w' hf=>by rw [← hBL];exact BytsIn.sub (hb w' hf) p.cap (zd2 p i).toNat p.c.toNat (by omega) hcap
     have he:=he.sub (e':=[(6,.slice (cutA p.A p.cap (zd2 p i).toNat 1) BL.length (p.cap-(zd2 p i).toNat)),(4,.pointer (some ⟨iB,0,none⟩)),(39,.int .i64 (i:Int)),(38,.int .i64 (L/8)),(1,.pointer (some ⟨oB,0,none⟩)),(2,.pointer (some ⟨mB,0,none⟩))]) ⟨rfl,rfl,rfl,rfl,rfl,rfl,trivial⟩
     generalize hAB:cutA p.A p.cap (zd2 p i).toNat 1=AB at he hsub
     have hwc:=zcd p.h.order
     have hw0:zaG p.h.order≠0:=by
      have hc:p.h.order=0∨p.h.order=1∨p.h.order=2∨p.h.order=3∨p.h.order=4∨p.h.order=5∨p.h.order=6:=by omega
      rcases hc with h|h|h|h|h|h|h<;>rw [h]<;>decide
     have hmany:8*(BL.length:Int)/zaG p.h.order=((zcO p).toNat:Nat):=by
      have h1:(BL.length:Int)=p.c:=by omega
      have h2:=Int.ediv_nonneg (show 0≤8*p.c by omega) (show 0≤zaG p.h.order by omega)
      rw [h1];unfold zcO;omega
     refine zhp (cx:=⟨Tryz.prog,174,w,Foot (WM p s g),tab,[],[],[],ds.map mkD⟩) zaa he hm ?_
     conv=>whnf
     refine gG0 ?_
     refine⟨zix,zae _ (fun w' _=>zoz AB BL.length (p.cap-(zd2 p i).toNat) p.h.order w' (by omega)) ?_⟩
     rw [zpS,if_neg hw0,hmany]
     conv=>whnf
     refine gG0 ?_
     intro nB
     conv=>whnf
     refine gG0 ?_
     intro a w1 he hm
     refine zhp (cx:=⟨Tryz.prog,174,w,Foot (WM p s g),tab,[],[],[],ds.map mkD⟩) zaa he hm ?_
     conv=>whnf
     refine gG0 ?_
     refine⟨zqx,zac (m1:=[]) .nil (fun w' hm'=>zxq AB (p.cap-(zd2 p i).toNat) BL p.h.order w' (hsub w' (by have:=hm'.fr;rw [zbZ] at this;exact this)) (by omega)) ?_⟩
     rintro e m' ⟨bB,rB,A',c',rfl,rfl⟩
     conv=>whnf
     refine gG0 ?_
     intro a w1 he hm
     refine wp_block ?_
     have he6:a.eval (.tmp 93)=.func (.func 147) #[] #[.pointer (some ⟨bB,0,none⟩),.pointer (some ⟨rB,0,none⟩)]:=he.ev rfl
     have hes:=he.sub (e':=[(2,.pointer (some ⟨mB,0,none⟩)),(4,.pointer (some ⟨iB,0,none⟩)),(7,.pointer (some ⟨nB,0,none⟩)),(39,.int .i64 (i:Int)),(38,.int .i64 (L/8)),(1,.pointer (some ⟨oB,0,none⟩))]) ⟨rfl,rfl,rfl,rfl,rfl,rfl,trivial⟩
     have hmP:(((zcO p).toNat:Nat):Int)=zcO p:=by
      have h2:=Int.ediv_nonneg (show 0≤8*p.c by omega) (show 0≤zaG p.h.order by omega)
      unfold zcO;omega
     have hmP2:zcO p≤524288:=by
      have h2:=Int.ediv_le_self (zaG p.h.order) (show 0≤8*p.c by omega)
      unfold zcO;omega
     have him:0≤(i:Int)*(((zcO p).toNat:Nat):Int)∧(i:Int)*(((zcO p).toNat:Nat):Int)≤2500000*524288:=by
      have h1:(i:Int)≤2500000:=by omega
      refine⟨Int.mul_nonneg (by omega) (by omega),?_⟩
      exact Int.le_trans (Int.mul_le_mul_of_nonneg_right h1 (by omega)) (Int.mul_le_mul_of_nonneg_left (by omega) (by omega))
     have heL:zdp p (i+1)=zeW BL p.h.order ((i:Int)*(((zcO p).toNat:Nat):Int)) (zdp p i) (zcO p).toNat:=by rw [zdp,if_neg hx0,if_pos hxw,hBL,hmP]
     generalize (zcO p).toNat=MN at hmany him heL hm hes hmP
     refine zuB he6 znO (fun fn rec hrec=>?_)
     have hm0:MemOk w (Foot (WM p s g)) (.blk mB (.cells #[.map (some vB)] 41)::.blk iB (.cells #[.int .i64 (i:Int)] 2)::.blk nB (.cells #[.int .i64 (MN:Int)] 3)::.blk vB (.map es ck)::AlM bB rB A' c' BL p.h.order++.blk oB (.cells #[.pointer (some ⟨p.wB,0,none⟩)] 62)::.blk p.wB (.cells (za4 p s).toArray 68)::.blk p.hB (.map g.es g.ck)::.blk p.fB (.map g.fs g.fk)::MkM ds) w1:=hm.sl
     have hm2:=(hm0.alloc (.deferred (some []))).alloc (.loop rec)
     rw [World.size_alloc] at hm2
     generalize hW1:(w1.alloc (.deferred (some []))).alloc (.loop rec)=W1 at hm2 ⊢
     generalize hD:w1.heap.size=D at hm2 ⊢
     have hm3:MemOk w (Foot (WM p s g)) ((AlM bB rB A' c' BL p.h.order++HJ (D+1) D mB iB nB vB (i:Int) (MN:Int) rec (es,ck))++.blk oB (.cells #[.pointer (some ⟨p.wB,0,none⟩)] 62)::.blk p.wB (.cells (za4 p s).toArray 68)::.blk p.hB (.map g.es g.ck)::.blk p.fB (.map g.fs g.fk)::MkM ds) W1:=hm2.sl
     refine Calls.mono (zvo BL p.h.order ho MN hmany (by omega) bB rB A' c' (fun _ q=>HJ (D+1) D mB iB nB vB (i:Int) (MN:Int) rec q) (fun k q=>MapIs (Value.int .i64) (Value.int .u64) q.1 q.2 (zeW BL p.h.order ((i:Int)*(MN:Int)) (zdp p i) k)) (es,ck) hM (D+1) W1 hm3.part (fun k q h hI=>⟨by simp only [zeW,if_pos h];exact hI,rfl⟩) ?_) ?_
     ·intro k q w' hk hC hI hm'
      have hmD:=hm3.part
      generalize Foot (AlM bB rB A' c' BL p.h.order++HJ (D+1) D mB iB nB vB (i:Int) (MN:Int) rec (es,ck))=SS at hm' ⊢
      have hl2:w'.heap[D+1]?=some (.loop rec):=hm'.ok (.blk (D+1) (.loop rec)) (by simp)
      have hpr:rec.params=#[94,95]:=by rw [hrec]
      refine⟨rec.fn,_,rec.assign,rec.body,run_yield hl2 (by rw [hpr];rfl),roundIn_of_wpIn trivial ?_⟩
      have her0:=((hes.put (d:=some 94) rfl (.int .i64 (k:Nat))).put (d:=some 95) rfl (.int .u64 (cntF BL p.h.order k))).sub (e':=[(94,.int .i64 (k:Int)),(95,.int .u64 (cntF BL p.h.order k)),(2,.pointer (some ⟨mB,0,none⟩)),(4,.pointer (some ⟨iB,0,none⟩)),(7,.pointer (some ⟨nB,0,none⟩))]) ⟨rfl,rfl,rfl,rfl,rfl,trivial⟩
      have htm:((rec.params.zip #[.int .i64 (k:Nat),.int .u64 (cntF BL p.h.order k)]).foldl (fun t p=>t.setIfInBounds p.1 p.2) rec.tmps)=(a.tmps.setIfInBounds 94 (.int .i64 (k:Nat))).setIfInBounds 95 (.int .u64 (cntF BL p.h.order k)):=by
       rw [hrec];simp
      have her:EnvOk 174 [] [(94,.int .i64 (k:Int)),(95,.int .u64 (cntF BL p.h.order k)),(2,.pointer (some ⟨mB,0,none⟩)),(4,.pointer (some ⟨iB,0,none⟩)),(7,.pointer (some ⟨nB,0,none⟩))] { tmps:=((rec.params.zip #[.int .i64 (k:Nat),.int .u64 (cntF BL p.h.order k)]).foldl (fun t p=>t.setIfInBounds p.1 p.2) rec.tmps),defers:=[] }:=⟨rfl,by rw [htm];exact her0.2.1,by rw [htm];exact her0.2.2⟩
      have ha:rec.assign=_:=congrArg Loop.assign hrec
      have hbd:rec.body=_:=congrArg Loop.body hrec
      dsimp only at ha hbd
      have hbz:∀ st,({ { rec with state:=st } with state:=(if (none:Option Code).isNone then .ready else .done),pending:=none }:Loop)=rec:=fun st=>by rw [hrec];rfl
      have hrs:rec.state=.ready:=by rw [hrec]
      have hcb:=zxk BL p.h.order k
      have eH:zeW BL p.h.order ((i:Int)*(MN:Int)) (zdp p i) (k+1)=mset (zeW BL p.h.order ((i:Int)*(MN:Int)) (zdp p i) k) ((i:Int)*(MN:Int)+k) (cntF BL p.h.order k):=by simp only [zeW,if_neg hC]
      clear hrec htm her0 hBL
      generalize ({ tmps:=((rec.params.zip #[.int .i64 (k:Nat),.int .u64 (cntF BL p.h.order k)]).foldl (fun t p=>t.setIfInBounds p.1 p.2) rec.tmps),defers:=[] }:Go.Act)=ar at her
      have hkM:(k:Int)≤20000000:=by
       have h1:=Int.ediv_le_self (zaG p.h.order) (show 0≤8*(BL.length:Int) by omega)
       omega
      rw [ha]
      refine wpIn_seq ?_
      refine wpIn_mono (zrz (cx:=⟨Tryz.prog,174,W1,SS,tab,[],[],[],[]⟩) (r:=some (D+1)) zaa (k:=fun ex e m=>match ex with
       | .normal=>Env.sub [(9,.int .i64 (k:Int)),(95,.int .u64 (cntF BL p.h.order k)),(2,.pointer (some ⟨mB,0,none⟩)),(4,.pointer (some ⟨iB,0,none⟩)),(7,.pointer (some ⟨nB,0,none⟩))] e∧m=AlM bB rB A' c' BL p.h.order++HJ (D+1) D mB iB nB vB (i:Int) (MN:Int) rec q
       | _=>False) (fun e m h=>h) rfl her hm' ?_) ?_
      ·refine gGw ?_
       exact⟨⟨rfl,rfl,rfl,rfl,rfl,trivial⟩,rfl⟩
      rintro ex a2 w2 ⟨e2,m2,he2,hm2,hk⟩
      cases ex with
      | normal =>
       obtain ⟨hs,rfl⟩:=hk
       have he2:=he2.sub hs
       refine wpIn_mono (zrz (cx:=⟨Tryz.prog,174,W1,SS,tab,[],[],[],[]⟩) (r:=some (D+1)) zaa (k:=fun ex e m=>match ex with
        | .normal=>Env.sub [(9,.int .i64 (k:Int)),(10,.int .u64 (cntF BL p.h.order k)),(2,.pointer (some ⟨mB,0,none⟩)),(4,.pointer (some ⟨iB,0,none⟩)),(7,.pointer (some ⟨nB,0,none⟩))] e∧m=AlM bB rB A' c' BL p.h.order++HJ (D+1) D mB iB nB vB (i:Int) (MN:Int) rec q
        | _=>False) (fun e m h=>h) rfl he2 hm2 ?_) ?_
       ·refine gGw ?_
        exact⟨⟨rfl,rfl,rfl,rfl,rfl,trivial⟩,rfl⟩
       rintro ex a3 w3 ⟨e3,m3,he3,hm3,hk⟩
       cases ex with
       | normal =>
        obtain ⟨hs,rfl⟩:=hk
        have he3:=he3.sub hs
        have hl3:w3.heap[D+1]?=some (.loop rec):=hm3.ok (.blk (D+1) (.loop rec)) (by simp)
        refine⟨_,run_beginRound hl3 hrs,?_⟩
        have hm4:=zdE (b:=D+1) (o:=.loop rec) (o':=.loop { rec with state:=.busy }) hm3 (by repeat constructor)
        generalize w3.putObj (D+1) (.loop { rec with state:=.busy })=w4 at hm4 ⊢
        rw [hbd]
        refine wpIn_block ?_
        refine wpIn_mono (zrz (cx:=⟨Tryz.prog,174,W1,SS,tab,[],[],[],[]⟩) (r:=some (D+1)) zaa (k:=fun ex e m=>match ex with
         | .normal=>∃ q',MapIs (Value.int .i64) (Value.int .u64) q'.1 q'.2 (zeW BL p.h.order ((i:Int)*(MN:Int)) (zdp p i) (k+1))∧m=AlM bB rB A' c' BL p.h.order++HJ (D+1) D mB iB nB vB (i:Int) (MN:Int) { rec with state:=.busy } q'
         | _=>False) (fun e m h=>h) rfl he3 hm4 ?_) ?_
        ·refine gGw ?_
         refine zbG (enc:=Value.int .i64) (encV:=Value.int .u64) zcZ zhb (by repeat constructor) hI ((i:Int)*(MN:Int)+k) (cntF BL p.h.order k) (fun es2 ck2 hM2=>⟨_,(by repeat constructor),?_⟩)
         refine gGw ?_
         exact⟨(es2,ck2),by rw [eH];exact hM2,rfl⟩
        rintro ex a5 w5 ⟨e5,m5,he5,hm5,hk⟩
        cases ex with
        | normal =>
         obtain ⟨q',hI',rfl⟩:=hk
         have hm6:=zdE (b:=D+1) (o:=.loop { rec with state:=.busy }) (o':=.loop rec) hm5 (by repeat constructor)
         have hen:=run_endRound (P:=Tryz.prog) none (hm5.ok (.blk (D+1) (.loop { rec with state:=.busy })) (by simp):w5.heap[D+1]?=some (.loop { rec with state:=.busy }))
         rw [hbz] at hen
         exact⟨_,_,hen,rfl,q',hI',hm6⟩
        | _=>exact hk.elim
       | _=>exact hk.elim
      | _=>exact hk.elim
     ·rintro e W2 ⟨⟨v,rfl⟩,q,hI,hmN⟩
      have hmE:=MemOk.frame hm3 hmN
      refine⟨v,rfl,hmE.ok (.blk (D+1) (.loop rec)) (by simp),?_⟩
      have hmX:=zdE (b:=D+1) (o:=.loop rec) (o':=.loop { rec with state:=.exhausted }) hmE (by repeat constructor)
      generalize W2.putObj (D+1) (.loop { rec with state:=.exhausted })=W3 at hmX ⊢
      refine⟨rfl,D::ds,q.1,q.2,by rw [heL];exact hI,⟨by simp [hes.1],?_⟩,hmX.sl⟩
      exact (hes.sub (e':=[(39,.int .i64 (i:Int)),(38,.int .i64 (L/8)),(1,.pointer (some ⟨oB,0,none⟩)),(2,.pointer (some ⟨mB,0,none⟩))]) ⟨rfl,rfl,rfl,rfl,trivial⟩).2
    ·rintro ex a2 w2 ⟨rfl,ds',es',ck',hM',he',hm'⟩
     refine wp_mono (zg5 (cx:=⟨Tryz.prog,174,w,Foot (WM p s g),tab,[],[],[],ds'.map mkD⟩) zaa _ (fun ex e m=>match ex with
      | .normal=>Env.sub [(39,.int .i64 ((i:Int)+1)),(38,.int .i64 (L/8)),(1,.pointer (some ⟨oB,0,none⟩)),(2,.pointer (some ⟨mB,0,none⟩))] e∧m=CM oB mB vB p s g ds' es' ck'
      | _=>False) _ _ a2 w2 he' hm' ?_) ?_
     ·conv=>whnf
      refine gG0 ?_
      exact⟨⟨rfl,rfl,rfl,rfl,trivial⟩,rfl⟩
     ·rintro ex a3 w3 ⟨e3,m3,he3,hm3,hk⟩
      cases ex with
      | normal =>
       obtain ⟨hs,rfl⟩:=hk
       exact⟨(i+1,ds',es',ck'),by simp only;omega,by simp only;omega,hM',he3.sub hs,hm3⟩
      | _=>exact hk.elim
   ·have hge:¬ (i:Int)<L/8:=by simpa using hge
    have hie:i=(L/8).toNat:=by omega
    refine wp_exit ?_
    refine⟨rfl,ds,es,ck,?_,he.sub ⟨rfl,rfl,trivial⟩,hm⟩
    rw [zbh,← hL,if_pos hw,← hie];exact hM
  ·refine wp_skip ⟨rfl,[],#[],0,?_,hes.sub ⟨rfl,rfl,trivial⟩,hms⟩
   rw [zbh,← hL,hw];exact MapIs.nil _ _
 rintro ex a w1 ⟨rfl,ds,es,ck,hM,he,hm⟩
 refine wp_mono (zg5 (cx:=⟨Tryz.prog,174,w,Foot (WM p s g),tab,[136,141],[],[],ds.map mkD⟩) zaa _ (fun ex e m=>match ex with
  | .normal=>∃ s' g',CmpR p s s'∧WOk s' g'∧SubM ⟨Tryz.prog,174,w,Foot (WM p s g),tab,[136,141],[],[],ds.map mkD⟩ m (CM oB mB vB p s' g' ds es ck)
  | _=>False) _ _ a w1 he hm ?_) ?_
 ·refine gGw ?_
  refine zhz zhc (by repeat constructor) (fun rB=>?_)
  conv=>whnf
  refine lp zaa (γ:=WS × (Array MapEntry × Nat) × Array Nat × List (Int × Hl)) (fun q=>SameC s q.1∧WOk q.1 ⟨g.es,g.ck,q.2.1.1,q.2.1.2⟩∧ItIs (Value.int .i64) Hl.enc g.es q.2.2.1 q.2.2.2∧∀ x,(x∈keys q.1.finds∨∃ y∈q.2.2.2,heX p (zbh p) y x)↔(x∈keys s.finds∨∃ y∈s.holders,heX p (zbh p) y x))
   (fun _=>[(109,.pointer (some ⟨rB,0,none⟩)),(11,.func (.func 102) #[] #[.pointer (some ⟨oB,0,none⟩)]),(1,.pointer (some ⟨oB,0,none⟩)),(2,.pointer (some ⟨mB,0,none⟩))])
   (fun q=>.blk rB (.mapIter (some p.hB) g.ck q.2.2.1 g.ck)::CM oB mB vB p q.1 ⟨g.es,g.ck,q.2.1.1,q.2.1.2⟩ ds es ck) (fun q=>q.2.2.2.length) (s,(g.fs,g.fk),#[],s.holders) ⟨⟨rfl,rfl,rfl,rfl⟩,hg,ItIs.start hg.h,fun x=>Iff.rfl⟩ ⟨rfl,rfl,rfl,rfl,trivial⟩ SubM.sl ?_
  rintro ⟨s1,⟨fs,fk⟩,seen,rem⟩ ⟨hsc,hg1,hit,hset⟩
  simp only at hsc hg1 hit hset
  dsimp only
  conv=>whnf
  refine zkr _ (b:=p.hB) (es:=g.es) (rem:=rem) (by repeat constructor) (by repeat constructor) hg.h hit (fun h0=>?_) (fun j q seen' hj hit' hlast=>⟨_,(by repeat constructor),?_⟩)
  ·subst h0
   refine gGw ?_
   refine br_f rfl ?_
   refine gGw ?_
   refine zhz zhb (by repeat constructor) (fun rC=>?_)
   conv=>whnf
   refine lp zaa (γ:=WS × (Array MapEntry × Nat) × Array Nat × List (Int × Int)) (fun q=>SameC s q.1∧WOk q.1 ⟨g.es,g.ck,q.2.1.1,q.2.1.2⟩∧ItIs (Value.int .i64) (Value.int .u64) es q.2.2.1 q.2.2.2∧∀ x,(x∈keys q.1.finds∨∃ y∈q.2.2.2,hvX p s.holders y x)↔(x∈keys s1.finds∨∃ y∈zbh p,hvX p s.holders y x))
    (fun _=>[(153,.pointer (some ⟨rC,0,none⟩)),(11,.func (.func 102) #[] #[.pointer (some ⟨oB,0,none⟩)]),(1,.pointer (some ⟨oB,0,none⟩))])
    (fun q=>.blk rC (.mapIter (some vB) ck q.2.2.1 ck)::CM oB mB vB p q.1 ⟨g.es,g.ck,q.2.1.1,q.2.1.2⟩ ds es ck) (fun q=>q.2.2.2.length) (s1,(fs,fk),#[],zbh p) ⟨hsc,hg1,ItIs.start hM,fun x=>Iff.rfl⟩ ⟨rfl,rfl,rfl,trivial⟩ SubM.sl ?_
   rintro ⟨s2,⟨fs2,fk2⟩,seen2,rem⟩ ⟨hsc2,hg2,hit2,hset2⟩
   simp only at hsc2 hg2 hit2 hset2
   dsimp only
   conv=>whnf
   refine zkr _ (b:=vB) (es:=es) (rem:=rem) (by repeat constructor) (by repeat constructor) hM hit2 (fun h0=>?_) (fun j q seen' hj hit' hlast=>⟨_,(by repeat constructor),?_⟩)
   ·subst h0
    refine gGw ?_
    refine br_f rfl ?_
    refine gGw ?_
    refine⟨s2,⟨g.es,g.ck,fs2,fk2⟩,⟨hsc2,fun x=>?_⟩,hg2,SubM.sl⟩
    have h1:=hset x
    have h2:=hset2 x
    simp only [List.not_mem_nil,false_and,exists_false,or_false] at h1 h2
    rw [h2,h1]
   ·obtain ⟨cl,v⟩:=q
    refine gGw ?_
    refine br_t rfl ?_
    refine gGw ?_
    refine zhA (b:=vB) (r:=rC) (by repeat constructor) (by repeat constructor) hM.nodup hlast ?_
    refine gGw ?_
    refine zaC zcZ zhc ⟨0,0,false⟩ zvq (by repeat constructor) hg2.h cl ?_
    have hset':∀ x,(x∈keys (zi2 p s.holders s2 (cl,v)).finds∨∃ y∈rem.eraseIdx j,hvX p s.holders y x)↔(x∈keys s1.finds∨∃ y∈zbh p,hvX p s.holders y x):=fun x=>by
     rw [← hset2 x,zpm,zoU hj,or_assoc]
    have hlt:(rem.eraseIdx j).length<rem.length:=by
     have:=(List.getElem?_eq_some_iff.1 hj).1
     rw [List.length_eraseIdx_of_lt this];omega
    have hhs:s2.holders=s.holders:=hsc2.1
    rw [hhs]
    conv=>whnf
    intro xB
    refine gGw ?_
    refine br_n (br (fun his=>?_) (fun his=>?_))
    ·have e2:s2=zi2 p s.holders s2 (cl,v):=by rw [zi2];simp only [his,if_true]
     refine gGw ?_
     rw [← e2] at hset'
     exact⟨(s2,(fs2,fk2),seen',rem.eraseIdx j),⟨hsc2,hg2,hit',hset'⟩,hlt,⟨rfl,rfl,rfl,trivial⟩,SubM.sl⟩
    ·have e2:oddF p s2 cl 0 v=zi2 p s.holders s2 (cl,v):=by rw [zi2];simp only [his,Bool.false_eq_true,if_false]
     refine gGw ?_
     refine⟨zdW,zac (m1:=OM oB p s2 ⟨g.es,g.ck,fs2,fk2⟩) (by repeat constructor) (fun w' hm'=>zit oB p _ _ cl 0 v w' hg2 hm'.part) ?_⟩
     rintro e m' ⟨rfl,⟨e3,c3,f3,k3⟩,hg3,h3e,h3c,rfl⟩
     simp only at h3e h3c
     subst h3e h3c
     rw [e2] at hg3 ⊢
     refine gGw ?_
     exact⟨(zi2 p s.holders s2 (cl,v),(f3,k3),seen',rem.eraseIdx j),⟨zpl hsc2 _,hg3,hit',hset'⟩,hlt,⟨rfl,rfl,rfl,trivial⟩,SubM.sl⟩
  ·obtain ⟨cl,hl⟩:=q
   refine gGw ?_
   refine br_t rfl ?_
   refine gGw ?_
   refine zhA (b:=p.hB) (r:=rB) (by repeat constructor) (by repeat constructor) hg.h.nodup hlast ?_
   conv=>whnf
   intro xB
   refine gGw ?_
   have hset':∀ x,(x∈keys (zez p (zbh p) s1 (cl,hl)).finds∨∃ y∈rem.eraseIdx j,heX p (zbh p) y x)↔(x∈keys s.finds∨∃ y∈s.holders,heX p (zbh p) y x):=fun x=>by
    rw [← hset x,zpn,zoU hj,or_assoc]
   have hlt:(rem.eraseIdx j).length<rem.length:=by
    have:=(List.getElem?_eq_some_iff.1 hj).1
    rw [List.length_eraseIdx_of_lt this];omega
   refine br (fun hmx=>?_) (fun hmx=>?_)
   ·have hmx:hl.mixed=true:=hmx
    refine gGw ?_
    refine br_t rfl ?_
    have hc:(hl.mixed||(decide (hl.kind=0)&&decide (1<hl.n)))=true:=by simp [*]
    have e2:oddF p (zcs s1 ⟨4,IntKind.i64.wrap (cl*p.c),1,hl.n⟩) cl hl.n ((mget (zbh p) cl).getD 0)=zez p (zbh p) s1 (cl,hl):=by
     rw [zez];simp only [hc,if_true]
    conv=>whnf
    refine za5 (γ:=Array MapEntry × Nat) (Tr.hs [0,1,2,3,4,5,6,7,8,9,10,11,12] (.alts 13 (.alts 14 (.alts 15 (.alts 16 (.sq [17] .done) .stop) .stop) (.alts 15 (.alts 14 (.alts 16 (.sq [17] .done) .stop) (.alts 16 (.alts 14 (.sq [17] .done) .stop) .stop)) .stop)) (.alts 15 (.alts 13 (.alts 14 (.alts 16 (.sq [17] .done) .stop) (.alts 16 (.alts 14 (.sq [17] .done) .stop) .stop)) (.alts 16 (.alts 13 (.alts 14 (.sq [17] .done) .stop) .stop) .stop)) .stop))) [.blk xB (.cells [.int .u64 hl.n,.int .i64 hl.kind,.bool hl.mixed].toArray 91),.blk oB (.cells #[.pointer (some ⟨p.wB,0,none⟩)] 62),.blk p.wB (.cells (za4 p s1).toArray 68)] zaa mixed (by kernel_rfl) rfl (fun q=>WOk (zcs s1 ⟨4,IntKind.i64.wrap (cl*p.c),1,hl.n⟩) ⟨g.es,g.ck,q.1,q.2⟩)
     (fun _=>[(12,.int .i64 cl),(13,.pointer (some ⟨xB,0,none⟩)),(109,.pointer (some ⟨rB,0,none⟩)),(11,.func (.func 102) #[] #[.pointer (some ⟨oB,0,none⟩)]),(1,.pointer (some ⟨oB,0,none⟩)),(2,.pointer (some ⟨mB,0,none⟩))])
     (fun q=>.blk xB (.cells [.int .u64 hl.n,.int .i64 hl.kind,.bool hl.mixed].toArray 91)::.blk rB (.mapIter (some p.hB) g.ck seen' g.ck)::CM oB mB vB p (zcs s1 ⟨4,IntKind.i64.wrap (cl*p.c),1,hl.n⟩) ⟨g.es,g.ck,q.1,q.2⟩ ds es ck) SubM.sl ?_ ?_
    ·refine gGw ?_
     refine⟨?_,?_⟩
     ·skip
      refine zaC zaE za9 0 zbE (by repeat constructor) hg1.f ⟨4,IntKind.i64.wrap (cl*p.c),1,hl.n⟩ ?_
      refine gGt ?_
      refine⟨?_,?_⟩
      ·skip
       refine gGt ?_
       refine zaL zaE za9 0 zbE (by repeat constructor) hg1.f ⟨4,IntKind.i64.wrap (cl*p.c),1,hl.n⟩ (fun es1 ck1 j st hM1 hj hs=>⟨_,(by repeat constructor),?_⟩)
       refine gGt ?_
       refine gGt ?_
       refine zak (j:=j) (s:=st) (x:=⟨4,IntKind.i64.wrap (cl*p.c),1,hl.n⟩) (by repeat constructor) hM1 hj hs (IntKind.i64.wrap ((mget s1.finds ⟨4,IntKind.i64.wrap (cl*p.c),1,hl.n⟩).getD 0+1)) (fun es2 ck2 hM2=>⟨_,(by repeat constructor),?_⟩)
       refine gGt ?_
       rw [zax] at hM2
       exact⟨(es2,ck2),⟨hg1.h,hM2⟩,⟨rfl,rfl,rfl,rfl,rfl,rfl,trivial⟩,SubM.sl⟩
      conv=>whnf
      refine⟨?_,trivial⟩
      refine zaL zaE za9 0 zbE (by repeat constructor) hg1.f ⟨4,IntKind.i64.wrap (cl*p.c),1,hl.n⟩ (fun es1 ck1 j st hM1 hj hs=>⟨_,(by repeat constructor),?_⟩)
      refine gGt ?_
      refine⟨?_,?_⟩
      ·skip
       refine gGt ?_
       refine gGt ?_
       refine zak (j:=j) (s:=st) (x:=⟨4,IntKind.i64.wrap (cl*p.c),1,hl.n⟩) (by repeat constructor) hM1 hj hs (IntKind.i64.wrap ((mget s1.finds ⟨4,IntKind.i64.wrap (cl*p.c),1,hl.n⟩).getD 0+1)) (fun es2 ck2 hM2=>⟨_,(by repeat constructor),?_⟩)
       refine gGt ?_
       rw [zax] at hM2
       exact⟨(es2,ck2),⟨hg1.h,hM2⟩,⟨rfl,rfl,rfl,rfl,rfl,rfl,trivial⟩,SubM.sl⟩
      conv=>whnf
      refine⟨?_,trivial⟩
      refine gGt ?_
      refine gGt ?_
      refine zak (j:=j) (s:=st) (x:=⟨4,IntKind.i64.wrap (cl*p.c),1,hl.n⟩) (by repeat constructor) hM1 hj hs (IntKind.i64.wrap ((mget s1.finds ⟨4,IntKind.i64.wrap (cl*p.c),1,hl.n⟩).getD 0+1)) (fun es2 ck2 hM2=>⟨_,(by repeat constructor),?_⟩)
      refine gGt ?_
      rw [zax] at hM2
      exact⟨(es2,ck2),⟨hg1.h,hM2⟩,⟨rfl,rfl,rfl,rfl,rfl,rfl,trivial⟩,SubM.sl⟩
     conv=>whnf
     refine⟨?_,trivial⟩
     refine zaL zaE za9 0 zbE (by repeat constructor) hg1.f ⟨4,IntKind.i64.wrap (cl*p.c),1,hl.n⟩ (fun es1 ck1 j st hM1 hj hs=>⟨_,(by repeat constructor),?_⟩)
     refine gGt ?_
     refine⟨?_,?_⟩
     ·skip
      refine zaC zaE za9 0 zbE (by repeat constructor) hM1 ⟨4,IntKind.i64.wrap (cl*p.c),1,hl.n⟩ ?_
      rw [zbx,if_pos rfl,Option.getD_some]
      refine gGt ?_
      refine⟨?_,?_⟩
      ·skip
       refine gGt ?_
       refine gGt ?_
       refine zak (j:=j) (s:=st) (x:=⟨4,IntKind.i64.wrap (cl*p.c),1,hl.n⟩) (by repeat constructor) hM1 hj hs (IntKind.i64.wrap ((mget s1.finds ⟨4,IntKind.i64.wrap (cl*p.c),1,hl.n⟩).getD 0+1)) (fun es2 ck2 hM2=>⟨_,(by repeat constructor),?_⟩)
       refine gGt ?_
       rw [zax] at hM2
       exact⟨(es2,ck2),⟨hg1.h,hM2⟩,⟨rfl,rfl,rfl,rfl,rfl,rfl,trivial⟩,SubM.sl⟩
      conv=>whnf
      refine⟨?_,trivial⟩
      refine gGt ?_
      refine gGt ?_
      refine zak (j:=j) (s:=st) (x:=⟨4,IntKind.i64.wrap (cl*p.c),1,hl.n⟩) (by repeat constructor) hM1 hj hs (IntKind.i64.wrap ((mget s1.finds ⟨4,IntKind.i64.wrap (cl*p.c),1,hl.n⟩).getD 0+1)) (fun es2 ck2 hM2=>⟨_,(by repeat constructor),?_⟩)
      refine gGt ?_
      rw [zax] at hM2
      exact⟨(es2,ck2),⟨hg1.h,hM2⟩,⟨rfl,rfl,rfl,rfl,rfl,rfl,trivial⟩,SubM.sl⟩
     conv=>whnf
     refine⟨?_,trivial⟩
     refine gGt ?_
     refine zaC zaE za9 0 zbE (by repeat constructor) hM1 ⟨4,IntKind.i64.wrap (cl*p.c),1,hl.n⟩ ?_
     rw [zbx,if_pos rfl,Option.getD_some]
     refine gGt ?_
     refine gGt ?_
     refine zak (j:=j) (s:=st) (x:=⟨4,IntKind.i64.wrap (cl*p.c),1,hl.n⟩) (by repeat constructor) hM1 hj hs (IntKind.i64.wrap ((mget s1.finds ⟨4,IntKind.i64.wrap (cl*p.c),1,hl.n⟩).getD 0+1)) (fun es2 ck2 hM2=>⟨_,(by repeat constructor),?_⟩)
     refine gGt ?_
     rw [zax] at hM2
     exact⟨(es2,ck2),⟨hg1.h,hM2⟩,⟨rfl,rfl,rfl,rfl,rfl,rfl,trivial⟩,SubM.sl⟩
    ·rintro ⟨fs2,fk2⟩ hg2
     simp only at hg2 ⊢
     refine gGw ?_
     refine zaC zcZ zhb 0 zqG (by repeat constructor) hM cl ?_
     refine gGw ?_
     refine⟨zdW,zac (m1:=OM oB p (zcs s1 ⟨4,IntKind.i64.wrap (cl*p.c),1,hl.n⟩) ⟨g.es,g.ck,fs2,fk2⟩) (by repeat constructor) (fun w' hm'=>zit oB p _ _ cl hl.n ((mget (zbh p) cl).getD 0) w' hg2 hm'.part) ?_⟩
     rintro e m' ⟨rfl,⟨e3,c3,f3,k3⟩,hg3,h3e,h3c,rfl⟩
     simp only at h3e h3c
     subst h3e h3c
     rw [e2] at hg3 ⊢
     refine gGw ?_
     exact⟨(zez p (zbh p) s1 (cl,hl),(f3,k3),seen',rem.eraseIdx j),⟨ze6 hsc _,hg3,hit',hset'⟩,hlt,⟨rfl,rfl,rfl,rfl,trivial⟩,SubM.sl⟩
   ·have hmx:hl.mixed=false:=hmx
    refine gGw ?_
    refine br_d (fun hk0=>?_) (fun hk0=>?_)
    ·have hk0:hl.kind=0:=hk0
     refine gGw ?_
     refine br_d (fun hn1=>?_) (fun hn1=>?_)
     ·have hn1:1<hl.n:=hn1
      have hc:(hl.mixed||(decide (hl.kind=0)&&decide (1<hl.n)))=true:=by simp [*]
      have e2:oddF p (zcs s1 ⟨4,IntKind.i64.wrap (cl*p.c),1,hl.n⟩) cl hl.n ((mget (zbh p) cl).getD 0)=zez p (zbh p) s1 (cl,hl):=by
       rw [zez];simp only [hc,if_true]
      conv=>whnf
      refine za5 (γ:=Array MapEntry × Nat) (Tr.hs [0,1,2,3,4,5,6,7,8,9,10,11,12] (.alts 13 (.alts 14 (.alts 15 (.alts 16 (.sq [17] .done) .stop) .stop) (.alts 15 (.alts 14 (.alts 16 (.sq [17] .done) .stop) (.alts 16 (.alts 14 (.sq [17] .done) .stop) .stop)) .stop)) (.alts 15 (.alts 13 (.alts 14 (.alts 16 (.sq [17] .done) .stop) (.alts 16 (.alts 14 (.sq [17] .done) .stop) .stop)) (.alts 16 (.alts 13 (.alts 14 (.sq [17] .done) .stop) .stop) .stop)) .stop))) [.blk xB (.cells [.int .u64 hl.n,.int .i64 hl.kind,.bool hl.mixed].toArray 91),.blk oB (.cells #[.pointer (some ⟨p.wB,0,none⟩)] 62),.blk p.wB (.cells (za4 p s1).toArray 68)] zaa mixed (by kernel_rfl) rfl (fun q=>WOk (zcs s1 ⟨4,IntKind.i64.wrap (cl*p.c),1,hl.n⟩) ⟨g.es,g.ck,q.1,q.2⟩)
       (fun _=>[(12,.int .i64 cl),(13,.pointer (some ⟨xB,0,none⟩)),(109,.pointer (some ⟨rB,0,none⟩)),(11,.func (.func 102) #[] #[.pointer (some ⟨oB,0,none⟩)]),(1,.pointer (some ⟨oB,0,none⟩)),(2,.pointer (some ⟨mB,0,none⟩))])
       (fun q=>.blk xB (.cells [.int .u64 hl.n,.int .i64 hl.kind,.bool hl.mixed].toArray 91)::.blk rB (.mapIter (some p.hB) g.ck seen' g.ck)::CM oB mB vB p (zcs s1 ⟨4,IntKind.i64.wrap (cl*p.c),1,hl.n⟩) ⟨g.es,g.ck,q.1,q.2⟩ ds es ck) SubM.sl ?_ ?_
      ·refine gGw ?_
       refine⟨?_,?_⟩
       ·skip
        refine zaC zaE za9 0 zbE (by repeat constructor) hg1.f ⟨4,IntKind.i64.wrap (cl*p.c),1,hl.n⟩ ?_
        refine gGt ?_
        refine⟨?_,?_⟩
        ·skip
         refine gGt ?_
         refine zaL zaE za9 0 zbE (by repeat constructor) hg1.f ⟨4,IntKind.i64.wrap (cl*p.c),1,hl.n⟩ (fun es1 ck1 j st hM1 hj hs=>⟨_,(by repeat constructor),?_⟩)
         refine gGt ?_
         refine gGt ?_
         refine zak (j:=j) (s:=st) (x:=⟨4,IntKind.i64.wrap (cl*p.c),1,hl.n⟩) (by repeat constructor) hM1 hj hs (IntKind.i64.wrap ((mget s1.finds ⟨4,IntKind.i64.wrap (cl*p.c),1,hl.n⟩).getD 0+1)) (fun es2 ck2 hM2=>⟨_,(by repeat constructor),?_⟩)
         refine gGt ?_
         rw [zax] at hM2
         exact⟨(es2,ck2),⟨hg1.h,hM2⟩,⟨rfl,rfl,rfl,rfl,rfl,rfl,trivial⟩,SubM.sl⟩
        conv=>whnf
        refine⟨?_,trivial⟩
        refine zaL zaE za9 0 zbE (by repeat constructor) hg1.f ⟨4,IntKind.i64.wrap (cl*p.c),1,hl.n⟩ (fun es1 ck1 j st hM1 hj hs=>⟨_,(by repeat constructor),?_⟩)
        refine gGt ?_
        refine⟨?_,?_⟩
        ·skip
         refine gGt ?_
         refine gGt ?_
         refine zak (j:=j) (s:=st) (x:=⟨4,IntKind.i64.wrap (cl*p.c),1,hl.n⟩) (by repeat constructor) hM1 hj hs (IntKind.i64.wrap ((mget s1.finds ⟨4,IntKind.i64.wrap (cl*p.c),1,hl.n⟩).getD 0+1)) (fun es2 ck2 hM2=>⟨_,(by repeat constructor),?_⟩)
         refine gGt ?_
         rw [zax] at hM2
         exact⟨(es2,ck2),⟨hg1.h,hM2⟩,⟨rfl,rfl,rfl,rfl,rfl,rfl,trivial⟩,SubM.sl⟩
        conv=>whnf
        refine⟨?_,trivial⟩
        refine gGt ?_
        refine gGt ?_
        refine zak (j:=j) (s:=st) (x:=⟨4,IntKind.i64.wrap (cl*p.c),1,hl.n⟩) (by repeat constructor) hM1 hj hs (IntKind.i64.wrap ((mget s1.finds ⟨4,IntKind.i64.wrap (cl*p.c),1,hl.n⟩).getD 0+1)) (fun es2 ck2 hM2=>⟨_,(by repeat constructor),?_⟩)
        refine gGt ?_
        rw [zax] at hM2
        exact⟨(es2,ck2),⟨hg1.h,hM2⟩,⟨rfl,rfl,rfl,rfl,rfl,rfl,trivial⟩,SubM.sl⟩
       conv=>whnf
       refine⟨?_,trivial⟩
       refine zaL zaE za9 0 zbE (by repeat constructor) hg1.f ⟨4,IntKind.i64.wrap (cl*p.c),1,hl.n⟩ (fun es1 ck1 j st hM1 hj hs=>⟨_,(by repeat constructor),?_⟩)
       refine gGt ?_
       refine⟨?_,?_⟩
       ·skip
        refine zaC zaE za9 0 zbE (by repeat constructor) hM1 ⟨4,IntKind.i64.wrap (cl*p.c),1,hl.n⟩ ?_
        rw [zbx,if_pos rfl,Option.getD_some]
        refine gGt ?_
        refine⟨?_,?_⟩
        ·skip
         refine gGt ?_
         refine gGt ?_
         refine zak (j:=j) (s:=st) (x:=⟨4,IntKind.i64.wrap (cl*p.c),1,hl.n⟩) (by repeat constructor) hM1 hj hs (IntKind.i64.wrap ((mget s1.finds ⟨4,IntKind.i64.wrap (cl*p.c),1,hl.n⟩).getD 0+1)) (fun es2 ck2 hM2=>⟨_,(by repeat constructor),?_⟩)
         refine gGt ?_
         rw [zax] at hM2
         exact⟨(es2,ck2),⟨hg1.h,hM2⟩,⟨rfl,rfl,rfl,rfl,rfl,rfl,trivial⟩,SubM.sl⟩
        conv=>whnf
        refine⟨?_,trivial⟩
        refine gGt ?_
        refine gGt ?_
        refine zak (j:=j) (s:=st) (x:=⟨4,IntKind.i64.wrap (cl*p.c),1,hl.n⟩) (by repeat constructor) hM1 hj hs (IntKind.i64.wrap ((mget s1.finds ⟨4,IntKind.i64.wrap (cl*p.c),1,hl.n⟩).getD 0+1)) (fun es2 ck2 hM2=>⟨_,(by repeat constructor),?_⟩)
        refine gGt ?_
        rw [zax] at hM2
        exact⟨(es2,ck2),⟨hg1.h,hM2⟩,⟨rfl,rfl,rfl,rfl,rfl,rfl,trivial⟩,SubM.sl⟩
       conv=>whnf
       refine⟨?_,trivial⟩
       refine gGt ?_
       refine zaC zaE za9 0 zbE (by repeat constructor) hM1 ⟨4,IntKind.i64.wrap (cl*p.c),1,hl.n⟩ ?_
       rw [zbx,if_pos rfl,Option.getD_some]
       refine gGt ?_
       refine gGt ?_
       refine zak (j:=j) (s:=st) (x:=⟨4,IntKind.i64.wrap (cl*p.c),1,hl.n⟩) (by repeat constructor) hM1 hj hs (IntKind.i64.wrap ((mget s1.finds ⟨4,IntKind.i64.wrap (cl*p.c),1,hl.n⟩).getD 0+1)) (fun es2 ck2 hM2=>⟨_,(by repeat constructor),?_⟩)
       refine gGt ?_
       rw [zax] at hM2
       exact⟨(es2,ck2),⟨hg1.h,hM2⟩,⟨rfl,rfl,rfl,rfl,rfl,rfl,trivial⟩,SubM.sl⟩
      ·rintro ⟨fs2,fk2⟩ hg2
       simp only at hg2 ⊢
       refine gGw ?_
       refine zaC zcZ zhb 0 zqG (by repeat constructor) hM cl ?_
       refine gGw ?_
       refine⟨zdW,zac (m1:=OM oB p (zcs s1 ⟨4,IntKind.i64.wrap (cl*p.c),1,hl.n⟩) ⟨g.es,g.ck,fs2,fk2⟩) (by repeat constructor) (fun w' hm'=>zit oB p _ _ cl hl.n ((mget (zbh p) cl).getD 0) w' hg2 hm'.part) ?_⟩
       rintro e m' ⟨rfl,⟨e3,c3,f3,k3⟩,hg3,h3e,h3c,rfl⟩
       simp only at h3e h3c
       subst h3e h3c
       rw [e2] at hg3 ⊢
       refine gGw ?_
       exact⟨(zez p (zbh p) s1 (cl,hl),(f3,k3),seen',rem.eraseIdx j),⟨ze6 hsc _,hg3,hit',hset'⟩,hlt,⟨rfl,rfl,rfl,rfl,trivial⟩,SubM.sl⟩
     ·have hn1:¬ 1<hl.n:=hn1
      have hc:(hl.mixed||(decide (hl.kind=0)&&decide (1<hl.n)))=false:=by simp [*]
      have e2:oddF p s1 cl hl.n ((mget (zbh p) cl).getD 0)=zez p (zbh p) s1 (cl,hl):=by
       rw [zez];simp only [hc,Bool.false_eq_true,if_false]
      refine gGw ?_
      refine zaC zcZ zhb 0 zqG (by repeat constructor) hM cl ?_
      refine gGw ?_
      refine⟨zdW,zac (m1:=OM oB p s1 ⟨g.es,g.ck,fs,fk⟩) (by repeat constructor) (fun w' hm'=>zit oB p _ _ cl hl.n ((mget (zbh p) cl).getD 0) w' hg1 hm'.part) ?_⟩
      rintro e m' ⟨rfl,⟨e3,c3,f3,k3⟩,hg3,h3e,h3c,rfl⟩
      simp only at h3e h3c
      subst h3e h3c
      rw [e2] at hg3 ⊢
      refine gGw ?_
      exact⟨(zez p (zbh p) s1 (cl,hl),(f3,k3),seen',rem.eraseIdx j),⟨ze6 hsc _,hg3,hit',hset'⟩,hlt,⟨rfl,rfl,rfl,rfl,trivial⟩,SubM.sl⟩
    ·have hk0:¬ hl.kind=0:=hk0
     refine gGw ?_
     refine br_f rfl ?_
     have hc:(hl.mixed||(decide (hl.kind=0)&&decide (1<hl.n)))=false:=by simp [*]
     have e2:oddF p s1 cl hl.n ((mget (zbh p) cl).getD 0)=zez p (zbh p) s1 (cl,hl):=by
      rw [zez];simp only [hc,Bool.false_eq_true,if_false]
     refine gGw ?_
     refine zaC zcZ zhb 0 zqG (by repeat constructor) hM cl ?_
     refine gGw ?_
     refine⟨zdW,zac (m1:=OM oB p s1 ⟨g.es,g.ck,fs,fk⟩) (by repeat constructor) (fun w' hm'=>zit oB p _ _ cl hl.n ((mget (zbh p) cl).getD 0) w' hg1 hm'.part) ?_⟩
     rintro e m' ⟨rfl,⟨e3,c3,f3,k3⟩,hg3,h3e,h3c,rfl⟩
     simp only at h3e h3c
     subst h3e h3c
     rw [e2] at hg3 ⊢
     refine gGw ?_
     exact⟨(zez p (zbh p) s1 (cl,hl),(f3,k3),seen',rem.eraseIdx j),⟨ze6 hsc _,hg3,hit',hset'⟩,hlt,⟨rfl,rfl,rfl,rfl,trivial⟩,SubM.sl⟩
 ·rintro ex a2 w2 ⟨e2,m2,he2,hm2,hk⟩
  cases ex with
  | normal =>
   obtain ⟨s',g',hc,hg',hsub⟩:=hk
   have hm3:=hsub w2 hm2
   have hm4:MemOk w (Foot (WM p s g)) (MkM ds++WM p s' g') w2:=(hm3.sublist (m':=WM p s' g'++MkM ds) (.cons _ (.cons _ (.cons _ (List.Sublist.refl _))))).perm List.perm_append_comm
   show LeavesInM Fence.wide 0 Tryz.prog _ a2.tmps _ a2.defers .returning w2
   rw [he2.1]
   exact zma ds w2 hm4 (fun w' hm'=>⟨zcx (cx:=⟨Tryz.prog,174,w',Foot (WM p s g),tab,[],[],[],ds.map mkD⟩) (vs:=[]) he2 (MemOk.nil _ _) rfl,_,⟨rfl,s',g',hc,hg',rfl⟩,hm'⟩)
  | _=>exact hk.elim
end
/-! ## Finds in order -/
def ltFi (x y:Fi):Prop:=x.at_<y.at_∨(x.at_=y.at_∧x.kind<y.kind)
theorem ltFi.irr (x:Fi):¬ ltFi x x:=fun h=>h.elim (by omega) (by omega)
theorem ltFi.asymm {x y:Fi} (h:ltFi x y) (h':ltFi y x):False:=by unfold ltFi at h h';omega
theorem zrb {l l':List Fi} (h:l.Pairwise ltFi) (h':l'.Pairwise ltFi) (hm:∀ x,x∈l↔x∈l'):l=l':=by
 induction l generalizing l' with
 | nil =>
  cases l' with
  | nil=>rfl
  | cons y r=>exact absurd ((hm y).2 (List.mem_cons_self ..)) (by simp)
 | cons x r ih =>
  cases l' with
  | nil=>exact absurd ((hm x).1 (List.mem_cons_self ..)) (by simp)
  | cons y r' =>
   rw [List.pairwise_cons] at h h'
   have hxy:x=y:=by
    by_cases e:x=y
    ·exact e
    ·have h1:x∈r':=(List.mem_cons.1 ((hm x).1 (List.mem_cons_self ..))).resolve_left e
     have h2:y∈r:=(List.mem_cons.1 ((hm y).2 (List.mem_cons_self ..))).resolve_left fun h=>e h.symm
     exact ((h.1 y h2).asymm (h'.1 x h1)).elim
   subst hxy
   rw [ih h.2 h'.2 (fun z=>⟨fun hz=>(List.mem_cons.1 ((hm z).1 (List.mem_cons_of_mem _ hz))).resolve_left fun e=>ltFi.irr x (e ▸ h.1 z hz),fun hz=>(List.mem_cons.1 ((hm z).2 (List.mem_cons_of_mem _ hz))).resolve_left fun e=>ltFi.irr x (e ▸ h'.1 z hz)⟩)]
def Dist (p:Fi→Prop):Prop:=∀ x y,p x→p y→x.at_=y.at_→x.kind=y.kind→x=y
theorem zxG {l:List Fi} {p:Fi→Prop} (hp:∀ x∈l,p x) (hd:Dist p) (hn:l.Nodup) (h:l.Pairwise fun x y=>¬ ltFi y x):l.Pairwise ltFi:=by
 induction l with
 | nil=>exact List.Pairwise.nil
 | cons x r ih =>
  rw [List.pairwise_cons] at h
  rw [List.nodup_cons] at hn
  rw [List.pairwise_cons]
  refine⟨fun y hy=>?_,ih (fun y hy=>hp y (List.mem_cons_of_mem _ hy)) hn.2 h.2⟩
  have h1:=h.1 y hy
  have h2:x≠y:=fun e=>hn.1 (e ▸ hy)
  have h3:=hd x y (hp x (List.mem_cons_self ..)) (hp y (List.mem_cons_of_mem _ hy))
  unfold ltFi at h1 ⊢
  by_cases e1:x.at_=y.at_
  ·by_cases e2:x.kind=y.kind
   ·exact absurd (h3 e1 e2) h2
   ·omega
  ·omega
/-! ## Keys -/
theorem zgT {K V:Type} [DecidableEq K] {l:List (K × V)} (h:(keys l).Nodup) (k:K) (v:V):(keys (mset l k v)).Nodup:=by
 rw [zgn]
 split
 ·exact h
 ·rename_i hk
  rw [List.nodup_append]
  exact⟨h,by simp,fun a ha b hb=>by rw [List.mem_singleton] at hb;subst hb;exact fun e=>hk (e ▸ ha)⟩
theorem mem_mset {K V:Type} [DecidableEq K] {l:List (K × V)} {k:K} {v:V} {k':K}:k'∈keys (mset l k v)↔k'∈keys l∨k'=k:=by
 rw [zgn]
 split
 ·rename_i hk
  exact⟨.inl,fun h=>h.elim id fun e=>e ▸ hk⟩
 ·simp
theorem zhD {K V:Type} [DecidableEq K] {l:List (K × V)} (hn:(keys l).Nodup) {q:K × V} (h:q∈l):mget l q.1=some q.2:=by
 obtain ⟨j,hj,e⟩:=List.getElem_of_mem h
 exact znh hn (by rw [List.getElem?_eq_getElem hj,e])
def evOk:Ev→Prop
 | .hold cl _=>0≤cl∧cl≤40000
 | .find x=>x.kind≠4∧x.kind<6∧x.want=0∧x.have_=0
 | _=>True
theorem ziK {k a:Int} (h:k≠4∧k<6):evOk (.find ⟨k,a,0,0⟩):=⟨h.1,h.2,rfl,rfl⟩
structure SOk (s:WS):Prop where
 hn:(keys s.holders).Nodup
 hb:∀ k∈keys s.holders,0≤k∧k≤40000
 fn:(keys s.finds).Nodup
 fb:∀ x∈keys s.finds,x.kind≠4∧x.kind<6∧x.want=0∧x.have_=0
def s0W:WS:=⟨[],[],0,0,0⟩
theorem SOk.zero:SOk s0W:=⟨List.nodup_nil,(fun k h=>by cases h),List.nodup_nil,(fun k h=>by cases h)⟩
theorem SOk.app {s:WS} (h:SOk s) {e:Ev} (he:evOk e):SOk (appS s e):=by
 cases e with
 | hold cl k =>
  refine⟨zgT h.hn _ _,fun k' hk=>?_,h.fn,h.fb⟩
  rcases mem_mset.1 hk with hk|rfl
  ·exact h.hb _ hk
  ·exact he
 | find x =>
  refine⟨h.hn,h.hb,zgT h.fn _ _,fun y hy=>?_⟩
  rcases mem_mset.1 hy with hy|rfl
  ·exact h.fb _ hy
  ·exact he
 | data=>exact⟨h.hn,h.hb,h.fn,h.fb⟩
 | packed=>exact⟨h.hn,h.hb,h.fn,h.fb⟩
 | zero=>exact⟨h.hn,h.hb,h.fn,h.fb⟩
theorem SOk.apps {l:List Ev}:∀ {s:WS},SOk s→(∀ e∈l,evOk e)→SOk (appL s l):=by
 induction l with
 | nil=>intro s h _;exact h
 | cons e r ih=>intro s h he;exact ih (h.app (he e (List.mem_cons_self ..))) fun e' h'=>he e' (List.mem_cons_of_mem _ h')
/-! ## What the walk meets -/
theorem zf9 {p:WP} (hp:p.Ok) {a l t k:Int}:∀ e∈tRun p a l t k,evOk e:=by
 intro e he
 unfold tRun at he
 split at he
 ·rename_i h
  obtain ⟨i,hi,he⟩:=mem_rng.1 he
  rw [List.mem_singleton] at he
  subst he
  have hn:=hp.n_le
  obtain ⟨h1,h2,h3,h4⟩:=withinF_iff.1 h
  have h5:0≤a.tdiv p.c:=by rw [Int.tdiv_eq_ediv_of_nonneg (by omega)];exact Int.ediv_nonneg (by omega) (by have:=hp.c0;omega)
  unfold upC at hi
  show 0≤a.tdiv p.c+(i:Int)∧a.tdiv p.c+(i:Int)≤40000
  omega
 ·rw [List.mem_singleton] at he
  subst he
  exact ziK (by decide)
theorem zru {n:Nat} {f:Nat→List Ev} (h:∀ i,∀ e∈f i,evOk e):∀ e∈rng n f,evOk e:=by
 intro e he
 obtain ⟨i,_,he⟩:=mem_rng.1 he
 exact h i e he
theorem zfG {l k:List Ev} (h1:∀ e∈l,evOk e) (h2:∀ e∈k,evOk e):∀ e∈l++k,evOk e:=fun e he=>(List.mem_append.1 he).elim (h1 e) (h2 e)
theorem zdx:∀ e∈([]:List Ev),evOk e:=fun e he=>by cases he
theorem zcP {b:Prop} [Decidable b] {l k:List Ev} (h1:∀ e∈l,evOk e) (h2:∀ e∈k,evOk e):∀ e∈(if b then l else k),evOk e:=by
 split
 ·exact h1
 ·exact h2
theorem zq2 {U:List UInt8→Int→Bool} {p:WP} (hp:p.Ok) {a:Int} {x:En}:∀ e∈zcu U p a x,evOk e:=by
 unfold zcu
 refine zcP (zfG (zf9 hp) (zcP ?_ zdx)) (zcP (zfG (zf9 hp) (zcP ?_ zdx)) (zcP ?_ zdx))
 ·intro e he;rw [List.mem_singleton] at he;subst he;exact trivial
 ·intro e he
  rcases List.mem_cons.1 he with rfl|he
  ·exact trivial
  ·split at he
   ·rw [List.mem_singleton] at he;subst he;exact ziK (by decide)
   ·cases he
 ·intro e he;rw [List.mem_singleton] at he;subst he;exact trivial
theorem zn2 {U:List UInt8→Int→Bool} {p:WP} (hp:p.Ok) {l1 long st:Int}:∀ e∈zby U p l1 long st,evOk e:=by
 unfold zby
 refine zcP zdx (zfG (zf9 hp) (zcP (zru fun i=>?_) zdx))
 unfold tL1
 refine zcP zdx (zfG (zf9 hp) (zcP (zru fun k=>?_) zdx))
 unfold tEnt
 refine zcP (zq2 hp) ?_
 intro e he;rw [List.mem_singleton] at he;subst he;exact ziK (by decide)
theorem zph {p:WP} (hp:p.Ok):∀ e∈zbk p,evOk e:=by
 unfold zbk
 refine zfG (zf9 hp) (zcP (zru fun i=>?_) zdx)
 unfold zbo
 exact zcP zdx (zf9 hp)
theorem zsh {α:Type} {l:List α} {f:α→List Ev} (h:∀ x,∀ e∈f x,evOk e):∀ e∈l.flatMap f,evOk e:=by
 intro e he
 obtain ⟨x,_,he⟩:=List.mem_flatMap.1 he
 exact h x e he
theorem zqZ {U:List UInt8→Int→Bool} {S:Int→List UInt8→Int→Option (List Snp)} {p:WP} (hp:p.Ok):∀ e∈zbA U S p,evOk e:=by
 unfold zbA
 refine zcP zdx (zfG (zf9 hp) (zcP ?_ zdx))
 split
 ·intro e he;rw [List.mem_singleton] at he;subst he;exact ziK (by decide)
 ·intro e he;exact zsh (fun x=>zn2 hp) e (List.mem_filter.1 he).1
theorem zt4 {R:Int→List UInt8→Int→Option (List Rwp)} {p:WP} (hp:p.Ok):∀ e∈zdQ R p,evOk e:=by
 unfold zdQ
 refine zcP zdx (zfG (zf9 hp) (zcP ?_ zdx))
 split
 ·intro e he;rw [List.mem_singleton] at he;subst he;exact ziK (by decide)
 ·exact zsh fun x=>zcP (zf9 hp) zdx
theorem zn1 {U:List UInt8→Int→Bool} {S:Int→List UInt8→Int→Option (List Snp)} {R:Int→List UInt8→Int→Option (List Rwp)} {p:WP} (hp:p.Ok):∀ e∈zfn U S R p,evOk e:=by
 intro e he
 rcases List.mem_cons.1 he with rfl|he
 ·exact⟨by decide,by decide⟩
 ·exact zfG (zph hp) (zfG (zn2 hp) (zfG (zqZ hp) (zt4 hp))) e he
/-! ## The counts -/
theorem zoL (bs:List UInt8) (order base:Int) {l:List (Int × Int)} (hn:(keys l).Nodup) {M:Int} (hb:∀ k∈keys l,0≤k∧k≤M):∀ n:Nat,0≤base→base+n≤M→(keys (zeW bs order base l n)).Nodup∧∀ k∈keys (zeW bs order base l n),0≤k∧k≤M
 | 0,_,_=>⟨hn,hb⟩
 | n+1,h0,h1=>by
  have ih:=zoL bs order base hn hb n h0 (by omega)
  rw [zeW]
  split
  ·exact ih
  ·refine⟨zgT ih.1 _ _,fun k hk=>?_⟩
   rcases mem_mset.1 hk with hk|rfl
   ·exact ih.2 k hk
   ·omega
theorem zuQ {p:WP} (hp:p.Ok) (ho:0≤p.h.order∧p.h.order≤6):0≤zcO p∧zcO p≤524288:=by
 have hc0:=hp.c0
 have hc1:=hp.c1
 unfold zcO
 have h1:0≤8*p.c/zaG p.h.order:=Int.ediv_nonneg (by omega) (by rcases zcd p.h.order with h|h|h|h|h|h|h|h<;>rw [h]<;>decide)
 have h2:=Int.ediv_le_self (zaG p.h.order) (show 0≤8*p.c by omega)
 omega
theorem zu1 {p:WP} (hp:p.Ok) (ho:0≤p.h.order∧p.h.order≤6) (n:Nat) (hn:(n:Int)≤5000000):(keys (zdp p n)).Nodup∧∀ k∈keys (zdp p n),0≤k∧k≤4398046511104:=by
 have hm:=zuQ hp ho
 induction n with
 | zero=>exact⟨List.nodup_nil,fun k h=>by cases h⟩
 | succ n ih =>
  have ih:=ih (by omega)
  have h1:0≤(n:Int)*zcO p:=Int.mul_nonneg (by omega) hm.1
  have h3:(n:Int)*zcO p≤(n:Int)*524288:=Int.mul_le_mul_of_nonneg_left hm.2 (by omega)
  have h4:(n:Int)*zcO p+((zcO p).toNat:Int)≤4398046511104:=by omega
  rw [zdp]
  split
  ·exact ih
  ·split
   ·exact zoL _ _ _ ih.1 ih.2 _ h1 h4
   ·exact ih
theorem zu2 {p:WP} (hp:p.Ok) (ho:0≤p.h.order∧p.h.order≤6):(keys (zbh p)).Nodup∧∀ k∈keys (zbh p),0≤k∧k≤4398046511104:=by
 unfold zbh
 split
 ·rename_i h
  have:=zaF hp h
  have hlen:=hp.len
  exact zu1 hp ho _ (by omega)
 ·exact⟨List.nodup_nil,fun k h=>by cases h⟩
/-! ## Each find by its place and kind -/
def nOf (s:WS) (cl:Int):Int:=match mget s.holders cl with
 | some x=>x.n
 | none=>0
def hOf (p:WP) (cl:Int):Int:=(mget (zbh p) cl).getD 0
theorem zmC {p:WP} (hp:p.Ok) {cl:Int} (h:0≤cl∧cl≤4398046511104):IntKind.i64.wrap (cl*p.c)=cl*p.c:=by
 have hc0:=hp.c0
 have hc1:=hp.c1
 have h1:0≤cl*p.c:=Int.mul_nonneg (by omega) (by omega)
 have h2:cl*p.c≤4398046511104*p.c:=Int.mul_le_mul_of_nonneg_right h.2 (by omega)
 exact IntWalk.i64_in _ (by omega)
def FiIs (p:WP) (s:WS) (x:Fi):Prop :=
 (x∈keys s.finds)∨(x.kind=4∧∃ cl,0≤cl∧x.at_=cl*p.c∧x.want=1∧x.have_=nOf s cl)∨((x.kind=6∨x.kind=7)∧∃ cl,0≤cl∧x.at_=cl*p.c∧x.want=nOf s cl∧x.have_=hOf p cl)
theorem zrN {p:WP} {cl want is:Int} {x:Fi} (h:oddX p cl want is x):(x.kind=6∨x.kind=7)∧x.at_=IntKind.i64.wrap (cl*p.c)∧x.want=want∧x.have_=is:=by
 rcases h with ⟨_,rfl⟩|⟨_,rfl⟩
 ·exact⟨.inl rfl,rfl,rfl,rfl⟩
 ·exact⟨.inr rfl,rfl,rfl,rfl⟩
theorem zye {p:WP} {s s':WS} (hp:p.Ok) (ho:0≤p.h.order∧p.h.order≤6) (hs:SOk s) (h:CmpR p s s') {x:Fi} (hx:x∈keys s'.finds):FiIs p s x:=by
 obtain ⟨hvn,hvb⟩:=zu2 hp ho
 rcases (h.2 x).1 hx with (hx|⟨q,hq,hx⟩)|⟨q,hq,hx⟩
 ·exact .inl hx
 ·have hk:q.1∈keys s.holders:=List.mem_map.2 ⟨q,hq,rfl⟩
  have hb:=hs.hb _ hk
  have hg:=zhD hs.hn hq
  have hn:nOf s q.1=q.2.n:=by unfold nOf;rw [hg]
  rcases hx with ⟨_,rfl⟩|hx
  ·exact .inr (.inl ⟨rfl,q.1,hb.1,zmC hp (by omega),rfl,hn.symm⟩)
  ·obtain ⟨h1,h2,h3,h4⟩:=zrN hx
   exact .inr (.inr ⟨h1,q.1,hb.1,by rw [h2,zmC hp (by omega)],by rw [h3,hn],h4⟩)
 ·have hk:q.1∈keys (zbh p):=List.mem_map.2 ⟨q,hq,rfl⟩
  have hb:=hvb _ hk
  have hg:=zhD hvn hq
  obtain ⟨hno,hx⟩:=hx
  have hn:nOf s q.1=0:=by
   unfold nOf
   cases hm:mget s.holders q.1 with
   | none=>rfl
   | some y=>rw [hm] at hno;cases hno
  obtain ⟨h1,h2,h3,h4⟩:=zrN hx
  exact .inr (.inr ⟨h1,q.1,hb.1,by rw [h2,zmC hp hb],by rw [h3,hn],by rw [h4];unfold hOf;rw [hg];rfl⟩)
theorem zvQ {p:WP} (hp:p.Ok) {a b:Int} (h:a*p.c=b*p.c):a=b:=Int.eq_of_mul_eq_mul_right (by have:=hp.c0;omega) h
theorem Fi.ext' {x y:Fi} (h1:x.kind=y.kind) (h2:x.at_=y.at_) (h3:x.want=y.want) (h4:x.have_=y.have_):x=y:=by
 cases x;cases y;simp_all
theorem zw8 {p:WP} {s:WS} (hp:p.Ok) (hs:SOk s):Dist (FiIs p s):=by
 intro x y hx hy ha hk
 rcases hx with hx|⟨k1,cl,_,a1,w1,n1⟩|⟨k1,cl,_,a1,w1,n1⟩<;>rcases hy with hy|⟨k2,cl',_,a2,w2,n2⟩|⟨k2,cl',_,a2,w2,n2⟩
 ·have h1:=hs.fb _ hx
  have h2:=hs.fb _ hy
  exact Fi.ext' hk ha (by omega) (by omega)
 ·have h1:=hs.fb _ hx;omega
 ·have h1:=hs.fb _ hx;omega
 ·have h1:=hs.fb _ hy;omega
 ·have e:=zvQ hp (a1.symm.trans (ha.trans a2))
  subst e
  exact Fi.ext' hk ha (by omega) (by omega)
 ·omega
 ·have h1:=hs.fb _ hy;omega
 ·omega
 ·have e:=zvQ hp (a1.symm.trans (ha.trans a2))
  subst e
  exact Fi.ext' hk ha (by omega) (by omega)
/-! ## What is told -/
structure Rep where
 broken:Bool
 clusters:Int
 held:Int
 data:Int
 packed:Int
 zero:Int
 finds:List Fi
def zhn (ev:List Ev) (p:WP) (r:Rep):Prop:=∃ s',CmpR p (appL s0W ev) s'∧(keys s'.finds).Nodup∧r.finds.Perm (keys s'.finds)∧r.finds.Pairwise (fun x y=>¬ ltFi y x)∧r.broken=(r.finds.any fun x=>!decide (x.kind=7)) ∧
 r.clusters=p.n∧r.held=((appL s0W ev).holders.length:Int)∧r.data=(appL s0W ev).data∧r.packed=(appL s0W ev).packed∧r.zero=(appL s0W ev).zero
theorem zjx {ev:List Ev} {p:WP} {r:Rep} (hp:p.Ok) (ho:0≤p.h.order∧p.h.order≤6) (he:∀ e∈ev,evOk e) (h:zhn ev p r):r.finds.Pairwise ltFi:=by
 obtain ⟨s',h1,h2,h3,h4,_⟩:=h
 have hs:=SOk.zero.apps he
 exact zxG (p:=FiIs p (appL s0W ev)) (fun x hx=>zye hp ho hs h1 (h3.mem_iff.1 hx)) (zw8 hp hs) (h3.nodup_iff.2 h2) h4
theorem zwH {ev:List Ev} {p p':WP} {r r':Rep} (hp:p.Ok) (hp':p'.Ok) (ho:0≤p.h.order∧p.h.order≤6) (hh:p'.h=p.h) (hc:p'.c=p.c) (hn:p'.n=p.n) (he:∀ e∈ev,evOk e) (h:zhn ev p r) (h':zhn ev p' r') :
  (r'.finds.filter fun x=>decide (x.kind<6))=(r.finds.filter fun x=>decide (x.kind<6))∧r'.held=r.held∧r'.clusters=r.clusters:=by
 have e1:=zjx hp ho he h
 have e2:=zjx hp' (by rw [hh];exact ho) he h'
 obtain ⟨s1,a1,a2,a3,a4,a5,a6,a7,a8,a9,a10⟩:=h
 obtain ⟨s2,b1,b2,b3,b4,b5,b6,b7,b8,b9,b10⟩:=h'
 refine⟨zrb (e2.filter _) (e1.filter _) fun x=>?_,by rw [a7,b7],by rw [a6,b6,hn]⟩
 rw [List.mem_filter,List.mem_filter,b3.mem_iff,a3.mem_iff,a1.2 x,b1.2 x]
 refine and_congr_left fun hk=>?_
 rw [decide_eq_true_eq] at hk
 have hno:∀ (p:WP) (a b c:Int),¬ oddX p a b c x:=fun p a b c h=>by have:=(zrN h).1;omega
 have hv:∀ (p:WP),¬ ∃ q∈zbh p,hvX p (appL s0W ev).holders q x:=fun p ⟨q,_,h⟩=>hno _ _ _ _ h.2
 simp only [hv,or_false]
 refine or_congr_right ?_
 constructor
 ·rintro ⟨q,hq,h|h⟩
  ·refine⟨q,hq,.inl ?_⟩
   unfold twX at h ⊢
   rw [← hc];exact h
  ·exact absurd h (hno _ _ _ _)
 ·rintro ⟨q,hq,h|h⟩
  ·refine⟨q,hq,.inl ?_⟩
   unfold twX at h ⊢
   rw [hc];exact h
  ·exact absurd h (hno _ _ _ _)
/-! ## Holders, as a list -/
def Ev.held:Ev→Option (Int × Int)
 | .hold cl k=>some (cl,k+1)
 | _=>none
def zbv (ev:List Ev):List (Int × Int):=ev.filterMap Ev.held
def zbe (k:Int) (st:Nat × Int) (q:Int × Int):Nat × Int:=if q.1=k then (st.1+1,if st.1=0 then q.2 else if st.2=q.2 then st.2 else 0) else st
def howF (hs:List (Int × Int)) (k:Int):Int:=(hs.foldl (zbe k) (0,0)).2
/-! ## Blocks -/
/-! ## One block -/
def cntE (cl:Int) (ev:List Ev):Nat:=ev.countP fun e=>match e with
 | .hold c _=>decide (c=cl)
 | _=>false
theorem zfl (cl:Int) (l k:List Ev):cntE cl (l++k)=cntE cl l+cntE cl k:=List.countP_append ..
theorem zoX {cl k:Int} {l:List Ev} (h:Ev.hold cl k∈l):0<cntE cl l:=List.countP_pos_iff.2 ⟨_,h,by simp⟩
theorem zvi {cl k:Int} {l:List Ev} (h:cntE cl l=0):Ev.hold cl k ∉ l:=fun hx=>by have:=zoX hx;omega
theorem zrQ (cl:Int):∀ (l:List Ev) (s:WS),nOf (appL s l) cl%18446744073709551616=(nOf s cl+cntE cl l)%18446744073709551616
 | [],s=>by simp [appL,cntE]
 | e::r,s=>by
  have ih:=zrQ cl r (appS s e)
  show nOf (appL (appS s e) r) cl%_=_
  rw [ih]
  have hc:cntE cl (e::r)=cntE cl [e]+cntE cl r:=zfl cl [e] r
  rw [hc]
  have h1:nOf (appS s e) cl%18446744073709551616=(nOf s cl+cntE cl [e])%18446744073709551616:=by
   cases e with
   | hold c k =>
    show nOf (zkP s c k) cl%_=_
    unfold nOf zkP
    simp only
    rw [zbx]
    by_cases h:cl=c
    ·subst h
     rw [if_pos rfl]
     have:cntE cl [Ev.hold cl k]=1:=by simp [cntE]
     rw [this]
     unfold zmk
     simp only [IntKind.wrap_u64]
     cases mget s.holders cl with
     | none=>simp
     | some y=>simp only [Option.getD_some];omega
    ·rw [if_neg (fun e=>h e.symm)]
     have:cntE cl [Ev.hold c k]=0:=by simp [cntE];exact fun h2=>h h2.symm
     rw [this];simp
   | find x=>simp [cntE,appS];rfl
   | data=>simp [cntE,appS];rfl
   | packed=>simp [cntE,appS];rfl
   | zero=>simp [cntE,appS];rfl
  omega
theorem zqm {U:List UInt8→Int→Bool} {S:Int→List UInt8→Int→Option (List Snp)} {R:Int→List UInt8→Int→Option (List Rwp)} {p p':WP} (hp:p.Ok) (hcb:p.c=clus p.h.bits) {c0:Int} (hc0:1≤c0∧c0<p.n)
  (hone:cntE c0 (zfn U S R p)=1) (hin:zau p p.h.counts (p.h.countsLen*p.c)=true) (hblk:∃ i:Nat,i<(p.h.countsLen*p.c/8).toNat∧zaz p (p.h.counts+8*i)=c0*p.c)
  (ha:zfZ p p' fun cl=>cl=c0):zfn U S R p'=zfn U S R p:=by
 have hcc:=hp.c0
 have hcc1:=hp.c1
 obtain ⟨i,hi,hw⟩:=hblk
 have hn:=hp.n_le
 have hpos:0<c0*p.c:=Int.mul_pos (by omega) (by omega)
 have hle:c0*p.c≤39063*p.c:=Int.mul_le_mul_of_nonneg_right (by omega) (by omega)
 have hpl:zaY (c0*p.c)=c0*p.c:=if_neg (by omega)
 have hwi:zau p (c0*p.c) p.c=true:=by
  rw [withinF_iff]
  have e1:(c0*p.c).tdiv p.c=c0:=by rw [Int.tdiv_eq_ediv_of_nonneg (by omega)];exact Int.mul_ediv_cancel _ (by omega)
  have e2:(p.c+p.c-1).tdiv p.c=1:=by
   rw [Int.tdiv_eq_ediv_of_nonneg (by omega)]
   have:p.c+p.c-1=(p.c-1)+p.c*1:=by omega
   rw [this,Int.add_mul_ediv_left _ _ (by omega),Int.ediv_eq_zero_of_lt (by omega) (by omega)];rfl
  refine⟨hpos,?_,by omega,by rw [e1,e2];omega⟩
  rw [Int.tmod_eq_emod_of_nonneg (by omega)];exact Int.mul_emod_left ..
 have hmem:Ev.hold c0 0∈rng (p.h.countsLen*p.c/8).toNat fun i=>zbo p (p.h.counts+8*i):=by
  refine mem_rng.2 ⟨i,hi,?_⟩
  unfold zbo
  rw [hw,if_neg (by omega),hpl]
  have:=zlL hp (k:=0) (t:=p.h.counts+8*i) hwi (i:=c0*p.c) (by omega)
  rwa [Int.mul_ediv_cancel _ (by omega)] at this
 have hcnt:=zoX hmem
 have hz:cntE c0 (zt6 U S R p)=0:=by
  unfold zfn zbk at hone
  rw [if_pos hin] at hone
  have h1:∀ (e:Ev) (l:List Ev),cntE c0 (e::l)=cntE c0 [e]+cntE c0 l:=fun e l=>zfl c0 [e] l
  rw [h1,zfl,zfl] at hone
  unfold zt6
  rw [zfl]
  omega
 exact zqy hp hcb ha fun cl k hx hk hD=>by subst hD;exact zvi hz hx
end Go.Proofs.YtlmgelmloddfgaaGreat
namespace Go.Proofs.YtlmgelmloddfgaaGreat.Eng
open Go Go.RowKit
section
variable {cx:Cx}
theorem zm2 {m m':Mem} {A:Option Addr} {cap n t' size off:Nat} {xs vs:List Value} {w:World} (hm:MemOk cx.w0 cx.S m w) (hu:Out m (.row A cap n t' size xs) m') (hpos:0<vs.length) (hfit:off+vs.length≤n*size) :
  ∃ b cur,A=some ⟨b,0,none⟩∧w.heap[b]?=some (.cells cur t' (0,0))∧off+vs.length≤cur.size∧MemOk cx.w0 cx.S (.row A cap n t' size (zbp off vs xs)::m') (w.setRow b (zbp off vs cur.toList).toArray):=by
 have hm1:=hm.perm hu.perm
 have hown:w.ownsRow 0 t' size (.slice A n cap) n xs:=hm1.ok _ (List.mem_cons_self ..)
 have hlen:=hown.1
 rcases hown.2 with ⟨_,h0⟩|⟨b,cap',cur,hv,_,hb,hc,hmax,hsz,hcur⟩
 ·subst h0;simp at hlen;omega
 ·injection hv with e1 _ e3
  subst e1 e3
  have hcap:n*size≤cap*size:=Nat.mul_le_mul_right _ hc
  have hxs':(zbp off vs cur.toList).take (n*size)=zbp off vs xs:=by
   rw [← hcur,zaN _ _ _ (by simp;omega),zaN _ _ _ (by simp;omega)]
   rw [List.append_assoc,List.append_assoc,List.take_append,List.take_take,List.length_take,Array.length_toList,List.take_append,List.drop_take,List.take_take]
   rw [show min (n*size) off=off by omega,show min off (n*size)=off by omega,show min off cur.size=off by omega]
   rw [List.take_of_length_le (l:=vs) (by omega),show n*size-off-vs.length=n*size-(off+vs.length) by omega]
  have hlen':(zbp off vs cur.toList).length=cur.size:=by
   rw [zaN _ _ _ (by simp;omega)]
   simp;omega
  refine⟨b,cur,rfl,hb,by omega,?_⟩
  have hf:=Fr.setRow w b (zbp off vs cur.toList).toArray
  have hown1:=hm1.own _ (List.mem_cons_self ..) b rfl
  refine (hm1.tail.step hf (fun k hkk hT=>?_) (fun r hr k hkk hT=>?_)).cons ?_ (fun k hkk=>?_) (fun k hkk s hs=>?_)
  ·subst hT;exact hown1.elim (fun hb=>absurd hkk (by omega)) id
  ·subst hT;exact (List.pairwise_cons.1 hm1.apart).1 r hr k rfl hkk
  ·refine⟨?_,.inr ⟨b,cap,_,rfl,Nat.zero_le _,zh4 hb,hc,hmax,by simp [hlen',hsz],by simpa using hxs'⟩⟩
   rw [← hxs',List.length_take,hlen']
   omega
  ·cases hkk;exact hown1
  ·cases hkk;exact (List.pairwise_cons.1 hm1.apart).1 s hs b rfl
theorem zhB {m m':Mem} {dT sT e ty:Nat} {i ti:TyI} {A D:Option Addr} {cap n off dLen dCap sCap:Nat} {xs:List Value} {p:Option Addr} {k:IntKind} {ys:List Int} {K:Value→Mem→Prop} (ht:TabOk cx.P cx.tab)
  (hi:cx.tab.get dT=some i) (hk:i.kind=.slice e) (hti:cx.tab.get e=some ti) (hs:ti.cells=1) (hu:Out m (.row A cap n e 1 xs) m') (hD:D=pl A off) (hy:∀ w,MemOk cx.w0 cx.S m w→IntsIn k w p ys)
  (hfit:off+Nat.min ys.length dLen≤n) (hK:K (.int .i64 (Nat.min ys.length dLen:Nat)) (.row A cap n e 1 (zbp off ((ys.take (Nat.min ys.length dLen)).map (.int k)) xs)::m')) :
  Rn cx m (Builtin.copy_ #[dT,sT] ty #[.slice D dLen dCap,.slice p ys.length sCap]) K:=by
 intro w hm
 obtain ⟨inf,z,g1,g2,g3,g4,g5⟩:=TyI.zeroOf (ht _ _ hti)
 have hu2:=TyI.sliceOf (ht _ _ hi) hk
 have hsz:(cx.P.info? e).map (·.size)=some 1:=by rw [g1];simp [g3,hs]
 by_cases h0:Nat.min ys.length dLen=0
 ·refine⟨_,w,_,run_copy_none (P:=cx.P) w dT sT ty e D p dLen dCap ys.length sCap hu2 hsz h0,hm.perm hu.perm,?_⟩
  rw [h0] at hK
  exact hK
 ·have hl:((ys.take (Nat.min ys.length dLen)).map (Value.int k)).length=Nat.min ys.length dLen:=by
   rw [List.length_map,List.length_take];exact Nat.min_eq_left (Nat.min_le_left _ _)
  have hpos:0<ys.length:=Nat.pos_of_ne_zero fun h=>h0 (by rw [h];exact Nat.zero_min _)
  obtain ⟨b,o,rfl,hc⟩:=hy w hm hpos
  obtain ⟨g,cur,rfl,hg,hcs,hm2⟩:=zm2 (off:=off) (vs:=(ys.take (Nat.min ys.length dLen)).map (.int k)) hm hu (by omega) (by omega)
  have hr:=run_copy_row cx.P w dT sT ty e g off dLen dCap ⟨b,o,none⟩ ys.length sCap cur e ((ys.take (Nat.min ys.length dLen)).map (.int k)) hu2 hsz hg hl (fun j v hj=>by
   rw [List.getElem?_map] at hj
   cases hys:(ys.take (Nat.min ys.length dLen))[j]? with
   | none=>rw [hys] at hj;cases hj
   | some y =>
    rw [hys] at hj
    injection hj with hj
    subst hj
    rw [List.getElem?_take] at hys
    split at hys
    ·have hjl:j<ys.length:=(List.getElem?_eq_some_iff.1 hys).1
     have:=hc j hjl
     rw [List.getD,hys] at this
     rw [Addr.add_lit]
     exact this
    ·cases hys) hcs (by
   intro v hv
   obtain ⟨x,_,rfl⟩:=List.mem_map.1 hv
   rfl)
  rw [zaN _ off cur.toList (by rw [Array.length_toList];exact hcs)] at hm2
  refine⟨.int .i64 (Nat.min ys.length dLen:Nat),_,_,?_,hm2,hK⟩
  rw [hD]
  simp only [pl,Option.map_some,Addr.add_lit,Nat.zero_add]
  rw [hr,hl]
  rfl
theorem zoe {m m':Mem} {dT sT e ty:Nat} {i ti:TyI} {A D:Option Addr} {cap n off dLen dCap:Nat} {xs:List Value} {s:ByteArray} {K:Value→Mem→Prop} (ht:TabOk cx.P cx.tab)
  (hi:cx.tab.get dT=some i) (hk:i.kind=.slice e) (hti:cx.tab.get e=some ti) (hs:ti.cells=1) (hu:Out m (.row A cap n e 1 xs) m') (hD:D=pl A off) (hle:s.size≤dLen)
  (hfit:off+s.size≤n) (hK:K (.int .i64 (s.size:Nat)) (.row A cap n e 1 (zbp off ((zag s.data.toList).map (.int .u8)) xs)::m')) :
  Rn cx m (Builtin.copy_ #[dT,sT] ty #[.slice D dLen dCap,.string s]) K:=by
 intro w hm
 obtain ⟨inf,z,g1,g2,g3,g4,g5⟩:=TyI.zeroOf (ht _ _ hti)
 have hu2:=TyI.sliceOf (ht _ _ hi) hk
 have hsz:(cx.P.info? e).map (·.size)=some 1:=by rw [g1];simp [g3,hs]
 have hl:((zag s.data.toList).map (Value.int .u8)).length=s.size:=by rw [List.length_map,zaf];rfl
 by_cases h0:s.size=0
 ·refine⟨_,w,_,Go.Lib.run_copy_empty_string (P:=cx.P) w dT sT ty e D dLen dCap s hu2 (by rw [hsz];rfl) h0,hm.perm hu.perm,?_⟩
  have hn:(zag s.data.toList).map (Value.int .u8)=[]:=List.length_eq_zero_iff.1 (hl.trans h0)
  rw [h0,hn] at hK
  exact hK
 ·obtain ⟨g,cur,rfl,hg,hcs,hm2⟩:=zm2 (off:=off) (vs:=(zag s.data.toList).map (.int .u8)) hm hu (by omega) (by omega)
  have hr:=Go.Lib.run_copy_row_string (P:=cx.P) w dT sT ty e g off dLen dCap s cur e hu2 hsz hg hle (by rw [← hl];exact hcs)
  rw [zaN _ off cur.toList (by rw [Array.length_toList];exact hcs),hl] at hm2
  refine⟨.int .i64 (s.size:Nat),_,_,?_,hm2,hK⟩
  rw [hD]
  simp only [pl,Option.map_some,Addr.add_lit,Nat.zero_add]
  have hb:Go.Lib.byteCells s.data.toList=(zag s.data.toList).map (Value.int .u8):=by
   unfold Go.Lib.byteCells zag;rw [List.map_map];rfl
  rw [hb] at hr
  exact hr
end
end Go.Proofs.YtlmgelmloddfgaaGreat.Eng
namespace Go.Proofs.YtlmgelmloddfgaaGreat.Eng
open Go Go.RowKit
section any
variable {P:Program} {ops:Array Oper} {md:Region.Mode} {C:World→Prop} {z:Nat} {Q:Exit→Act→World→Prop}
def AnyZ (P:Program) (md:Region.Mode) (ops:Array Oper) (C:World→Prop) (z:Nat) (Q:Exit→Act→World→Prop):Nat→Array Bool→Act→World→Prop
 | 0,listed,a,w=>Region.ready md ops listed=[]∧Q .normal a w
 | f+1,listed,a,w=>(Region.ready md ops listed=[]→Q .normal a w) ∧
  ∀ i∈Region.ready md ops listed,wpOp P ops Q i (fun a' w'=>(i≠z→C w')∧AnyZ P md ops C z Q f (listed.setIfInBounds i true) a' w') a w
theorem AnyZ.any:∀ (f:Nat) (listed:Array Bool) (a:Act) (w:World),AnyZ P md ops C z Q f listed a w→wpAny P md ops Q f listed a w
 | 0,_,_,_,h=>h
 | f+1,_,_,_,h=>⟨h.1,fun i hi=>wpOp_mono (fun a' w' h'=>AnyZ.any f _ a' w' h'.2) (h.2 i hi)⟩
theorem AnyZ.first (hb:zqC Q) {i:Nat} {oi:Oper} {v:Value} (hi:ops[i]?=some oi) (hsel:∀ (j:Nat) (o:Oper) cs b,ops[j]?=some o→o.op≠.select cs b) (hiz:∀ oz,ops[z]?=some oz→∃ e∈oz.after,Region.binds md e=true∧e.on=i) :
  ∀ (f:Nat) (listed:Array Bool) (a:Act) (w:World),C w →
   (∀ j oj,ops[j]?=some oj→j≠i→listed.getD j true=false→(∀ e∈oj.after,Region.binds md e=true→e.on≠i)→oi.apart ops oj=true) →
   i∈Region.ready md ops listed→Yst P ops C oi v a →
   AnyZ P md ops C z Q f (listed.setIfInBounds i true) (a.put oi.dst v) w→AnyZ P md ops C z Q (f+1) listed a w:=by
 intro f
 induction f with
 | zero =>
  intro listed a w hw _ hr hy H
  refine⟨fun h=>(by rw [h] at hr;cases hr),fun j hj=>?_⟩
  by_cases hji:j=i
  ·subst hji;exact zht hi hy hw ⟨fun _=>hw,H⟩
  ·have:=ready_mono hj hji
   rw [H.1] at this
   cases this
 | succ f ih =>
  intro listed a w hw hfree hr hy H
  have hun:=(mem_ready.1 hr).1
  refine⟨fun h=>(by rw [h] at hr;cases hr),fun j hj=>?_⟩
  by_cases hji:j=i
  ·subst hji;exact zht hi hy hw ⟨fun _=>hw,H⟩
  ·have h1:=H.2 j (ready_mono hj hji)
   have hjz:j≠z:=by
    rintro rfl
    obtain ⟨_,oz,hoz,hall⟩:=mem_ready.1 hj
    obtain ⟨e,he,hbd,heq⟩:=hiz oz hoz
    have h2:=hall e he hbd
    rw [heq,getD_both hun] at h2
    cases h2
   obtain ⟨hjun,oj,hoj,hall⟩:=mem_ready.1 hj
   have hnot:∀ e∈oj.after,Region.binds md e=true→e.on≠i:=fun e he hbd heq=>by
    have h2:=hall e he hbd
    rw [heq,getD_both hun] at h2
    cases h2
   have h2:=znT hoj (hfree j oj hoj hji hjun hnot) hb (fun cs b=>hsel i oi cs b hi) (fun cs b=>hsel j oj cs b hoj) hy h1
   refine wpOp_mono (fun a' w' ⟨h3,h4,h5⟩=>⟨h4,ih (listed.setIfInBounds j true) a' w' (h4 hjz) (fun k ok hk hki hunk hno=>?_) (ready_mono hr (Ne.symm hji)) h3 ?_⟩) h2
   ·refine hfree k ok hk hki ?_ hno
    by_cases hjk:j=k
    ·subst hjk;exact hjun
    ·rwa [getD_set_ne true hjk] at hunk
   ·rw [Array.setIfInBounds_comm _ _ hji]
    exact h5
def zdep (ops:Array Oper) (z i:Nat):Bool:=match ops[z]? with
 | none=>true
 | some o=>o.after.toList.any fun e=>Region.binds .any e&&Nat.beq e.on i
theorem zv0 {z i:Nat} (h:zdep ops z i=true):∀ oz,ops[z]?=some oz→∃ e∈oz.after,Region.binds .any e=true∧e.on=i:=by
 intro oz hoz
 unfold zdep at h
 rw [hoz] at h
 simp only [List.any_eq_true,Bool.and_eq_true] at h
 obtain ⟨e,he,hb,hn⟩:=h
 exact⟨e,by simpa using he,hb,Nat.eq_of_beq_eq_true hn⟩
def Tr.chkZ (ops:Array Oper) (z:Nat):Tr→Nat→Bool→Bool→Array Bool→Bool
 | .done,_,top,_,l=>top&&(Region.ready .any ops l).isEmpty
 | .stop,_,top,_,_=>!top
 | .hoist i t,f,top,zd,l=>!zd&&zdep ops z i&&top&&decide (0<f)&&(Region.ready .any ops l).contains i&&Region.free .any ops l i&&t.chkZ ops z (f-1) true zd (l.setIfInBounds i true)
 | .alts i t more,f,top,zd,l=>(!top||(Region.ready .any ops l).all fun j=>(i::more.heads).contains j)&&decide (0<f)&&(Region.ready .any ops l).contains i&&t.chkZ ops z (f-1) true (zd||Nat.beq i z) (l.setIfInBounds i true)&&more.chkZ ops z f false zd l
end any
section anyE
variable {cx:Cx}
def zsY (cx:Cx) (mC:Mem) (z:Nat) (ops:List Oper) (kp:List PanicEntry→Mem→Prop) (i:Nat) (ih more:Env→Mem→Prop):Env→Mem→Prop:=fun e m=>(match nth ops i with
 | some o=>match o.guard with
  | none=>XO cx o.dst o.op o.type e m (fun v m'=>match Nat.beq i z with
   | true=>ih (e.putD o.dst v) m'
   | false=>SubM cx m' mC∧ih (e.putD o.dst v) m') kp
  | some _=>False
 | none=>False)∧more e m
noncomputable def XTZ (cx:Cx) (mC:Mem) (z:Nat) (ops:List Oper) (k:Env→Mem→Prop) (kp:List PanicEntry→Mem→Prop) (t:Tr):Env→Mem→Prop :=
 Tr.rec (motive:=fun _=>Env→Mem→Prop) k (fun _ _=>True) (fun i _ ih=>zg4 cx mC ops i ih) (fun i _ _ ih more=>zsY cx mC z ops kp i ih more) t
theorem zyq (ht:TabOk cx.P cx.tab) {ops:Array Oper} {mC:Mem} {z:Nat} {k:Env→Mem→Prop} {kp:List PanicEntry→Mem→Prop} (hsel:Region.noSelect ops=true) (hds:zbD cx.n ops.toList=true):∀ (t:Tr) (f:Nat) (top zd:Bool) (listed:Array Bool) (e:Env) (m:Mem) (a:Act) (w:World),
  Tr.chkZ ops z t f top zd listed=true→EnvOk cx.n cx.df e a→MemOk cx.w0 cx.S m w→(zd=false→MemOk cx.w0 cx.S mC w)→XTZ cx mC z ops.toList k kp t e m →
  (top=true→AnyZ cx.P .any ops (MemOk cx.w0 cx.S mC) z (QT cx k kp) f listed a w) ∧
  (top=false→∀ i∈t.heads,0<f∧wpOp cx.P ops (QT cx k kp) i (fun a' w'=>(i≠z→MemOk cx.w0 cx.S mC w')∧AnyZ cx.P .any ops (MemOk cx.w0 cx.S mC) z (QT cx k kp) (f-1) (listed.setIfInBounds i true) a' w') a w):=by
 intro t
 induction t with
 | done =>
  intro f top zd listed e m a w hc he hm hmC h
  simp only [Tr.chkZ,Bool.and_eq_true,List.isEmpty_iff] at hc
  refine⟨fun _=>?_,fun h0=>absurd (hc.1.symm.trans h0) (by decide)⟩
  have hq:QT cx k kp .normal a w:=⟨e,m,he,hm,h⟩
  cases f with
  | zero=>exact⟨hc.2,hq⟩
  | succ f=>exact⟨fun _=>hq,fun i hi=>by rw [hc.2] at hi;cases hi⟩
 | stop =>
  intro f top zd listed e m a w hc he hm hmC h
  simp only [Tr.chkZ,Bool.not_eq_true'] at hc
  exact⟨fun h0=>absurd (h0.symm.trans hc) (by decide),fun _ i hi=>by cases hi⟩
 | hoist i t ih =>
  intro f top zd listed e m a w hc he hm hmC h
  simp only [Tr.chkZ,Bool.and_eq_true,decide_eq_true_eq] at hc
  obtain ⟨⟨⟨⟨⟨⟨hzd,hzp⟩,htop⟩,hf⟩,hr⟩,hfr⟩,hc⟩:=hc
  rw [Bool.not_eq_true'] at hzd
  refine⟨fun _=>?_,fun h0=>absurd (htop.symm.trans h0) (by decide)⟩
  change zg4 cx mC ops.toList i (XTZ cx mC z ops.toList k kp t) e m at h
  unfold zg4 at h
  split at h
  ·rename_i o ho
   have hi:ops[i]?=some o:=by rw [zco] at ho;simpa using ho
   split at h
   ·rename_i hg
    obtain ⟨v,hy,hk⟩:=zvU ht he h
    obtain ⟨f,rfl⟩:∃ f',f=f'+1:=⟨f-1,by omega⟩
    have hds':=zcT hds ho
    have:=(ih f true zd (listed.setIfInBounds i true) _ m (a.put o.dst v) w hc (he.put hds' v) hm hmC hk).1 rfl
    exact AnyZ.first QT.blind hi (Region.noSelect_spec hsel) (zv0 hzp) f listed a w (hmC hzd) (Region.free_spec hi hfr) (by simpa using hr) ⟨za1 hg,hy⟩ this
   ·exact h.elim
  ·exact h.elim
 | alts i t more ih ihm =>
  intro f top zd listed e m a w hc he hm hmC h
  simp only [Tr.chkZ,Bool.and_eq_true,decide_eq_true_eq] at hc
  obtain ⟨⟨⟨⟨hcov,hf⟩,hri⟩,hct⟩,hcm⟩:=hc
  change zsY cx mC z ops.toList kp i (XTZ cx mC z ops.toList k kp t) (XTZ cx mC z ops.toList k kp more) e m at h
  obtain ⟨h1,h2⟩:=h
  have hmore:=(ihm f false zd listed e m a w hcm he hm hmC h2).2 rfl
  have hhead:wpOp cx.P ops (QT cx k kp) i (fun a' w'=>(i≠z→MemOk cx.w0 cx.S mC w')∧AnyZ cx.P .any ops (MemOk cx.w0 cx.S mC) z (QT cx k kp) (f-1) (listed.setIfInBounds i true) a' w') a w:=by
   split at h1
   ·rename_i o ho
    have hi:ops[i]?=some o:=by rw [zco] at ho;simpa using ho
    have hds':=zcT hds ho
    split at h1
    ·rename_i hg
     unfold wpOp
     simp only [hi,za1 hg,if_true]
     refine .inl (zsZ ht he hm h1 (fun v m' w' hm' hk=>?_) (fun ch m' w' hm' hk=>⟨he.nil,m',hm',hk⟩))
     split at hk
     ·rename_i hb
      have hiz:=Nat.eq_of_beq_eq_true hb
      exact⟨fun hn=>absurd hiz hn,(ih (f-1) true _ (listed.setIfInBounds i true) _ m' (a.put o.dst v) w' hct (he.put hds' v) hm' (fun h0=>by rw [hb,Bool.or_true] at h0;cases h0) hk).1 rfl⟩
     ·rename_i hb
      have hmC':=hk.1 w' hm'
      exact⟨fun _=>hmC',(ih (f-1) true _ (listed.setIfInBounds i true) _ m' (a.put o.dst v) w' hct (he.put hds' v) hm' (fun _=>hmC') hk.2).1 rfl⟩
    ·exact h1.elim
   ·exact h1.elim
  have hall:∀ j∈(Tr.alts i t more).heads,0<f∧wpOp cx.P ops (QT cx k kp) j (fun a' w'=>(j≠z→MemOk cx.w0 cx.S mC w')∧AnyZ cx.P .any ops (MemOk cx.w0 cx.S mC) z (QT cx k kp) (f-1) (listed.setIfInBounds j true) a' w') a w:=by
   intro j hj
   rcases List.mem_cons.1 hj with rfl|hj
   ·exact⟨hf,hhead⟩
   ·exact hmore j hj
  refine⟨fun htop=>?_,fun _=>hall⟩
  subst htop
  simp only [Bool.not_true,Bool.false_or,List.all_eq_true,List.contains_iff_mem] at hcov
  obtain ⟨f,rfl⟩:∃ f',f=f'+1:=⟨f-1,by omega⟩
  have hri':i∈Region.ready .any ops listed:=by simpa using hri
  refine⟨fun h0=>(by rw [h0] at hri';cases hri'),fun j hj=>(hall j ?_).2⟩
  have:=hcov j hj
  simpa [Tr.heads] using this
theorem ziP {γ:Type} (z:Nat) (t:Tr) (mC:Mem) (ht:TabOk cx.P cx.tab) (hmix:cx.P.follows .mixedOrders=true) {id:Nat} {ops:Array Oper} (hc:(Region.noSelect ops&&Tr.chkZ ops z t ops.size true false (Array.replicate ops.size false))=true) (hds:zbD cx.n ops.toList=true) {k:Exit→Env→Mem→Prop} {e:Env} {m:Mem}
  (I:γ→Prop) (E:γ→Env) (M:γ→Mem) (hmC:SubM cx m mC)
  (h:XTZ cx mC z ops.toList (fun e m=>∃ g,I g∧Env.sub (E g) e∧SubM cx m (M g)) (fun ch m=>k (.panic ch) [] m) t e m)
  (hk:∀ g,I g→k .normal (E g) (M g)):Dr cx id ops k e m:=by
 intro a w he hm
 simp only [Bool.and_eq_true] at hc
 have hm':=hm.same (zep w (w.drawn+1))
 have:=((zyq ht hc.1 hds t ops.size true false _ e m a _ hc.2 he hm' (fun _=>hmC _ hm') h).1 rfl).any
 refine wp_mono (wp_region_any hmix this) ?_
 intro ex a' w' hq
 cases ex with
 | normal =>
  obtain ⟨e',m',h1,h2,g,h3,h4,h5⟩:=hq
  exact⟨E g,M g,h1.sub h4,h5 _ h2,hk g h3⟩
 | panic ch =>
  obtain ⟨h1,m',h2,h3⟩:=hq
  exact⟨[],m',h1,h2,h3⟩
 | exit id=>exact hq.elim
 | goto l=>exact hq.elim
 | ret=>exact hq.elim
 | outgrown=>exact hq.elim
end anyE
end Go.Proofs.YtlmgelmloddfgaaGreat.Eng
