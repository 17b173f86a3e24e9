/- Part of a proof: contracts of the functions that the law reaches. No statement of the seat is proved here. -/
import Derived.Test.YtlmgelmloddfgaaGreatCcM6
set_option linter.unusedVariables false
set_option linter.unusedSimpArgs false
set_option linter.unusedSectionVars false
set_option maxRecDepth 100000
namespace Go.Proofs.YtlmgelmloddfgaaGreat
open Go Go.RowKit Eng
section
section
variable {cx:Cx}
theorem zs3 {d:Option Nat} {t ty:Nat} {ps:Array (Nat × Operand)} {e:Env} {m:Mem} {K:Value→Mem→Prop} {KP:List PanicEntry→Mem→Prop} (v:Value) (h:popV cx d (.build t ps) e=some (v,none)) (hK:K v m):XO cx d (.build t ps) ty e m K KP:=by
 show zcI cx d (.build t ps) e (fun v=>K v m)
 unfold zcI
 rw [h]
 exact hK
end
attribute [local irreducible] Br Rn RnU Cl RdG CpG Ld Rd Lp Dr Oth Cut fin Fits Eng.Enters Md NA
theorem zfF:Eng.Enters Tryz.prog 51:=zab fun _ _=>by kernel_rfl
theorem zaR:Eng.Enters Tryz.prog 84:=zab fun _ _=>by kernel_rfl
theorem zmg:Eng.Enters Tryz.prog 55:=zab fun _ _=>by kernel_rfl
theorem zkU:Eng.Enters Tryz.prog 88:=zab fun _ _=>by kernel_rfl
theorem zkR:Eng.Enters Tryz.prog 89:=zab fun _ _=>by kernel_rfl
theorem zcS:Eng.Enters Tryz.prog 56:=zab fun _ _=>by kernel_rfl
theorem znL (xs ys:List UInt8) (A B:Option Addr) (c d:Nat) (w:World) (hx:BytsIn w A xs) (hy:BytsIn w B ys) :
  Calls Tryz.prog 51 #[.slice A xs.length c,.slice B ys.length d] w fun e w'=>e=.returned (.bool (decide (xs=ys)))∧Fr (fun _=>False) w w':=by
 refine enter (cx:=CX 10 [] w) [(0,.slice A xs.length c),(1,.slice B ys.length d)] zaa Tryz.func51 rfl rfl rfl rfl (MemOk.nil w _) ?_
 refine gGw ?_
 refine Rd.n (zcy (bs:=xs) zaa rfl rfl rfl rfl rfl rfl (BytsIn.byts hx (fun _ h=>h)) _) ?_
 refine gGw ?_
 refine Rd.n (zcy (bs:=ys) zaa rfl rfl rfl rfl rfl rfl (BytsIn.byts hy (fun _ h=>h)) _) ?_
 refine gGw ?_
 refine fin1 rfl rfl (fun w' hm=>⟨?_,hm.fr⟩)
 show Ending.returned (Value.bool (decide (Str xs=Str ys)))=_
 rw [decide_eq_decide.2 (Str.inj (l:=xs) (k:=ys))]
theorem zuZ (bs:List UInt8) (A:Option Addr) (c bB at_ n:Nat) (w:World) (hc:w.cell? ⟨bB,0,none⟩=some (.slice A bs.length c)) (hb:BytsIn w A bs) (hl:bs.length≤1000000) (h1:at_+n≤bs.length) (hn:1≤n∧n≤8) :
  Calls Tryz.prog 84 #[.int .i64 (at_:Int),.int .i64 (n:Int),.pointer (some ⟨bB,0,none⟩)] w fun e w'=>e=.returned (.int .i64 (i64w (getV bs at_ n)))∧Fr (fun _=>False) w w':=by
 have hF:∀ w',Fr (fun _=>False) w w'→BytsIn w' A bs:=fun w' hf=>Byts.in_ (BytsIn.byts (cx:=CX 17 [] w) (m:=[]) hb (fun _ h=>h)) ((MemOk.nil w _).same hf)
 have eG:getF bs at_ n=(getV bs at_ n,0):=by
  rw [getF,if_neg (by omega),liesB_iff.2 ⟨by omega,by omega,by omega⟩,if_pos rfl,Int.toNat_natCast,Int.toNat_natCast]
 refine enter (cx:=CX 17 [16] w) [(0,.int .i64 (at_:Int)),(1,.int .i64 (n:Int)),(2,.pointer (some ⟨bB,0,none⟩))] zaa Tryz.func84 rfl rfl rfl rfl (MemOk.nil w _) ?_
 refine gGw ?_
 refine zai (ldF zaa hc (fun h=>h) rfl rfl) ?_
 refine gGw ?_
 refine⟨zfj,zae _ (fun w' hm'=>zkV bs A c at_ n w' (hF w' hm'.fr) (by omega) (by omega)) ?_⟩
 rw [eG]
 refine gGw ?_
 exact fin1 rfl rfl (fun w' hm=>⟨rfl,hm.fr⟩)
theorem zp4 (x:Int) (w:World):Calls Tryz.prog 89 #[.int .i64 x] w fun e w'=>e=.returned (.int .i64 x)∧Fr (fun _=>False) w w':=by
 refine enter (cx:=CX 4 [] w) [(0,.int .i64 x)] zaa Tryz.func89 rfl rfl rfl rfl (MemOk.nil w _) ?_
 refine gGw ?_
 exact fin1 rfl rfl (fun w' hm=>⟨rfl,hm.fr⟩)
theorem zp7 (h:Hd) (w:World) (hf:0≤h.flags) (hm:mayH h=true) :
  Calls Tryz.prog 88 #[.agg h.cells.toArray,.func (.func 89) #[] #[]] w fun e w'=>e=.returned (.int .i64 (clus h.bits))∧Fr (fun _=>False) w w':=by
 have hk:=zgV hf hm
 refine enter (cx:=CX 13 [] w) [(0,.agg h.cells.toArray),(1,.func (.func 89) #[] #[])] zaa Tryz.func88 rfl rfl rfl rfl (MemOk.nil w _) ?_
 refine gGw ?_;(repeat ((first|refine .mk fun Ap capp=>?_|intro _);(conv=>whnf);refine gG0 ?_))
 refine⟨zfC,zae _ (fun w' _=>ziF h w') ?_⟩
 rw [if_pos hm]
 refine gGw ?_
 refine br_n (br_t rfl ?_)
 refine gGw ?_
 have hb:=hk.bits
 refine And.intro ⟨by omega,by show h.bits≤(64:Int);omega⟩ ?_
 conv=>whnf
 rw [zhx hk.bits]
 refine gG0 ?_
 refine⟨zkR,zae _ (fun w' _=>zp4 (clus h.bits) w') ?_⟩
 refine gGw ?_
 exact fin1 rfl rfl (fun w' hm=>⟨rfl,hm.fr⟩)
theorem zeV (h:Hd) (w:World) (hf:0≤h.flags) (hm:mayH h=true) :
  Calls Tryz.prog 56 #[.agg h.cells.toArray] w fun e w'=>e=.returned (.int .i64 (clus h.bits))∧Fr (fun _=>False) w w':=by
 refine enter (cx:=CX 5 [] w) [(0,.agg h.cells.toArray)] zaa Tryz.func56 rfl rfl rfl rfl (MemOk.nil w _) ?_
 refine gGw ?_;(repeat ((first|refine .mk fun Ap capp=>?_|intro _);(conv=>whnf);refine gG0 ?_))
 refine⟨zkU,zae _ (fun w' _=>zp7 h w' hf hm) ?_⟩
 refine gGw ?_
 exact fin1 rfl rfl (fun w' hm=>⟨rfl,hm.fr⟩)
/-! ## Read -/
theorem zp1 {x:Nat} (h:x<9223372036854775808):i64w x=(x:Int):=IntWalk.i64_in _ (by omega)
theorem znZ {x:Nat} (h:x<18446744073709551616):IntKind.u64.wrap (i64w x)=(x:Int):=by
 unfold i64w
 rw [IntKind.wrap_u64,IntKind.wrap_i64];omega
def hdI (bs:List UInt8) (nm:ByteArray):Hd where
 bits:=i64w (getV bs 4 4)
 flags:=IntKind.u64.wrap (i64w (getV bs 8 8))
 size:=i64w (getV bs 16 8)
 l1:=i64w (getV bs 24 8)
 l1len:=i64w (getV bs 32 4)
 order:=i64w (getV bs 36 4)
 counts:=i64w (getV bs 40 8)
 countsLen:=i64w (getV bs 48 4)
 snaps:=i64w (getV bs 52 4)
 snapsAt:=i64w (getV bs 56 8)
 snapsLen:=i64w (getV bs 64 4)
 bitmaps:=i64w (getV bs 68 4)
 bitmapsAt:=i64w (getV bs 72 8)
 bitmapsLen:=i64w (getV bs 80 4)
 backing:=nm
def hdZ:Hd:=⟨0,0,0,0,0,0,0,0,0,0,0,0,0,0,⟨#[]⟩⟩
def zbz (bs:List UInt8):Option Hd :=
 if bs.length<512 then none
 else if (zdP (bs.take 512) 84 64).2=0∧mayH (hdI (bs.take 512) (zdP (bs.take 512) 84 64).1)=true∧za7 (hdI (bs.take 512) (zdP (bs.take 512) 84 64).1)=bs.take 512 then some (hdI (bs.take 512) (zdP (bs.take 512) 84 64).1)
 else none
theorem zv2 {bs:List UInt8} {n:Nat} (hn:bs.length=n) (A:Option Addr) (c at_ most:Nat) (w:World) (hb:BytsIn w A bs) (hc:n≤c) (hl:n≤140737488355328) (h1:most≤1048576) (h2:at_+4+most≤n) :
  Calls Tryz.prog 86 #[.slice A n c,.int .i64 (at_:Int),.int .i64 (most:Int)] w fun e w'=>e=.returned (.tuple #[.string (zdP bs at_ most).1,.int .i64 (zdP bs at_ most).2])∧Fr (fun _=>False) w w':=by
 subst hn
 exact zqI bs A c at_ most w hb hc hl h1 h2
theorem zmy {xs ys:List UInt8} {n m:Nat} (hn:xs.length=n) (hm:ys.length=m) (A B:Option Addr) (c d:Nat) (w:World) (hx:BytsIn w A xs) (hy:BytsIn w B ys) :
  Calls Tryz.prog 51 #[.slice A n c,.slice B m d] w fun e w'=>e=.returned (.bool (decide (xs=ys)))∧Fr (fun _=>False) w w':=by
 subst hn hm
 exact znL xs ys A B c d w hx hy
theorem zdA {bs:List UInt8} {l:Nat} (hbl:bs.length=l) (A:Option Addr) (c bB at_ n:Nat) (w:World) (hc:w.cell? ⟨bB,0,none⟩=some (.slice A l c)) (hb:BytsIn w A bs) (hl:l≤1000000) (h1:at_+n≤l) (hn:1≤n∧n≤8) :
  Calls Tryz.prog 84 #[.int .i64 (at_:Int),.int .i64 (n:Int),.pointer (some ⟨bB,0,none⟩)] w fun e w'=>e=.returned (.int .i64 (i64w (getV bs at_ n)))∧Fr (fun _=>False) w w':=by
 subst hbl
 exact zuZ bs A c bB at_ n w hc hb hl h1 hn
set_option maxHeartbeats 2000000 in
theorem zr5 (bs:List UInt8) (A:Option Addr) (c:Nat) (w:World) (hb:BytsIn w A bs) (hc:bs.length≤c) (hl:bs.length≤20000000) :
  Calls Tryz.prog 55 #[.slice A bs.length c] w fun e w'=>e=.returned (match zbz bs with
   | none=>.tuple #[.agg hdZ.cells.toArray,.int .i64 180]
   | some h=>.tuple #[.agg h.cells.toArray,.int .i64 0])∧Fr (fun _=>False) w w':=by
 have hF:∀ w',Fr (fun _=>False) w w'→BytsIn w' A bs:=fun w' hf=>Byts.in_ (BytsIn.byts (cx:=CX 17 [] w) (m:=[]) hb (fun _ h=>h)) ((MemOk.nil w _).same hf)
 refine enter (cx:=⟨Tryz.prog,73,w,fun _=>False,tab,[21],[51],[],[]⟩) [(0,.slice A bs.length c)] zaa Tryz.func55 rfl rfl rfl rfl (MemOk.nil w _) ?_
 refine gGw ?_;(repeat ((first|refine .mk fun Ap capp=>?_|intro _);(conv=>whnf);refine gG0 ?_))
 by_cases hlt:bs.length<512
 ·have eH:zbz bs=none:=if_pos hlt
  rw [eH]
  refine br_t (decide_eq_true (by omega)) ?_
  refine gGw ?_
  exact zbV rfl rfl (ldN zaa (by repeat constructor) rfl rfl rfl rfl) rfl (fun w' hm=>⟨rfl,hm.fr⟩)
 have eH:zbz bs=if (zdP (bs.take 512) 84 64).2=0∧mayH (hdI (bs.take 512) (zdP (bs.take 512) 84 64).1)=true∧za7 (hdI (bs.take 512) (zdP (bs.take 512) 84 64).1)=bs.take 512 then some (hdI (bs.take 512) (zdP (bs.take 512) 84 64).1) else none:=if_neg hlt
 rw [eH]
 refine br_f (decide_eq_false (by omega)) ?_
 have hpl:Pl A:=(BytsIn.byts (cx:=CX 54 [] w) (m:=[]) hb (fun _ h=>h)).plain (by omega)
 have hF5:∀ w',Fr (fun _=>False) w w'→BytsIn w' (cutA A c 0 1) (bs.take 512):=fun w' hf=>BytsIn.sub (hF w' hf) c 0 512 (by omega) hc
 have hl5:(bs.take 512).length=512:=by rw [List.length_take];omega
 refine gGw ?_
 refine And.intro ⟨by omega,by omega,by omega,.inr hpl⟩ ?_
 refine gGw ?_
 generalize bs.take 512=b5 at hF5 hl5 ⊢
 rename_i bB rB
 have hD:cutA A c (Int.toNat 0) ty5.cells=cutA A c 0 1:=rfl
 rw [hD]
 generalize cutA A c 0 1=D at hF5 ⊢
 have hcl:∀ w',Res.ok w' (.blk bB (.cells [Value.slice D 512 c].toArray 22))→w'.cell? ⟨bB,0,none⟩=some (.slice D 512 c):=fun w' h9=>(zaJ h9 0).trans rfl
 refine⟨zaR,zae _ (fun w' hm'=>zdA hl5 D c bB 4 4 w' (hcl w' (hm'.ok _ (List.mem_cons_of_mem _ (List.mem_cons_self ..)))) (hF5 w' hm'.fr) (by omega) (by omega) (by omega)) ?_⟩
 refine gGw ?_
 refine⟨zaR,zae _ (fun w' hm'=>zdA hl5 D c bB 8 8 w' (hcl w' (hm'.ok _ (List.mem_cons_of_mem _ (List.mem_cons_self ..)))) (hF5 w' hm'.fr) (by omega) (by omega) (by omega)) ?_⟩
 refine gGw ?_
 refine⟨zaR,zae _ (fun w' hm'=>zdA hl5 D c bB 16 8 w' (hcl w' (hm'.ok _ (List.mem_cons_of_mem _ (List.mem_cons_self ..)))) (hF5 w' hm'.fr) (by omega) (by omega) (by omega)) ?_⟩
 refine gGw ?_
 refine⟨zaR,zae _ (fun w' hm'=>zdA hl5 D c bB 24 8 w' (hcl w' (hm'.ok _ (List.mem_cons_of_mem _ (List.mem_cons_self ..)))) (hF5 w' hm'.fr) (by omega) (by omega) (by omega)) ?_⟩
 refine gGw ?_
 refine⟨zaR,zae _ (fun w' hm'=>zdA hl5 D c bB 32 4 w' (hcl w' (hm'.ok _ (List.mem_cons_of_mem _ (List.mem_cons_self ..)))) (hF5 w' hm'.fr) (by omega) (by omega) (by omega)) ?_⟩
 refine gGw ?_
 refine⟨zaR,zae _ (fun w' hm'=>zdA hl5 D c bB 36 4 w' (hcl w' (hm'.ok _ (List.mem_cons_of_mem _ (List.mem_cons_self ..)))) (hF5 w' hm'.fr) (by omega) (by omega) (by omega)) ?_⟩
 refine gGw ?_
 refine⟨zaR,zae _ (fun w' hm'=>zdA hl5 D c bB 40 8 w' (hcl w' (hm'.ok _ (List.mem_cons_of_mem _ (List.mem_cons_self ..)))) (hF5 w' hm'.fr) (by omega) (by omega) (by omega)) ?_⟩
 refine gGw ?_
 refine⟨zaR,zae _ (fun w' hm'=>zdA hl5 D c bB 48 4 w' (hcl w' (hm'.ok _ (List.mem_cons_of_mem _ (List.mem_cons_self ..)))) (hF5 w' hm'.fr) (by omega) (by omega) (by omega)) ?_⟩
 refine gGw ?_
 refine⟨zaR,zae _ (fun w' hm'=>zdA hl5 D c bB 52 4 w' (hcl w' (hm'.ok _ (List.mem_cons_of_mem _ (List.mem_cons_self ..)))) (hF5 w' hm'.fr) (by omega) (by omega) (by omega)) ?_⟩
 refine gGw ?_
 refine⟨zaR,zae _ (fun w' hm'=>zdA hl5 D c bB 56 8 w' (hcl w' (hm'.ok _ (List.mem_cons_of_mem _ (List.mem_cons_self ..)))) (hF5 w' hm'.fr) (by omega) (by omega) (by omega)) ?_⟩
 refine gGw ?_
 refine⟨zaR,zae _ (fun w' hm'=>zdA hl5 D c bB 64 4 w' (hcl w' (hm'.ok _ (List.mem_cons_of_mem _ (List.mem_cons_self ..)))) (hF5 w' hm'.fr) (by omega) (by omega) (by omega)) ?_⟩
 refine gGw ?_
 refine⟨zaR,zae _ (fun w' hm'=>zdA hl5 D c bB 68 4 w' (hcl w' (hm'.ok _ (List.mem_cons_of_mem _ (List.mem_cons_self ..)))) (hF5 w' hm'.fr) (by omega) (by omega) (by omega)) ?_⟩
 refine gGw ?_
 refine⟨zaR,zae _ (fun w' hm'=>zdA hl5 D c bB 72 8 w' (hcl w' (hm'.ok _ (List.mem_cons_of_mem _ (List.mem_cons_self ..)))) (hF5 w' hm'.fr) (by omega) (by omega) (by omega)) ?_⟩
 refine gGw ?_
 refine⟨zaR,zae _ (fun w' hm'=>zdA hl5 D c bB 80 4 w' (hcl w' (hm'.ok _ (List.mem_cons_of_mem _ (List.mem_cons_self ..)))) (hF5 w' hm'.fr) (by omega) (by omega) (by omega)) ?_⟩
 dsimp only [cont,zjc,XLs]
 apply zs3 (.agg (hdI b5 ⟨#[]⟩).cells.toArray)
 ·kernel_rfl
 refine gGw ?_;(repeat ((first|refine .mk fun Ap capp=>?_|intro _);(conv=>whnf);refine gG0 ?_))
 rename_i hB
 refine⟨zlj,zcj (m1:=[.blk hB (.cells (hdI b5 ⟨#[]⟩).cells.toArray 34),.blk rB (.cells hdZ.cells.toArray 34),.blk bB (.cells [Value.slice D 512 c].toArray 22)]) (SubM.refl _ _) (zae _ (fun w' hm'=>zv2 hl5 D c 84 64 w' (hF5 w' hm'.fr) (by omega) (by omega) (by omega) (by omega)) ?_)⟩
 rcases hte:zdP b5 84 64 with ⟨nm,te⟩
 refine gGw ?_
 have hf0:0≤(hdI b5 nm).flags:=by
  show 0≤IntKind.u64.wrap _
  rw [IntKind.wrap_u64];omega
 refine⟨zkT,zcj (m1:=[.blk hB (.cells (hdI b5 nm).cells.toArray 34),.blk rB (.cells hdZ.cells.toArray 34),.blk bB (.cells [Value.slice D 512 c].toArray 22)]) (SubM.refl _ _) (zac (m1:=[]) .nil (fun w' hm'=>zp6 (hdI b5 nm) w' hf0) ?_)⟩
 generalize hdI b5 nm=H at hf0 ⊢
 rintro e m' (⟨hmay,rfl,rfl⟩|⟨hmay,gA,gc,rfl,rfl⟩)
 ·rw [if_neg (fun h=>by rw [hmay] at h;exact absurd h.2.1 (by decide))]
  refine gGw ?_
  refine⟨_,cpg zfF (fun _ w' hm'=>zmy (xs:=[]) rfl hl5 none D 0 c w' (fun h=>absurd h (by decide)) (hF5 w' hm'.fr)),?_⟩
  refine gGw ?_
  refine br_t (by rw [show (!decide ((2:Int)=0))=true from rfl,Bool.or_true,Bool.true_or]) ?_
  refine gGw ?_
  exact zbV rfl rfl (ldN (vs:=hdZ.cells) zaa (by repeat constructor) rfl rfl rfl rfl) rfl (fun w' hm=>⟨rfl,hm.fr⟩)
 ·refine gGw ?_
  refine⟨_,cpg zfF (fun _ w' hm'=>zmy (zsL (hm'.ok (BR8 gA gc 512 (za7 H)) (List.mem_cons_self ..))).symm hl5 gA D gc c w' (zay (hm'.ok (BR8 gA gc 512 (za7 H)) (List.mem_cons_self ..))) (hF5 w' hm'.fr)),?_⟩
  refine gGw ?_
  by_cases hC:te=0∧za7 H=b5
  ·rw [if_pos ⟨hC.1,hmay,hC.2⟩]
   refine br_f (by rw [show (!decide ((nm,te).2=0))=false from by rw [decide_eq_true hC.1];rfl,decide_eq_true hC.2];rfl) ?_
   refine gGw ?_
   exact zbV rfl rfl (ldN (vs:=H.cells) zaa (by repeat constructor) rfl rfl rfl rfl) rfl (fun w' hm=>⟨rfl,hm.fr⟩)
  ·rw [if_neg (fun h=>hC ⟨h.1,h.2.2⟩)]
   have hor:(!decide ((nm,te).2=0)||!decide ((0:Int)=0)||!decide (za7 H=b5))=true:=by
    by_cases ht:te=0
    ·rw [decide_eq_false (fun h=>hC ⟨ht,h⟩)];simp
    ·rw [show decide ((nm,te).2=0)=false from decide_eq_false ht];rfl
   refine br_t hor ?_
   refine gGw ?_
   exact zbV rfl rfl (ldN (vs:=hdZ.cells) zaa (by repeat constructor) rfl rfl rfl rfl) rfl (fun w' hm=>⟨rfl,hm.fr⟩)
end
section
theorem zj0 {a b:Int} (ha:0≤a) (hb:1≤b):upF' a b=zfY a b:=by
 unfold upF' zfY
 rw [Int.tmod_eq_emod_of_nonneg ha,Int.tdiv_eq_ediv_of_nonneg ha]
 have h1:=Int.mul_ediv_add_emod a b
 have h2:=Int.emod_nonneg a (show b≠0 by omega)
 have h3:=Int.emod_lt_of_pos a (show 0<b by omega)
 generalize a%b=r at h1 h2 h3 ⊢
 generalize hq:a/b=q at h1 ⊢
 rw [← h1]
 split
 ·rename_i h
  have e:b*q+r+b-1=(b-1)+b*q:=by omega
  rw [e,Int.add_mul_ediv_left _ _ (by omega),Int.ediv_eq_zero_of_lt (by omega) (by omega)];omega
 ·have e:b*q+r+b-1=(r-1)+b*(q+1):=by rw [Int.mul_add];omega
  rw [e,Int.add_mul_ediv_left _ _ (by omega),Int.ediv_eq_zero_of_lt (by omega) (by omega)];omega
attribute [local irreducible] Br Rn RnU Cl RdG CpG Ld Rd Lp Dr Oth Cut fin Fits Eng.Enters Md NA
theorem zks:Eng.Enters Tryz.prog 121:=zab fun _ _=>by kernel_rfl
theorem zi7:Eng.Enters Tryz.prog 72:=zab fun _ _=>by kernel_rfl
theorem zm4:Eng.Enters Tryz.prog 35:=zab fun _ _=>by kernel_rfl
theorem zpF (h:Hd) (w:World) (hb:9≤h.bits∧h.bits≤16) (hs:0≤h.size∧h.size≤67108864) :
  Calls Tryz.prog 121 #[.agg h.cells.toArray] w fun e w'=>e=.returned (.int .i64 (zfY h.size (clus h.bits)))∧Fr (fun _=>False) w w':=by
 refine enter (cx:=CX 9 [] w) [(0,.agg h.cells.toArray)] zaa Tryz.func121 rfl rfl rfl rfl (MemOk.nil w _) ?_
 have hc:=zc0 hb
 refine gGw ?_;(repeat ((first|refine .mk fun Ap capp=>?_|intro _);(conv=>whnf);refine gG0 ?_))
 refine zao zaa mixed (by kernel_rfl) rfl ?_;conv=>whnf
 refine gG0 ?_
 refine⟨_,cpg zbH (fun _ w' _=>zcM h.bits w' (by omega)),?_⟩
 refine gGw ?_
 refine⟨_,cpg ze9 (fun _ w' _=>zkl h.size (clus h.bits) w' (by omega) (by omega)),?_⟩
 rw [zj0 (by omega) (by omega)]
 refine gGw ?_
 exact fin1 rfl rfl (fun w' hm=>⟨rfl,hm.fr⟩)
theorem zm0 (h:Hd) (w:World) (hb:9≤h.bits∧h.bits≤16) (hs:0≤h.size∧h.size≤67108864) :
  Calls Tryz.prog 72 #[.agg h.cells.toArray] w fun e w'=>e=.returned (.int .i64 (zqY h))∧Fr (fun _=>False) w w':=by
 refine enter (cx:=CX 10 [] w) [(0,.agg h.cells.toArray)] zaa Tryz.func72 rfl rfl rfl rfl (MemOk.nil w _) ?_
 have hc:=zc0 hb
 have hd1:0≤zfY h.size (clus h.bits):=Int.ediv_nonneg (by omega) (by omega)
 have hd2:zfY h.size (clus h.bits)≤h.size+clus h.bits-1:=Int.ediv_le_self _ (by omega)
 have e8:IntKind.i64.wrap ((clus h.bits).tdiv 8)=clus h.bits/8:=by
  rw [Int.tdiv_eq_ediv_of_nonneg (by omega)];exact IntWalk.i64_in _ (by omega)
 refine gGw ?_;(repeat ((first|refine .mk fun Ap capp=>?_|intro _);(conv=>whnf);refine gG0 ?_))
 refine zao zaa mixed (by kernel_rfl) rfl ?_;conv=>whnf
 refine⟨_,(ldN (vs:=h.cells) zaa (by repeat constructor) rfl rfl rfl rfl).g,?_⟩
 refine gGw ?_
 refine⟨_,cpg zks (fun _ w' _=>zpF h w' hb hs),?_⟩
 refine gGw ?_
 refine⟨_,cpg zbH (fun _ w' _=>zcM h.bits w' (by omega)),?_⟩
 refine gGw ?_
 rw [e8]
 refine⟨_,cpg ze9 (fun _ w' _=>zkl (zfY h.size (clus h.bits)) (clus h.bits/8) w' (by omega) (by omega)),?_⟩
 rw [zj0 (by omega) (by omega)]
 refine gGw ?_
 exact fin1 rfl rfl (fun w' hm=>⟨rfl,hm.fr⟩)
theorem zcf (a bits:Int) (w:World) (hb:bits≤60) :
  Calls Tryz.prog 73 #[.int .i64 a,.int .i64 bits] w fun e w'=>e=.returned (.bool (plB a (clus bits)))∧Fr (fun _=>False) w w':=by
 refine enter (cx:=⟨Tryz.prog,18,w,fun _=>False,tab,[],[119],[],[]⟩) [(0,.int .i64 a),(1,.int .i64 bits)] zaa Tryz.func73 rfl rfl rfl rfl (MemOk.nil w _) ?_
 have hc:=zvj bits
 refine gGw ?_
 refine⟨_,cpg zbH (fun _ w' _=>zcM bits w' hb),?_⟩
 refine gGw ?_
 exact fin1 rfl rfl (fun w' hm=>⟨by rw [← zon],hm.fr⟩)
theorem zgh (n a long bits:Int) (w:World) (hb:bits≤60) :
  Calls Tryz.prog 74 #[.int .i64 n,.int .i64 a,.int .i64 long,.int .i64 bits] w fun e w'=>e=.returned (.bool (liOk n a long (clus bits)))∧Fr (fun _=>False) w w':=by
 refine enter (cx:=⟨Tryz.prog,36,w,fun _=>False,tab,[],[73],[],[]⟩) [(0,.int .i64 n),(1,.int .i64 a),(2,.int .i64 long),(3,.int .i64 bits)] zaa Tryz.func74 rfl rfl rfl rfl (MemOk.nil w _) ?_
 refine gGw ?_
 refine br_d (fun hn=>?_) (fun hn=>?_)
 ·have eL:liOk n a long (clus bits)=(decide (a=0)&&decide (long=0)):=if_pos hn
  rw [eL]
  refine gGw ?_
  exact fin1 rfl rfl (fun w' hm=>⟨rfl,hm.fr⟩)
 ·have eL:liOk n a long (clus bits)=(decide (0<n)&&decide (n≤64)&&plB a (clus bits)&&decide (1≤long)&&decide (long≤65536)):=if_neg hn
  rw [eL]
  refine gGw ?_
  refine⟨_,cpg zbi (fun _ w' _=>zcf a bits w' hb),?_⟩
  refine gGw ?_
  exact fin1 rfl rfl (fun w' hm=>⟨rfl,hm.fr⟩)
theorem mayH_iff {h:Hd}:mayH h=true↔mayA h=true∧(0≤h.l1len∧h.l1len≤1048576∧zqY h≤h.l1len)∧((h.l1len=0∧h.l1=0)∨(0<h.l1len∧plB h.l1 (clus h.bits)=true))∧(0≤h.order∧h.order≤6) ∧
  (plB h.counts (clus h.bits)=true∧1≤h.countsLen∧h.countsLen≤65536)∧liOk h.snaps h.snapsAt h.snapsLen (clus h.bits)=true∧liOk h.bitmaps h.bitmapsAt h.bitmapsLen (clus h.bits)=true∧h.backing.size≤64∧(h.backing.data.toList.all fun x=>!(x == 0))=true:=by
 rw [ziw]
 unfold may0 may1 may2 may3 may6
 simp only [Bool.and_eq_true,Bool.or_eq_true,decide_eq_true_eq,and_assoc]
theorem zyj {h:Hd} {i:Nat} (hi:(i:Int)<h.backing.size) (hz:ze2 h.backing (Int.toNat (i:Int))=0) (ha:(h.backing.data.toList.all fun x=>!(x == 0))=true):False:=by
 rw [Int.toNat_natCast] at hz
 unfold ze2 at hz
 have hl:i<h.backing.data.toList.length:=by
  have:h.backing.size=h.backing.data.toList.length:=by rw [Array.length_toList];rfl
  omega
 rw [List.all_eq_true] at ha
 have h1:=ha _ (List.getElem_mem hl)
 rw [List.getD_eq_getElem?_getD,List.getElem?_eq_getElem hl] at hz
 have h2:h.backing.data.toList[i]=0:=u8_zero.1 hz
 rw [h2] at h1
 exact absurd h1 (by decide)
theorem zyk {h:Hd} {i:Nat} (hz:¬ ze2 h.backing (Int.toNat (i:Int))=0):h.backing.data.toList.getD i 0≠0:=by
 intro h1
 apply hz
 rw [Int.toNat_natCast]
 unfold ze2
 rw [h1];rfl
theorem zvS {h:Hd} {i:Nat} (hi:h.backing.size≤i) (hj:∀ j,j<i→h.backing.data.toList.getD j 0≠0):(h.backing.data.toList.all fun x=>!(x == 0))=true:=by
 rw [List.all_eq_true]
 intro x hx
 obtain ⟨j,hjl,rfl⟩:=List.getElem_of_mem hx
 have:h.backing.size=h.backing.data.toList.length:=by rw [Array.length_toList];rfl
 have h1:=hj j (by omega)
 rw [List.getD_eq_getElem?_getD,List.getElem?_eq_getElem hjl] at h1
 simpa using h1
set_option maxHeartbeats 2000000 in
theorem zut (h:Hd) (w:World) (hbk:h.backing.size≤1000000) :
  Calls Tryz.prog 35 #[.agg h.cells.toArray] w fun e w'=>e=.returned (.bool (mayH h))∧Fr (fun _=>False) w w':=by
 refine enter (cx:=⟨Tryz.prog,139,w,fun _=>False,tab,[],[73,72],[],[]⟩) [(0,.agg h.cells.toArray)] zaa Tryz.func35 rfl rfl rfl rfl (MemOk.nil w _) ?_
 refine gGw ?_;(repeat ((first|refine .mk fun Ap capp=>?_|intro _);(conv=>whnf);refine gG0 ?_))
 refine And.intro (fun _=>by decide) ?_
 conv=>whnf
 rw [zox]
 cases hA:mayA h with
 | false =>
  have hno:mayH h=false:=by rw [ziw,hA];rfl
  refine br_t rfl ?_
  refine gGw ?_
  exact fin1 rfl rfl (fun w' hm=>⟨by rw [hno],hm.fr⟩)
 | true =>
  have hA':=mayA_iff.1 hA
  refine br_f rfl ?_
  refine gGw ?_
  rename_i bB
  refine zao zaa mixed (by kernel_rfl) rfl ?_;conv=>whnf
  refine gG0 ?_
  refine⟨_,cpg zi7 (fun _ w' _=>zm0 h w' (by omega) (by omega)),?_⟩
  refine gGw ?_
  refine br (fun hc=>?_) (fun hc=>?_)
  ·have hno:mayH h=false:=by
    rw [Bool.eq_false_iff]
    intro hm
    obtain ⟨_,h1,_,h3,h4,_⟩:=mayH_iff.1 hm
    simp only [Bool.or_eq_true,decide_eq_true_eq] at hc
    omega
   refine gGw ?_
   exact fin1 rfl rfl (fun w' hm=>⟨by rw [hno],hm.fr⟩)
  ·simp only [Bool.or_eq_false_iff,decide_eq_false_iff_not] at hc
   refine gGw ?_
   have hno1:∀ {b:Bool},b=false→mayH h=b→mayH h=false:=fun hb h=>h.trans hb
   refine br (fun h1=>?_) (fun h1=>?_)
   ·simp only [Bool.and_eq_true,decide_eq_true_eq,Bool.not_eq_true',decide_eq_false_iff_not] at h1
    have hno:mayH h=false:=by
     rw [Bool.eq_false_iff]
     intro hm
     obtain ⟨_,_,h2,_⟩:=mayH_iff.1 hm
     omega
    refine gGw ?_
    refine⟨_,cpg zbi (fun _ w' _=>zcf h.counts h.bits w' (by omega)),?_⟩
    refine gGw ?_
    refine br_t rfl ?_
    refine gGw ?_
    exact fin1 rfl rfl (fun w' hm=>⟨by rw [hno],hm.fr⟩)
   ·simp only [Bool.and_eq_false_iff,decide_eq_false_iff_not,Bool.not_eq_false',decide_eq_true_eq] at h1
    refine gGw ?_
    refine br (fun h2=>?_) (fun h2=>?_)
    ·have h2:0<h.l1len:=of_decide_eq_true h2
     refine gGw ?_
     refine⟨zbi,zae _ (fun w' _=>zcf h.l1 h.bits w' (by omega)) ?_⟩
     refine gGw ?_
     refine⟨_,cpg zbi (fun _ w' _=>zcf h.counts h.bits w' (by omega)),?_⟩
     refine gGw ?_
     cases hp1:plB h.l1 (clus h.bits) with
     | false =>
      have hno:mayH h=false:=by
       rw [Bool.eq_false_iff]
       intro hm
       obtain ⟨_,_,h5,_⟩:=mayH_iff.1 hm
       rw [hp1] at h5
       rcases h5 with h5|h5
       ·omega
       ·exact absurd h5.2 (by decide)
      refine br_t rfl ?_
      refine gGw ?_
      exact fin1 rfl rfl (fun w' hm=>⟨by rw [hno],hm.fr⟩)
     | true =>
     cases hp2:plB h.counts (clus h.bits) with
     | false =>
      have hno:mayH h=false:=by
       rw [Bool.eq_false_iff]
       intro hm
       obtain ⟨_,_,_,_,h5,_⟩:=mayH_iff.1 hm
       rw [hp2] at h5
       exact absurd h5.1 (by decide)
      refine br_t rfl ?_
      refine gGw ?_
      exact fin1 rfl rfl (fun w' hm=>⟨by rw [hno],hm.fr⟩)
     | true =>
     have hL1:(h.l1len=0∧h.l1=0)∨(0<h.l1len∧plB h.l1 (clus h.bits)=true):=.inr ⟨h2,hp1⟩
     refine br_f rfl ?_
     refine gGw ?_
     refine⟨zdv,zae _ (fun w' _=>zgh h.snaps h.snapsAt h.snapsLen h.bits w' (by omega)) ?_⟩
     refine gGw ?_
     refine⟨zdv,zae _ (fun w' _=>zgh h.bitmaps h.bitmapsAt h.bitmapsLen h.bits w' (by omega)) ?_⟩
     refine gGw ?_
     refine lp zaa (γ:=Nat) (fun i=>i≤h.backing.size∧∀ j,j<i→h.backing.data.toList.getD j 0≠0) (fun i=>[(5,.int .i64 (i:Int)),(4,.bool (liOk h.bitmaps h.bitmapsAt h.bitmapsLen (clus h.bits))),(3,.bool (liOk h.snaps h.snapsAt h.snapsLen (clus h.bits))),(1,.pointer (some ⟨bB,0,none⟩))])
      (fun _=>[.blk bB (.cells h.cells.toArray 34)]) (fun i=>h.backing.size-i) 0 ⟨Nat.zero_le _,fun j hj=>absurd hj (Nat.not_lt_zero _)⟩ ⟨rfl,rfl,rfl,rfl,trivial⟩ SubM.sl ?_
     rintro i ⟨hi,hji⟩
     dsimp only
     refine gGw ?_
     refine br_d (fun hlt=>?_) (fun hge=>?_)
     ·refine gGw ?_
      refine br_d (fun hz=>?_) (fun hz=>?_)
      ·have hno:mayH h=false:=by
        rw [Bool.eq_false_iff]
        intro hm
        obtain ⟨_,_,_,_,_,_,_,_,h9⟩:=mayH_iff.1 hm
        exact zyj hlt hz h9
       refine gGw ?_
       exact fin1 rfl rfl (fun w' hm=>⟨by rw [hno],hm.fr⟩)
      ·refine gGw ?_
       refine⟨i+1,⟨by omega,fun j hj=>?_⟩,by omega,⟨rfl,rfl,rfl,rfl,trivial⟩,SubM.refl _ _⟩
       rcases Nat.lt_succ_iff_lt_or_eq.1 hj with hj|rfl
       ·exact hji j hj
       ·exact zyk hz
     ·have h9:=zvS (i:=i) (h:=h) (by omega) hji
      have hend:mayH h=(liOk h.snaps h.snapsAt h.snapsLen (clus h.bits)&&liOk h.bitmaps h.bitmapsAt h.bitmapsLen (clus h.bits)&&decide ((h.backing.size:Int)≤64)):=by
       rw [Bool.eq_iff_iff,mayH_iff]
       simp only [Bool.and_eq_true,decide_eq_true_eq]
       constructor
       ·rintro ⟨_,_,_,_,_,a,b,c,_⟩
        exact⟨⟨a,b⟩,by omega⟩
       ·rintro ⟨⟨a,b⟩,c⟩
        exact⟨hA,by omega,hL1,by omega,⟨hp2,by omega,by omega⟩,a,b,by omega,h9⟩
      refine gGw ?_
      exact fin1 rfl rfl (fun w' hm=>⟨by rw [hend],hm.fr⟩)
    ·have h2:¬ 0<h.l1len:=of_decide_eq_false h2
     refine gGw ?_
     refine⟨_,cpg zbi (fun _ w' _=>zcf h.counts h.bits w' (by omega)),?_⟩
     refine gGw ?_
     cases hp2:plB h.counts (clus h.bits) with
     | false =>
      have hno:mayH h=false:=by
       rw [Bool.eq_false_iff]
       intro hm
       obtain ⟨_,_,_,_,h5,_⟩:=mayH_iff.1 hm
       rw [hp2] at h5
       exact absurd h5.1 (by decide)
      refine br_t rfl ?_
      refine gGw ?_
      exact fin1 rfl rfl (fun w' hm=>⟨by rw [hno],hm.fr⟩)
     | true =>
     have hL1:(h.l1len=0∧h.l1=0)∨(0<h.l1len∧plB h.l1 (clus h.bits)=true):=.inl (by omega)
     refine br_f rfl ?_
     refine gGw ?_
     refine⟨zdv,zae _ (fun w' _=>zgh h.snaps h.snapsAt h.snapsLen h.bits w' (by omega)) ?_⟩
     refine gGw ?_
     refine⟨zdv,zae _ (fun w' _=>zgh h.bitmaps h.bitmapsAt h.bitmapsLen h.bits w' (by omega)) ?_⟩
     refine gGw ?_
     refine lp zaa (γ:=Nat) (fun i=>i≤h.backing.size∧∀ j,j<i→h.backing.data.toList.getD j 0≠0) (fun i=>[(5,.int .i64 (i:Int)),(4,.bool (liOk h.bitmaps h.bitmapsAt h.bitmapsLen (clus h.bits))),(3,.bool (liOk h.snaps h.snapsAt h.snapsLen (clus h.bits))),(1,.pointer (some ⟨bB,0,none⟩))])
      (fun _=>[.blk bB (.cells h.cells.toArray 34)]) (fun i=>h.backing.size-i) 0 ⟨Nat.zero_le _,fun j hj=>absurd hj (Nat.not_lt_zero _)⟩ ⟨rfl,rfl,rfl,rfl,trivial⟩ SubM.sl ?_
     rintro i ⟨hi,hji⟩
     dsimp only
     refine gGw ?_
     refine br_d (fun hlt=>?_) (fun hge=>?_)
     ·refine gGw ?_
      refine br_d (fun hz=>?_) (fun hz=>?_)
      ·have hno:mayH h=false:=by
        rw [Bool.eq_false_iff]
        intro hm
        obtain ⟨_,_,_,_,_,_,_,_,h9⟩:=mayH_iff.1 hm
        exact zyj hlt hz h9
       refine gGw ?_
       exact fin1 rfl rfl (fun w' hm=>⟨by rw [hno],hm.fr⟩)
      ·refine gGw ?_
       refine⟨i+1,⟨by omega,fun j hj=>?_⟩,by omega,⟨rfl,rfl,rfl,rfl,trivial⟩,SubM.refl _ _⟩
       rcases Nat.lt_succ_iff_lt_or_eq.1 hj with hj|rfl
       ·exact hji j hj
       ·exact zyk hz
     ·have h9:=zvS (i:=i) (h:=h) (by omega) hji
      have hend:mayH h=(liOk h.snaps h.snapsAt h.snapsLen (clus h.bits)&&liOk h.bitmaps h.bitmapsAt h.bitmapsLen (clus h.bits)&&decide ((h.backing.size:Int)≤64)):=by
       rw [Bool.eq_iff_iff,mayH_iff]
       simp only [Bool.and_eq_true,decide_eq_true_eq]
       constructor
       ·rintro ⟨_,_,_,_,_,a,b,c,_⟩
        exact⟨⟨a,b⟩,by omega⟩
       ·rintro ⟨⟨a,b⟩,c⟩
        exact⟨hA,by omega,hL1,by omega,⟨hp2,by omega,by omega⟩,a,b,by omega,h9⟩
      refine gGw ?_
      exact fin1 rfl rfl (fun w' hm=>⟨by rw [hend],hm.fr⟩)
end
section
structure RS where
 holds:List (Int × Int)
 finds:List Fi
 blocks:List Int
 data:Int
 packed:Int
 zero:Int
 active:Bool
structure RG where
 hA:Option Addr
 hc:Nat
 fA:Option Addr
 fc:Nat
 bA:Option Addr
 bc:Nat
def Fi.cs (x:Fi):List Value:=[.int .i64 x.kind,.int .i64 x.at_,.int .u64 x.want,.int .u64 x.have_]
def hdC (q:Int × Int):List Value:=[.int .i64 q.1,.int .i64 q.2]
abbrev zil (p:WP) (s:RS) (g:RG):List Value :=
 [.slice p.A p.bs.length p.cap,.int .i64 p.h.bits,.int .u64 p.h.flags,.int .i64 p.h.size,.int .i64 p.h.l1,.int .i64 p.h.l1len,.int .i64 p.h.order,.int .i64 p.h.counts,.int .i64 p.h.countsLen,.int .i64 p.h.snaps,.int .i64 p.h.snapsAt,.int .i64 p.h.snapsLen,.int .i64 p.h.bitmaps,.int .i64 p.h.bitmapsAt,.int .i64 p.h.bitmapsLen,.string p.h.backing,
  .slice g.hA s.holds.length g.hc,.slice g.fA s.finds.length g.fc,.slice none 0 0,.bool false,.int .i64 0,.int .i64 0,.int .i64 s.data,.int .i64 s.packed,.int .i64 s.zero,.bool s.active,.slice g.bA s.blocks.length g.bc]
abbrev rM (p:WP) (s:RS) (g:RG):Mem:=[.blk p.wB (.cells (zil p s g).toArray 81),.row g.hA g.hc s.holds.length 83 2 (s.holds.flatMap hdC),.row g.fA g.fc s.finds.length 61 4 (s.finds.flatMap Fi.cs),.row g.bA g.bc s.blocks.length 2 1 (s.blocks.map (.int .i64))]
def RwR (p:WP) (v:Value) (s:RS) (e:Ending) (m':Mem):Prop:=e=.returned v∧∃ g,m'=rM p s g
def RIn (p:WP) (s:RS) (g:RG) (w:World):Prop:=∀ i v,(zil p s g)[i]?=some v→w.cell? ⟨p.wB,i,none⟩=some v
theorem zdw {p:WP} {s:RS} {g:RG} {w w0:World} {S:Nat→Prop} {r:Mem} (h:MemOk w0 S (rM p s g++r) w):RIn p s g w:=fun i v hv=>by
 rw [zaJ (h.ok (.blk p.wB (.cells (zil p s g).toArray 81)) (List.mem_cons_self ..))]
 simpa using hv
def zmE (p:WP) (a n:Int):Bool:=decide (0<a)&&decide (a.tmod p.c=0)&&decide (a.tdiv p.c<p.n)&&decide (upF' n p.c≤p.n-a.tdiv p.c)
attribute [local irreducible] Br Rn RnU Cl RdG CpG Ld Rd Lp Dr Oth Cut fin Fits Eng.Enters Md NA
theorem zbl:Eng.Enters Tryz.prog 71:=zab fun _ _=>by kernel_rfl
theorem zeE:Eng.Enters Tryz.prog 32:=zab fun _ _=>by kernel_rfl
theorem zmU:Eng.Enters Tryz.prog 154:=zab fun _ _=>by kernel_rfl
theorem zcF (p:WP) (s:RS) (g:RG) (w:World) (hb:p.h.bits≤60) (hcb:p.c=clus p.h.bits) (hw:RIn p s g w) :
  Calls Tryz.prog 71 #[.pointer (some ⟨p.wB,0,none⟩)] w fun e w'=>e=.returned (.int .i64 p.c)∧Fr (fun _=>False) w w':=by
 refine enter (cx:=CX 9 [] w) [(0,.pointer (some ⟨p.wB,0,none⟩))] zaa Tryz.func71 rfl rfl rfl rfl (MemOk.nil w _) ?_
 refine gGw ?_
 refine zai (ldF (a:=⟨p.wB,1,none⟩) zaa (hw 1 _ rfl) (fun h=>h) rfl rfl) ?_
 refine gGw ?_
 refine⟨zbH,zae _ (fun w' _=>zcM p.h.bits w' hb) ?_⟩
 refine gGw ?_
 exact fin1 rfl rfl (fun w' hm=>⟨by rw [hcb],hm.fr⟩)
theorem zh7 (p:WP) (s:RS) (g:RG) (w:World) (hp:p.Ok) (hb:p.h.bits≤60) (hcb:p.c=clus p.h.bits) (hw:RIn p s g w) :
  Calls Tryz.prog 32 #[.pointer (some ⟨p.wB,0,none⟩)] w fun e w'=>e=.returned (.int .i64 p.n)∧Fr (fun _=>False) w w':=by
 refine enter (cx:=⟨Tryz.prog,11,w,fun _=>False,tab,[],[71],[],[]⟩) [(0,.pointer (some ⟨p.wB,0,none⟩))] zaa Tryz.func32 rfl rfl rfl rfl (MemOk.nil w _) ?_
 have hc0:=hp.c0
 have hlen:=hp.len
 conv=>whnf
 refine zao zaa mixed (by kernel_rfl) rfl ?_;conv=>whnf
 refine gG0 ?_
 refine⟨.slice p.A p.bs.length p.cap,Ld.g (ldF (a:=⟨p.wB,0,none⟩) zaa (hw 0 _ rfl) (fun h=>h) rfl rfl),?_⟩
 refine gGw ?_
 refine⟨_,cpg zbl (fun _ w' hm'=>zcF p s g w' hb hcb (fun i v hv=>hm'.far (hw i v hv) (fun h=>h))),?_⟩
 refine gGw ?_
 refine fin1 rfl rfl (fun w' hm=>⟨?_,hm.fr⟩)
 have e1:((p.bs.length:Int)).tdiv p.c=p.n:=by rw [hp.n,Int.tdiv_eq_ediv_of_nonneg (by omega)]
 have hb1:0≤p.n∧p.n≤20000000:=by
  rw [hp.n]
  exact⟨Int.ediv_nonneg (by omega) (by omega),Int.le_trans (Int.ediv_le_self _ (by omega)) (by omega)⟩
 have e2:IntKind.i64.wrap p.n=p.n:=IntWalk.i64_in _ (by omega)
 show Ending.returned (.int .i64 (IntKind.i64.wrap (((p.bs.length:Int)).tdiv p.c)))=_
 rw [e1,e2]
theorem n_bd {p:WP} (hp:p.Ok):0≤p.n∧p.n≤20000000:=by
 have hc0:=hp.c0
 have hlen:=hp.len
 rw [hp.n]
 exact⟨Int.ediv_nonneg (by omega) (by omega),Int.le_trans (Int.ediv_le_self _ (by omega)) (by omega)⟩
theorem zlw {a c:Int} (hc:512≤c) (h:-9223372036854775808≤a∧a≤9223372036854775807):-18014398509481984≤a.tdiv c∧a.tdiv c≤18014398509481984:=by
 have key:∀ x:Int,0≤x→x≤9223372036854775808→0≤x/c∧x/c≤18014398509481984:=fun x h0 h1=>by
  have h2:=Int.ediv_nonneg h0 (show 0≤c by omega)
  refine⟨h2,?_⟩
  have h3:c*(x/c)≤x:=by have:=Int.mul_ediv_add_emod x c;have:=Int.emod_nonneg x (show c≠0 by omega);omega
  have h4:512*(x/c)≤c*(x/c):=Int.mul_le_mul_of_nonneg_right hc h2
  omega
 by_cases h0:0≤a
 ·rw [Int.tdiv_eq_ediv_of_nonneg h0]
  have:=key a h0 (by omega)
  omega
 ·have e:(-a).tdiv c=-(a.tdiv c):=Int.neg_tdiv a c
  rw [Int.tdiv_eq_ediv_of_nonneg (by omega)] at e
  have:=key (-a) (by omega) (by omega)
  omega
theorem zqP {n c:Int} (hc:1≤c) (h:0≤n):0≤upF' n c∧upF' n c≤n+1:=by
 have h1:=Int.ediv_nonneg h (show 0≤c by omega)
 have h2:=Int.ediv_le_self c h
 unfold upF'
 rw [Int.tdiv_eq_ediv_of_nonneg h]
 split<;>omega
theorem zui (p:WP) (s:RS) (g:RG) (a n:Int) (w:World) (hp:p.Ok) (hb:p.h.bits≤60) (hcb:p.c=clus p.h.bits) (ha:-9223372036854775808≤a∧a≤9223372036854775807) (hn:0≤n∧n≤4611686018427387903) (hw:RIn p s g w) :
  Calls Tryz.prog 154 #[.pointer (some ⟨p.wB,0,none⟩),.int .i64 a,.int .i64 n] w fun e w'=>e=.returned (.bool (zmE p a n))∧Fr (fun _=>False) w w':=by
 refine enter (cx:=⟨Tryz.prog,38,w,fun _=>False,tab,[],[32,120],[],[]⟩) [(0,.pointer (some ⟨p.wB,0,none⟩)),(1,.int .i64 a),(2,.int .i64 n)] zaa Tryz.func154 rfl rfl rfl rfl (MemOk.nil w _) ?_
 have hc0:=hp.c0
 have hnb:=n_bd hp
 have hub:=zqP (c:=p.c) (by omega) hn.1
 have hw':∀ w',MemOk w (fun _=>False) [] w'→RIn p s g w':=fun w' hm' i v hv=>hm'.far (hw i v hv) (fun h=>h)
 have d1:=zlw hc0 ha
 have e1:IntKind.i64.wrap (a.tdiv p.c)=a.tdiv p.c:=IntWalk.i64_in _ (by omega)
 refine gGw ?_
 refine⟨zbl,zae _ (fun w' hm'=>zcF p s g w' hb hcb (hw' w' hm')) ?_⟩
 conv=>whnf
 refine zao zaa mixed (by kernel_rfl) rfl ?_;conv=>whnf
 refine gG0 ?_
 refine⟨_,cpg zeE (fun _ w' hm'=>zh7 p s g w' hp hb hcb (hw' w' hm')),?_⟩
 refine gGw ?_
 refine⟨_,cpg ze9 (fun _ w' hm'=>zkl n p.c w' (by omega) (by omega)),?_⟩
 refine gGw ?_
 refine⟨_,cpg zeE (fun _ w' hm'=>zh7 p s g w' hp hb hcb (hw' w' hm')),?_⟩
 refine gGw ?_
 refine fin1 rfl rfl (fun w' hm=>⟨?_,hm.fr⟩)
 rw [e1];rfl
theorem zds:Eng.Enters Tryz.prog 114:=zab fun _ _=>by kernel_rfl
theorem zri (p:WP) (s:RS) (g:RG) (a:Nat) (w:World) (hp:p.Ok) (hb:BytsIn w p.A p.bs) (ha:a+8≤p.bs.length) (hw:RIn p s g w) :
  Calls Tryz.prog 114 #[.pointer (some ⟨p.wB,0,none⟩),.int .i64 (a:Int)] w fun e w'=>e=.returned (.int .i64 (IntKind.i64.wrap (zaz p a)))∧Fr (fun _=>False) w w':=by
 refine enter (cx:=CX 26 [25] w) [(0,.pointer (some ⟨p.wB,0,none⟩)),(1,.int .i64 (a:Int))] zaa Tryz.func114 rfl rfl rfl rfl (MemOk.nil w _) ?_
 have hlen:=hp.len
 have h1:=fun m=>BytsIn.byts (cx:=CX 26 [25] w) (m:=m) hb (fun _ h=>h)
 have hpl:Pl p.A:=(h1 []).plain (by omega)
 refine gGw ?_
 refine lp zaa (γ:=Nat) (fun j=>j≤8) (fun j=>[(6,.int .i64 ((j:Int)-1)),(5,.int .u64 (getV p.bs (a+j) (8-j):Nat)),(0,.pointer (some ⟨p.wB,0,none⟩)),(1,.int .i64 (a:Int))]) (fun _=>[]) (fun j=>j) 8 (Nat.le_refl _)
  ⟨rfl,by show _=some (Value.int .u64 ((getV p.bs (a+8) 0:Nat):Int));unfold getV;rw [List.take_zero];rfl,rfl,rfl,trivial⟩ (SubM.refl _ _) ?_
 rintro i hi
 dsimp only
 refine gGw ?_
 refine br_d (fun hge=>?_) (fun hlt=>?_)
 ·obtain ⟨j,rfl⟩:∃ j,i=j+1:=⟨i-1,by omega⟩
  have ej:((j+1:Nat):Int)-1=(j:Int):=by omega
  have hv:=zhH p.bs (a+(j+1)) (k:=8-(j+1)) (by omega)
  have hs:=zgr (bs:=p.bs) (j:=a+j) (k:=8-(j+1)) (by omega)
  rw [Nat.add_assoc a j 1] at hs
  have hb8:=(p.bs.getD (a+j) 0).toNat_lt
  rw [ej]
  refine gGw ?_
  refine zai (ldF (a:=⟨p.wB,0,none⟩) zaa (hw 0 _ rfl) (fun h=>h) rfl rfl) ?_
  refine gGw ?_
  refine And.intro ⟨by omega,by omega,hpl⟩ ?_
  conv=>whnf
  refine zai ((h1 _).ld zaa rfl rfl (j:=a+j) (by omega)) ?_
  refine gGw ?_
  refine⟨j,by omega,by omega,⟨rfl,?_,rfl,rfl,trivial⟩,SubM.refl _ _⟩
  show some (Value.int .u64 _)=some (Value.int .u64 ((getV p.bs (a+j) (8-j):Nat):Int))
  rw [show 8-j=(8-(j+1))+1 by omega,hs]
  congr 2
  push_cast
  omega
 ·have hi0:i=0:=by omega
  subst hi0
  refine gGw ?_
  exact fin1 rfl rfl (fun w' hm=>⟨rfl,hm.fr⟩)
theorem zo5 {p:WP} {a n:Int} (hp:p.Ok) (hn:1≤n):zmE p a n=zau p a n:=by
 have hc0:=hp.c0
 have hu:upF' n p.c=(n+p.c-1).tdiv p.c:=by
  rw [zj0 (by omega) (by omega),Int.tdiv_eq_ediv_of_nonneg (by omega)];rfl
 have h1:1≤(n+p.c-1).tdiv p.c:=by
  rw [Int.tdiv_eq_ediv_of_nonneg (by omega)]
  exact Int.le_ediv_of_mul_le (by omega) (by omega)
 unfold zmE zau
 rw [hu,Bool.eq_iff_iff]
 simp only [Bool.and_eq_true,decide_eq_true_eq]
 omega
theorem zev {p:WP} {x:Int} (hp:p.Ok) (hx:0≤x∧x<18446744073709551616):zau p (IntKind.i64.wrap x) p.c=zau p (zaY x) p.c∧(zau p (zaY x) p.c=true→IntKind.i64.wrap x=zaY x):=by
 have hc0:=hp.c0
 have hc1:=hp.c1
 have hlen:=hp.len
 have far:∀ y:Int,4611686018427387904≤y→zau p y p.c=false:=fun y hy=>by
  rw [Bool.eq_false_iff]
  intro h
  have:=zaF hp h
  omega
 by_cases h1:x≤4611686018427387904
 ·have e1:IntKind.i64.wrap x=x:=IntWalk.i64_in _ (by omega)
  have e2:zaY x=x:=by unfold zaY;rw [if_neg (by omega)]
  rw [e1,e2]
  exact⟨rfl,fun _=>rfl⟩
 ·have e2:zaY x=4611686018427387904:=by unfold zaY;rw [if_pos (by omega)]
  rw [e2,far _ (Int.le_refl _)]
  refine⟨?_,fun h=>by cases h⟩
  by_cases h2:x<9223372036854775808
  ·rw [IntWalk.i64_in x (by omega)]
   exact far _ (by omega)
  ·have e1:IntKind.i64.wrap x=x-18446744073709551616:=by
    rw [IntKind.wrap_i64]
    omega
   rw [Bool.eq_false_iff]
   intro h
   have:=zaF hp h
   omega
end
end Go.Proofs.YtlmgelmloddfgaaGreat
namespace Go.Proofs.YtlmgelmloddfgaaGreat.Eng
open Go Go.RowKit
section anyG
variable {cx:Cx} {e:Env} {a:Act}
def zx0 (ops:List Oper) (j:Nat):Option Nat:=match nth ops j with
 | some o=>o.dst
 | none=>none
def gOk (ops:List Oper) (e:Env):Option (Nat × Bool)→Bool
 | none=>true
 | some (j,wnt)=>match zx0 ops j with
  | some s=>match e.get s with
   | some (.bool b)=>beqB b wnt
   | _=>false
  | none=>false
theorem zvK {ops:Array Oper} {o:Oper} (he:EnvOk cx.n cx.df e a) (h:gOk ops.toList e o.guard=true):Region.wanted o (yielded ops a.tmps)=true:=by
 cases hg:o.guard with
 | none=>exact za1 hg
 | some q =>
  obtain ⟨j,wnt⟩:=q
  rw [hg] at h
  change (match zp8 ops j with
   | some s=>match e.get s with
    | some (.bool b)=>beqB b wnt
    | _=>false
   | none=>false)=true at h
  split at h
  ·rename_i s hs
   split at h
   ·rename_i b hb
    rw [ziY] at h
    rw [za0 he hg hs hb]
    exact h
   ·cases h
  ·cases h
def XOs2 (cx:Cx) (mC:Mem) (dst:Option Nat) (op:Op) (e:Env) (K:Value→Prop):Prop :=
 match op with
 | .load t a=>match e.ev a with
  | some x=>∃ v,RdG cx True mC (Instr.loadAt t x) v∧K v
  | none=>False
 | .convert s d x=>match cx.tab.get d with
  | some ⟨.int _,_,_,_⟩=>zcI cx dst op e K
  | _=>match e.ev x with
   | some v=>∃ r,RdG cx True mC (convert s d v) r∧K r
   | none=>False
 | op=>zcI cx dst op e K
def zgz (cx:Cx) (mC:Mem) (ops:List Oper) (i:Nat) (ih:Env→Mem→Prop):Env→Mem→Prop:=fun e m=>match nth ops i with
 | some o=>match gOk ops e o.guard with
  | true=>XOs2 cx mC o.dst o.op e fun v=>ih (e.putD o.dst v) m
  | false=>False
 | none=>False
def zdM (cx:Cx) (mC:Mem) (ops:List Oper) (kp:List PanicEntry→Mem→Prop) (i:Nat) (ih more:Env→Mem→Prop):Env→Mem→Prop:=fun e m=>(match nth ops i with
 | some o=>match gOk ops e o.guard with
  | true=>XO cx o.dst o.op o.type e m (fun v m'=>SubM cx m' mC∧ih (e.putD o.dst v) m') kp
  | false=>False
 | none=>False)∧more e m
noncomputable def XTG (cx:Cx) (mC:Mem) (ops:List Oper) (k:Env→Mem→Prop) (kp:List PanicEntry→Mem→Prop) (t:Tr):Env→Mem→Prop :=
 Tr.rec (motive:=fun _=>Env→Mem→Prop) k (fun _ _=>True) (fun i _ ih=>zgz cx mC ops i ih) (fun i _ _ ih more=>zdM cx mC ops kp i ih more) t
theorem zxu (ht:TabOk cx.P cx.tab) {mC:Mem} {o:Oper} {e:Env} {a:Act} {K:Value→Prop} (he:EnvOk cx.n cx.df e a) (h:XOs2 cx mC o.dst o.op e K):∃ v,(∀ w,MemOk cx.w0 cx.S mC w→(execOp a.eval o).run cx.P w=.ok (.value v) w)∧K v:=by
 have viaPop:zcI cx o.dst o.op e K→∃ v,(∀ w,MemOk cx.w0 cx.S mC w→(execOp a.eval o).run cx.P w=.ok (.value v) w)∧K v:=by
  intro h
  unfold zcI at h
  split at h
  ·rename_i v hv
   exact⟨v,fun w _=>zcX ht he hv (fun p hp=>by cases hp),h⟩
  ·rename_i v p hv
   exact⟨v,fun w _=>zcX ht he hv (fun q hq=>by cases hq;exact h.1),h.2⟩
  ·exact h.elim
 unfold XOs2 at h
 split at h
 ·rename_i t x hop
  split at h
  ·rename_i u hu
   obtain ⟨v,hl,hk⟩:=h
   refine⟨v,fun w hw=>?_,hk⟩
   have:=hl trivial w hw
   unfold execOp
   rw [hop]
   simp only [he.ev hu]
   exact zf8 this
  ·exact h.elim
 ·rename_i s d x hop
  split at h
  ·exact viaPop h
  ·split at h
   ·rename_i u hu
    obtain ⟨v,hl,hk⟩:=h
    refine⟨v,fun w hw=>?_,hk⟩
    have:=hl trivial w hw
    unfold execOp
    rw [hop]
    simp only [he.ev hu]
    exact zf8 this
   ·exact h.elim
 ·exact viaPop h
theorem zyr (ht:TabOk cx.P cx.tab) {ops:Array Oper} {mC:Mem} {k:Env→Mem→Prop} {kp:List PanicEntry→Mem→Prop} (hsel:Region.noSelect ops=true) (hds:zbD cx.n ops.toList=true):∀ (t:Tr) (f:Nat) (top:Bool) (listed:Array Bool) (e:Env) (m:Mem) (a:Act) (w:World),
  Tr.chk ops t f top listed=true→EnvOk cx.n cx.df e a→MemOk cx.w0 cx.S m w→MemOk cx.w0 cx.S mC w→XTG cx mC ops.toList k kp t e m →
  (top=true→AnyC cx.P .any ops (MemOk cx.w0 cx.S mC) (QT cx k kp) f listed a w) ∧
  (top=false→∀ i∈t.heads,0<f∧wpOp cx.P ops (QT cx k kp) i (fun a' w'=>MemOk cx.w0 cx.S mC w'∧AnyC cx.P .any ops (MemOk cx.w0 cx.S mC) (QT cx k kp) (f-1) (listed.setIfInBounds i true) a' w') a w):=by
 intro t
 induction t with
 | done =>
  intro f top listed e m a w hc he hm hmC h
  simp only [Tr.chk,Bool.and_eq_true,List.isEmpty_iff] at hc
  refine⟨fun _=>?_,fun h0=>absurd (hc.1.symm.trans h0) (by decide)⟩
  have hq:QT cx k kp .normal a w:=⟨e,m,he,hm,h⟩
  cases f with
  | zero=>exact⟨hc.2,hq⟩
  | succ f=>exact⟨fun _=>hq,fun i hi=>by rw [hc.2] at hi;cases hi⟩
 | stop =>
  intro f top listed e m a w hc he hm hmC h
  simp only [Tr.chk,Bool.not_eq_true'] at hc
  exact⟨fun h0=>absurd (h0.symm.trans hc) (by decide),fun _ i hi=>by cases hi⟩
 | hoist i t ih =>
  intro f top listed e m a w hc he hm hmC h
  simp only [Tr.chk,Bool.and_eq_true,decide_eq_true_eq] at hc
  obtain ⟨⟨⟨⟨htop,hf⟩,hr⟩,hfr⟩,hc⟩:=hc
  refine⟨fun _=>?_,fun h0=>absurd (htop.symm.trans h0) (by decide)⟩
  change zgz cx mC ops.toList i (XTG cx mC ops.toList k kp t) e m at h
  unfold zgz at h
  split at h
  ·rename_i o ho
   have hi:ops[i]?=some o:=by rw [zco] at ho;simpa using ho
   split at h
   ·rename_i hg
    obtain ⟨v,hy,hk⟩:=zxu ht he h
    obtain ⟨f,rfl⟩:∃ f',f=f'+1:=⟨f-1,by omega⟩
    have hds':=zcT hds ho
    have:=(ih f true (listed.setIfInBounds i true) _ m (a.put o.dst v) w hc (he.put hds' v) hm hmC hk).1 rfl
    exact AnyC.first QT.blind hi (Region.noSelect_spec hsel) f listed a w hmC (Region.free_spec hi hfr) (by simpa using hr) ⟨zvK he hg,hy⟩ this
   ·exact h.elim
  ·exact h.elim
 | alts i t more ih ihm =>
  intro f top listed e m a w hc he hm hmC h
  simp only [Tr.chk,Bool.and_eq_true,decide_eq_true_eq] at hc
  obtain ⟨⟨⟨⟨hcov,hf⟩,hri⟩,hct⟩,hcm⟩:=hc
  change zdM cx mC ops.toList kp i (XTG cx mC ops.toList k kp t) (XTG cx mC ops.toList k kp more) e m at h
  obtain ⟨h1,h2⟩:=h
  have hmore:=(ihm f false listed e m a w hcm he hm hmC h2).2 rfl
  have hhead:wpOp cx.P ops (QT cx k kp) i (fun a' w'=>MemOk cx.w0 cx.S mC w'∧AnyC cx.P .any ops (MemOk cx.w0 cx.S mC) (QT cx k kp) (f-1) (listed.setIfInBounds i true) a' w') a w:=by
   split at h1
   ·rename_i o ho
    have hi:ops[i]?=some o:=by rw [zco] at ho;simpa using ho
    have hds':=zcT hds ho
    split at h1
    ·rename_i hg
     unfold wpOp
     simp only [hi,zvK he hg,if_true]
     refine .inl (zsZ ht he hm h1 (fun v m' w' hm' hk=>?_) (fun ch m' w' hm' hk=>⟨he.nil,m',hm',hk⟩))
     have hmC':=hk.1 w' hm'
     exact⟨hmC',(ih (f-1) true (listed.setIfInBounds i true) _ m' (a.put o.dst v) w' hct (he.put hds' v) hm' hmC' hk.2).1 rfl⟩
    ·exact h1.elim
   ·exact h1.elim
  have hall:∀ j∈(Tr.alts i t more).heads,0<f∧wpOp cx.P ops (QT cx k kp) j (fun a' w'=>MemOk cx.w0 cx.S mC w'∧AnyC cx.P .any ops (MemOk cx.w0 cx.S mC) (QT cx k kp) (f-1) (listed.setIfInBounds j true) a' w') a w:=by
   intro j hj
   rcases List.mem_cons.1 hj with rfl|hj
   ·exact⟨hf,hhead⟩
   ·exact hmore j hj
  refine⟨fun htop=>?_,fun _=>hall⟩
  subst htop
  simp only [Bool.not_true,Bool.false_or,List.all_eq_true,List.contains_iff_mem] at hcov
  obtain ⟨f,rfl⟩:∃ f',f=f'+1:=⟨f-1,by omega⟩
  have hri':i∈Region.ready .any ops listed:=by simpa using hri
  refine⟨fun h0=>(by rw [h0] at hri';cases hri'),fun j hj=>(hall j ?_).2⟩
  have:=hcov j hj
  simpa [Tr.heads] using this
theorem zcb {γ:Type} (t:Tr) (mC:Mem) (ht:TabOk cx.P cx.tab) (hmix:cx.P.follows .mixedOrders=true) {id:Nat} {ops:Array Oper} (hc:(Region.noSelect ops&&Tr.chk ops t ops.size true (Array.replicate ops.size false))=true) (hds:zbD cx.n ops.toList=true) {k:Exit→Env→Mem→Prop} {e:Env} {m:Mem}
  (I:γ→Prop) (E:γ→Env) (M:γ→Mem) (hmC:SubM cx m mC)
  (h:XTG cx mC ops.toList (fun e m=>∃ g,I g∧Env.sub (E g) e∧SubM cx m (M g)) (fun ch m=>k (.panic ch) [] m) t e m)
  (hk:∀ g,I g→k .normal (E g) (M g)):Dr cx id ops k e m:=by
 intro a w he hm
 simp only [Bool.and_eq_true] at hc
 have hm':=hm.same (zep w (w.drawn+1))
 have:=((zyr ht hc.1 hds t ops.size true _ e m a _ hc.2 he hm' (hmC _ hm') h).1 rfl).any
 refine wp_mono (wp_region_any hmix this) ?_
 intro ex a' w' hq
 cases ex with
 | normal =>
  obtain ⟨e',m',h1,h2,g,h3,h4,h5⟩:=hq
  exact⟨E g,M g,h1.sub h4,h5 _ h2,hk g h3⟩
 | panic ch =>
  obtain ⟨h1,m',h2,h3⟩:=hq
  exact⟨[],m',h1,h2,h3⟩
 | exit id=>exact hq.elim
 | goto l=>exact hq.elim
 | ret=>exact hq.elim
 | outgrown=>exact hq.elim
end anyG
end Go.Proofs.YtlmgelmloddfgaaGreat.Eng
namespace Go.Proofs.YtlmgelmloddfgaaGreat
open Go Go.RowKit Eng
section
def appR (s:RS):Ev→RS
 | .hold cl k=>{ s with holds:=s.holds++[(cl,k+1)] }
 | .find x=>{ s with finds:=s.finds++[x] }
 | .data=>if s.active then { s with data:=inc s.data } else s
 | .packed=>if s.active then { s with packed:=inc s.packed } else s
 | .zero=>if s.active then { s with zero:=inc s.zero } else s
def zav (s:RS) (l:List Ev):RS:=l.foldl appR s
theorem zbj (s:RS) (l k:List Ev):zav s (l++k)=zav (zav s l) k:=List.foldl_append
def RS.len (s:RS):Nat:=s.holds.length+s.finds.length
theorem zhM (s:RS) (e:Ev):(appR s e).len≤s.len+1:=by
 cases e<;>simp only [appR,RS.len]
 ·rw [List.length_append,List.length_singleton];omega
 ·rw [List.length_append,List.length_singleton];omega
 all_goals (split<;>exact Nat.le_succ _)
theorem zaW:∀ (l:List Ev) (s:RS),(zav s l).len≤s.len+l.length
 | [],s=>Nat.le_refl _
 | e::l,s=>by
  have h1:=zhM s e
  have h2:=zaW l (appR s e)
  show (zav (appR s e) l).len≤_
  rw [List.length_cons]
  omega
theorem zm3 {α:Type} (n:Nat) (f:Nat→α):(rng n fun i=>[f i]).length=n:=by
 induction n with
 | zero=>rfl
 | succ n ih=>rw [zb7,List.length_append,ih];rfl
attribute [local irreducible] Br Rn RnU Cl RdG CpG Ld Rd Lp Dr Oth Cut fin Fits Eng.Enters Md NA
theorem zcw:Eng.Enters Tryz.prog 117:=zab fun _ _=>by kernel_rfl
theorem zaT:Eng.Enters Tryz.prog 113:=zab fun _ _=>by kernel_rfl
theorem ze8 (p:WP) (s:RS) (g:RG) (k a:Int) (w:World) (hl:s.len≤30000000000) (hm:MemOk w (Foot (rM p s g)) (rM p s g) w) :
  Ctr Tryz.prog 117 [.pointer (some ⟨p.wB,0,none⟩),.int .i64 k,.int .i64 a] (rM p s g) (RwR p (.tuple #[]) (appR s (.find ⟨k,a,0,0⟩))) w:=by
 refine enter (cx:=CXS 18 [] w (Foot (rM p s g))) [(0,.pointer (some ⟨p.wB,0,none⟩)),(1,.int .i64 k),(2,.int .i64 a)] zaa Tryz.func117 rfl rfl rfl rfl hm ?_
 have hl1:s.finds.length≤30000000000:=by unfold RS.len at hl;omega
 refine gGw ?_;(repeat ((first|refine .mk fun Ap capp=>?_|intro _);(conv=>whnf);refine gG0 ?_))
 have el:(s.finds++[(⟨k,a,0,0⟩:Fi)]).flatMap Fi.cs=s.finds.flatMap Fi.cs++Fi.cs ⟨k,a,0,0⟩:=by rw [List.flatMap_append];simp
 have ll:(s.finds++[(⟨k,a,0,0⟩:Fi)]).length=s.finds.length+1:=by simp
 refine fin0 rfl (fun w' hm=>⟨_,⟨rfl,{ g with fA:=Ap,fc:=capp },rfl⟩,?_⟩) (by first|exact .inl rfl|exact .inr rfl)
 unfold appR
 simp only [rM,zil,el,ll]
 exact hm.sl
theorem zbw (p:WP) (s:RS) (g:RG) (a n k t:Int) (w:World) (hp:p.Ok) (hlb:p.bs.length≤1000000) (hb:p.h.bits≤60) (hcb:p.c=clus p.h.bits) (hl:s.len≤20000000000) (ha:-9223372036854775808≤a∧a≤9223372036854775807) (hn:1≤n∧n≤4611686018427387903) (hk:0≤k∧k≤100) (hm:MemOk w (Foot (rM p s g)) (rM p s g) w) :
  Ctr Tryz.prog 113 [.pointer (some ⟨p.wB,0,none⟩),.int .i64 a,.int .i64 n,.int .i64 (k+1),.int .i64 t] (rM p s g) (RwR p (.bool (zau p a n)) (zav s (tRun p a n t k))) w:=by
 refine enter (cx:=⟨Tryz.prog,49,w,Foot (rM p s g),tab,[],[120],[],[]⟩) [(0,.pointer (some ⟨p.wB,0,none⟩)),(1,.int .i64 a),(2,.int .i64 n),(3,.int .i64 (k+1)),(4,.int .i64 t)] zaa Tryz.func113 rfl rfl rfl rfl hm ?_
 have hc0:=hp.c0
 have hnb:=n_bd hp
 have hub:=zqP (c:=p.c) (by omega) (show 0≤n by omega)
 have d1:=zlw hc0 ha
 have e1:IntKind.i64.wrap (a.tdiv p.c)=a.tdiv p.c:=IntWalk.i64_in _ (by omega)
 refine gGw ?_
 refine⟨zmU,zae _ (fun w' hm'=>zui p s g a n w' hp hb hcb ha (by omega) (zdw (r:=[]) hm')) ?_⟩
 rw [zo5 hp hn.1]
 refine gGw ?_
 cases hw:zau p a n with
 | false =>
  refine br_n (br_f rfl ?_)
  refine gGw ?_
  refine⟨zcw,zac (m1:=rM p s g) (by repeat constructor) (fun w' hm'=>ze8 p s g 1 t w' (by omega) hm'.part) ?_⟩
  rintro e m' ⟨rfl,g',rfl⟩
  refine gGw ?_
  refine fin1 rfl rfl (fun w' hm=>⟨_,⟨rfl,g',?_⟩,hm⟩)
  unfold tRun
  rw [hw];rfl
 | true =>
  refine br_n (br_t rfl ?_)
  refine gGw ?_
  refine⟨zbl,zae _ (fun w' hm'=>zcF p s g w' hb hcb (zdw (r:=[]) hm')) ?_⟩
  refine gGw ?_
  have hin:=withinF_iff.1 hw
  have hq0:0≤a.tdiv p.c:=by rw [Int.tdiv_eq_ediv_of_nonneg (by omega)];exact Int.ediv_nonneg (by omega) (by omega)
  have hu:upF' n p.c=((upC p n:Nat):Int):=by
   unfold upC
   rw [zj0 (by omega) (by omega),Int.tdiv_eq_ediv_of_nonneg (by omega)]
   have:0≤(n+p.c-1)/p.c:=Int.ediv_nonneg (by omega) (by omega)
   show (n+p.c-1)/p.c=_
   omega
  have hun:(upC p n:Int)≤p.n:=by
   have h4:=hin.2.2.2
   unfold upC
   have:0≤(n+p.c-1).tdiv p.c:=by rw [Int.tdiv_eq_ediv_of_nonneg (by omega)];exact Int.ediv_nonneg (by omega) (by omega)
   omega
  have eT:zav s (tRun p a n t k)=zav s (rng (upC p n) fun i=>[.hold (a.tdiv p.c+i) k]):=by unfold tRun;rw [hw];rfl
  rw [eT,e1]
  clear eT
  refine lp zaa (γ:=Nat × RG) (fun q=>q.1≤upC p n) (fun q=>[(12,.int .i64 (a.tdiv p.c+q.1)),(11,.int .i64 p.c),(0,.pointer (some ⟨p.wB,0,none⟩)),(1,.int .i64 a),(2,.int .i64 n),(3,.int .i64 (k+1))])
   (fun q=>rM p (zav s (rng q.1 fun i=>[.hold (a.tdiv p.c+i) k])) q.2) (fun q=>upC p n-q.1) (0,g) (Nat.zero_le _) ⟨by show _=some (Value.int .i64 (a.tdiv p.c+0));rw [Int.add_zero];rfl,rfl,rfl,rfl,rfl,rfl,trivial⟩ SubM.sl ?_
  rintro ⟨i,g2⟩ hi
  simp only at hi
  have hlen:=zaW (rng i fun i=>[Ev.hold (a.tdiv p.c+i) k]) s
  rw [zm3] at hlen
  have es:zav s (rng (i+1) fun i=>[.hold (a.tdiv p.c+i) k])=appR (zav s (rng i fun i=>[.hold (a.tdiv p.c+i) k])) (.hold (a.tdiv p.c+i) k):=by rw [zb7,zbj];rfl
  dsimp only
  generalize hS:zav s (rng i fun i=>[.hold (a.tdiv p.c+i) k])=s2 at hlen es ⊢
  have hl2:s2.holds.length≤25000000000:=by unfold RS.len at hlen hl;omega
  conv=>whnf
  refine zao zaa mixed (by kernel_rfl) rfl ?_;conv=>whnf
  refine gG0 ?_
  refine⟨_,cpg ze9 (fun _ w' hm'=>zkl n p.c w' (by omega) (by omega)),?_⟩
  refine gGw ?_
  rw [e1,hu]
  refine br_d (fun hlt=>?_) (fun hge=>?_)
  ·refine gGw ?_;(repeat ((first|refine .mk fun Ap capp=>?_|intro _);(conv=>whnf);refine gG0 ?_))
   have el:(s2.holds++[(a.tdiv p.c+(i:Int),k+1)]).flatMap hdC=s2.holds.flatMap hdC++hdC (a.tdiv p.c+i,k+1):=by rw [List.flatMap_append];simp
   have ll:(s2.holds++[(a.tdiv p.c+(i:Int),k+1)]).length=s2.holds.length+1:=by simp
   refine⟨(i+1,{ g2 with hA:=Ap,hc:=capp }),by show i+1≤upC p n;omega,by show upC p n-(i+1)<upC p n-i;omega,⟨?_,rfl,rfl,rfl,rfl,rfl,trivial⟩,?_⟩
   ·show some _=some (Value.int .i64 (a.tdiv p.c+((i+1:Nat):Int)))
    refine congrArg (fun x=>some (Value.int .i64 x)) ?_
    push_cast
    omega
   ·show SubM _ _ (rM p (zav s (rng (i+1) fun i=>[.hold (a.tdiv p.c+i) k])) _)
    rw [es]
    unfold appR
    simp only [rM,zil,el,ll]
    exact SubM.sl
  ·have ei:i=upC p n:=by omega
   refine gGw ?_
   subst ei
   exact fin1 rfl rfl (fun w' hm=>⟨_,⟨rfl,g2,by rw [hS]⟩,hm⟩)
end
section
def putB (s:RS) (b:List Int):RS:={ s with blocks:=b }
theorem zsV (s:RS) (b:List Int) (e:Ev):appR (putB s b) e=putB (appR s e) b:=by
 cases e<;>cases h:s.active<;>simp [appR,putB,h]
theorem zjV (b:List Int):∀ (l:List Ev) (s:RS),zav (putB s b) l=putB (zav s l) b
 | [],_=>rfl
 | e::l,s=>by
  show zav (appR (putB s b) e) l=_
  rw [zsV]
  exact zjV b l (appR s e)
theorem znN (s:RS) (e:Ev):(appR s e).blocks=s.blocks:=by
 cases e<;>simp only [appR]
 all_goals (split<;>rfl)
theorem ze4:∀ (l:List Ev) (s:RS),(zav s l).blocks=s.blocks
 | [],_=>rfl
 | e::l,s=>by
  show (zav (appR s e) l).blocks=_
  rw [ze4 l,znN]
theorem zlZ (s:RS):putB s s.blocks=s:=rfl
def znM (p:WP) (a:Int):Int:=if zaz p a=0 then 0 else if zau p (zaY (zaz p a)) p.c then zaY (zaz p a) else 0
def zg2 (p:WP) (n:Nat):List Int:=(List.range n).map fun i=>znM p (p.h.counts+8*(i:Nat))
theorem zsO (p:WP) (n:Nat):(zg2 p n).length=n:=by simp [zg2]
theorem zqv (p:WP) (n:Nat):zg2 p (n+1)=zg2 p n++[znM p (p.h.counts+8*(n:Nat))]:=by
 unfold zg2
 rw [List.range_succ,List.map_append];rfl
def zyi (p:WP):List Int:=if zau p p.h.counts (p.h.countsLen*p.c) then zg2 p (p.h.countsLen*p.c/8).toNat else []
theorem zkk (p:WP) (s:RS) (g:RG) (a:Int) (w:World) (hp:p.Ok) (hb:BytsIn w p.A p.bs) (ha:0≤a∧a+8≤p.bs.length) (hw:RIn p s g w) :
  Calls Tryz.prog 114 #[.pointer (some ⟨p.wB,0,none⟩),.int .i64 a] w fun e w'=>e=.returned (.int .i64 (IntKind.i64.wrap (zaz p a)))∧Fr (fun _=>False) w w':=by
 obtain ⟨n,rfl⟩:∃ n:Nat,a=(n:Int):=⟨a.toNat,by omega⟩
 exact zri p s g n w hp hb (by omega) hw
theorem zb6 {p:WP} (hp:p.Ok) (a n t k:Int):((tRun p a n t k).length:Int)≤p.n+1:=by
 have hnb:=n_bd hp
 unfold tRun
 split
 ·rename_i h
  rw [zm3]
  have h1:=withinF_iff.1 h
  have hc0:=hp.c0
  unfold upC
  have h2:0≤a.tdiv p.c:=by rw [Int.tdiv_eq_ediv_of_nonneg (by omega)];exact Int.ediv_nonneg (by omega) (by omega)
  omega
 ·simp only [List.length_singleton];omega
theorem zjs {p:WP} (hp:p.Ok) {x:Int} (hx:0≤x∧x<18446744073709551616) (t k:Int):tRun p (IntKind.i64.wrap x) p.c t k=tRun p (zaY x) p.c t k:=by
 obtain ⟨h1,h2⟩:=zev hp hx
 unfold tRun
 rw [h1]
 split
 ·rename_i h
  rw [h2 h]
 ·rfl
abbrev BInR (p:WP) (s:RS) (g:RG) (w:World):Prop:=Stb (rM p s g) w (fun w=>BytsIn w p.A p.bs)
theorem zpj {p:WP} (hp:p.Ok) (a:Int):((zbo p a).length:Int)≤p.n+1:=by
 have hnb:=n_bd hp
 unfold zbo
 split
 ·simp only [List.length_nil];omega
 ·exact zb6 hp ..
theorem zig {α:Type} {f:Nat→List α} {M:Nat}:∀ n:Nat,(∀ i,(f i).length≤M)→(rng n f).length≤n*M
 | 0,_=>by rw [zuq];simp
 | n+1,h=>by
  rw [zb7,List.length_append,Nat.add_mul,Nat.one_mul]
  have:=zig n h
  have:=h n
  omega
theorem zkA {cx:Cx} {p:WP} {m:Mem} (S:RS) (x:Int) (g:RG) {m1 r:Mem} (h:Sel m m1 r) (he:m1=[.blk p.wB (.cells ([.slice p.A p.bs.length p.cap,.int .i64 p.h.bits,.int .u64 p.h.flags,.int .i64 p.h.size,.int .i64 p.h.l1,.int .i64 p.h.l1len,.int .i64 p.h.order,.int .i64 p.h.counts,.int .i64 p.h.countsLen,.int .i64 p.h.snaps,.int .i64 p.h.snapsAt,.int .i64 p.h.snapsLen,.int .i64 p.h.bitmaps,.int .i64 p.h.bitmapsAt,.int .i64 p.h.bitmapsLen,.string p.h.backing,.slice g.hA S.holds.length g.hc,.slice g.fA S.finds.length g.fc,.slice none 0 0,.bool false,.int .i64 0,.int .i64 0,.int .i64 S.data,.int .i64 S.packed,.int .i64 S.zero,.bool S.active,.slice g.bA (S.blocks.length+1) g.bc]:List Value).toArray 81),.row g.hA g.hc S.holds.length 83 2 (S.holds.flatMap hdC),.row g.fA g.fc S.finds.length 61 4 (S.finds.flatMap Fi.cs),.row g.bA g.bc (S.blocks.length+1) 2 1 (S.blocks.map (.int .i64)++[.int .i64 x])]):SubM cx m (rM p (putB S (S.blocks++[x])) g):=by
 subst he
 unfold putB
 simp only [rM,zil,List.length_append,List.length_singleton,List.map_append,List.map_cons,List.map_nil]
 exact SubM.sel h
def zcc (p:WP) (s:RS):RS:=putB (zav s (zbk p)) (s.blocks++zyi p)
attribute [local irreducible] Br Rn RnU Cl RdG CpG Ld Rd Lp Dr Oth Cut fin Fits Eng.Enters Md NA
theorem zlD:Eng.Enters Tryz.prog 68:=zab fun _ _=>by kernel_rfl
set_option maxHeartbeats 1000000 in
theorem zrj (p:WP) (s:RS) (g:RG) (w:World) (hp:p.Ok) (hlb:p.bs.length≤20000) (hbits:p.h.bits≤60) (hcb:p.c=clus p.h.bits) (hl:s.len≤10000000000) (hbl:s.blocks=[]) (hb:BInR p s g w) (hm:MemOk w (Foot (rM p s g)) (rM p s g) w) :
  Ctr Tryz.prog 68 [.pointer (some ⟨p.wB,0,none⟩)] (rM p s g) (RwR p (.tuple #[]) (zcc p s)) w:=by
 refine enter (cx:=⟨Tryz.prog,66,w,Foot (rM p s g),tab,[],[71],[],[]⟩) [(0,.pointer (some ⟨p.wB,0,none⟩))] zaa Tryz.func68 rfl rfl rfl rfl hm ?_
 have hc0:=hp.c0
 have hc1:=hp.c1
 have hc8:=hp.c8
 have hcs:=hp.cs
 have hcl:=hp.cl
 have hlen:=hp.len
 have hnb:0≤p.n∧p.n≤39:=by
  rw [hp.n]
  refine⟨Int.ediv_nonneg (by omega) (by omega),?_⟩
  have h1:=Int.mul_ediv_add_emod (p.bs.length:Int) p.c
  have h2:=Int.emod_nonneg (p.bs.length:Int) (show p.c≠0 by omega)
  have h3:512*((p.bs.length:Int)/p.c)≤p.c*((p.bs.length:Int)/p.c):=Int.mul_le_mul_of_nonneg_right hc0 (Int.ediv_nonneg (by omega) (by omega))
  omega
 obtain ⟨L,hL⟩:∃ L,L=p.h.countsLen*p.c:=⟨_,rfl⟩
 have hL0:512≤L:=by
  rw [hL]
  have h1:1*p.c≤p.h.countsLen*p.c:=Int.mul_le_mul_of_nonneg_right hcl.1 (by omega)
  omega
 have hL1:L≤4294967296:=by
  rw [hL]
  have h1:p.h.countsLen*p.c≤65536*p.c:=Int.mul_le_mul_of_nonneg_right hcl.2 (by omega)
  omega
 have hL8:L%8=0:=by rw [hL,Int.mul_emod,hc8];simp
 conv=>whnf
 refine zao zaa mixed (by kernel_rfl) rfl ?_;conv=>whnf
 refine gG0 ?_
 refine⟨_,cpg zbl (fun _ w' hm'=>zcF p s g w' hbits hcb (zdw (r:=[]) hm')),?_⟩
 conv=>whnf
 (repeat ((first|refine And.intro (zaB (by rw [← hL];omega)) ?_|refine gG1 ?_|refine .mk fun Ap capp=>?_|intro _);conv=>whnf))
 rw [← hL]
 refine⟨zaT,zac (m1:=rM p s g) (by repeat constructor) (fun w' hm'=>zbw p s g p.h.counts L 0 40 w' hp (by omega) hbits hcb (by omega) (by omega) (by omega) (by omega) hm'.part) ?_⟩
 rintro e m' ⟨rfl,g1,rfl⟩
 unfold zcc zbk zyi
 rw [← hL]
 have hln:=zaW (tRun p p.h.counts L 40 0) s
 have htl:=zb6 hp p.h.counts L 40 0
 have hbk:=(ze4 (tRun p p.h.counts L 40 0) s).trans hbl
 rw [zbj]
 generalize zav s (tRun p p.h.counts L 40 0)=s1 at hln hbk ⊢
 refine gGw ?_
 refine br_n (br (fun hok=>?_) (fun hok=>?_))
 ·have hle:=zaF hp hok
  rw [if_pos hok,if_pos hok,hbl,List.nil_append]
  clear hok
  refine gGw ?_
  have e8:L.tdiv 8=L/8:=Int.tdiv_eq_ediv_of_nonneg (by omega)
  refine lp zaa (γ:=Nat × RG) (fun q=>(q.1:Int)≤L/8)
   (fun q=>[(3,.int .i64 (q.1:Int)),(2,.int .i64 L),(0,.pointer (some ⟨p.wB,0,none⟩))]) (fun q=>rM p (putB (zav s1 (rng q.1 fun i=>zbo p (p.h.counts+8*(i:Nat)))) (zg2 p q.1)) q.2) (fun q=>(L/8).toNat-q.1) (0,g1) (by simp only;omega) ⟨rfl,rfl,rfl,trivial⟩ ?_ ?_
  ·show SubM _ _ (rM p (putB s1 []) g1)
   rw [← hbk,zlZ]
   exact SubM.sl
  rintro ⟨i,g2⟩ hi
  simp only at hi
  have hln2:=zaW (rng i fun i=>zbo p (p.h.counts+8*(i:Nat))) s1
  have hln3:=zig (f:=fun i=>zbo p (p.h.counts+8*(i:Nat))) (M:=40) i (fun i=>by have:=zpj hp (p.h.counts+8*(i:Nat));omega)
  obtain ⟨S,hS⟩:∃ S,S=putB (zav s1 (rng i fun i=>zbo p (p.h.counts+8*(i:Nat)))) (zg2 p i):=⟨_,rfl⟩
  have hSl:S.len≤14000000000:=by rw [hS];show (zav s1 _).len≤_;omega
  have hSb:S.blocks=zg2 p i:=by rw [hS];rfl
  have hSbl:S.blocks.length≤600000000:=by rw [hSb,zsO];omega
  dsimp only
  have eN:putB (zav s1 (rng (i+1) fun i=>zbo p (p.h.counts+8*(i:Nat)))) (zg2 p (i+1))=putB (zav S (zbo p (p.h.counts+8*(i:Nat)))) (S.blocks++[znM p (p.h.counts+8*(i:Nat))]):=by
   rw [zb7,zbj,zqv,hSb,hS,zjV];rfl
  rw [← hS]
  refine gGw ?_
  have ew:IntKind.i64.wrap (L.tdiv 8)=L/8:=by rw [e8];exact IntWalk.i64_in _ (by omega)
  rw [ew]
  refine br_d (fun hlt=>?_) (fun hge=>?_)
  ·refine gGw ?_
   refine⟨zds,zae _ (fun w' hm'=>zkk p S g2 (p.h.counts+8*(i:Int)) w' hp (hb w' hm'.fr) (by omega) (zdw (r:=[]) hm')) ?_⟩
   have hwb:=zd8 p (p.h.counts+8*(i:Int))
   have hwr:=IntKind.wrap_i64 (zaz p (p.h.counts+8*(i:Int)))
   have hpl:=zjs hp hwb (p.h.counts+8*(i:Int)) 0
   have hpw:=zev hp hwb
   have hx0:zaz p (p.h.counts+8*(i:Int))≠0→¬ IntKind.i64.wrap (zaz p (p.h.counts+8*(i:Int)))=0:=fun h=>by rw [hwr];omega
   by_cases hz:zaz p (p.h.counts+8*(i:Int))=0
   ·have eC:zbo p (p.h.counts+8*(i:Nat))=[]:=by unfold zbo;rw [if_pos hz]
    have eB:znM p (p.h.counts+8*(i:Nat))=0:=by unfold znM;rw [if_pos hz]
    rw [eC,eB] at eN
    rw [hz] at hwr
    have h0:IntKind.i64.wrap 0=0:=by rw [hwr];rfl
    rw [hz,h0]
    conv=>whnf
    refine zao zaa mixed (by kernel_rfl) rfl ?_;conv=>whnf
    refine gG0 ?_
    refine br_f rfl ?_
    refine gGw ?_
    refine br_f rfl ?_
    refine gGw ?_;(repeat ((first|refine .mk fun Ap capp=>?_|intro _);(conv=>whnf);refine gG0 ?_))
    refine⟨(i+1,{ g2 with bA:=Ap,bc:=capp }),by show ((i+1:Nat):Int)≤L/8;omega,by show (L/8).toNat-(i+1)<(L/8).toNat-i;omega,⟨congrArg (fun x=>some (Value.int .i64 x)) (by push_cast;rfl),rfl,rfl,trivial⟩,?_⟩
    show SubM _ _ (rM p (putB (zav s1 (rng (i+1) fun i=>zbo p (p.h.counts+8*(i:Nat)))) (zg2 p (i+1))) _)
    rw [eN]
    exact zkA S _ _ (by repeat constructor) rfl
   ·have hx0:=hx0 hz
    conv=>whnf
    refine zcb (γ:=RG) (Tr.hs [0,1,2,3,4,5,7,8,9,10,12,13] (.alts 6 (.sq [11] (.hs [14] (.sq [15] (.hs [16,17] .done)))) (.alts 11 (.hs [14] (.sq [6,15] (.hs [16,17] .done))) .stop))) [] zaa mixed (by kernel_rfl) rfl (fun _=>True)
     (fun _=>[(55,.bool (!zau p (IntKind.i64.wrap (zaz p (p.h.counts+8*(i:Int)))) p.c)),(4,.int .i64 (IntKind.i64.wrap (zaz p (p.h.counts+8*(i:Int))))),(3,.int .i64 (i:Int)),(2,.int .i64 L),(0,.pointer (some ⟨p.wB,0,none⟩))]) (fun g3=>rM p (zav S (tRun p (IntKind.i64.wrap (zaz p (p.h.counts+8*(i:Int)))) p.c (p.h.counts+8*(i:Int)) 0)) g3) SubM.sl ?_ ?_
    ·refine gGw ?_
     rw [decide_eq_false hx0]
     refine gGw ?_
     refine⟨?_,?_⟩
     ·refine⟨zbl,zae _ (fun w' hm'=>zcF p S g2 w' hbits hcb (zdw (r:=[]) hm')) ?_⟩
      conv=>whnf
      refine gGs ?_
      refine gGt ?_
      refine⟨zaT,zac (m1:=rM p S g2) (by repeat constructor) (fun w' hm'=>zbw p S g2 _ p.c 0 (p.h.counts+8*(i:Int)) w' hp (by omega) hbits hcb (by omega) (by rw [hwr];omega) (by omega) (by omega) hm'.part) ?_⟩
      rintro e m' ⟨rfl,g3,rfl⟩
      conv=>whnf
      refine gGs ?_
      refine gGw ?_
      exact⟨g3,trivial,⟨rfl,rfl,rfl,rfl,rfl,trivial⟩,SubM.sl⟩
     ·refine⟨?_,trivial⟩
      refine gGt ?_
      refine⟨zbl,zae _ (fun w' hm'=>zcF p S g2 w' hbits hcb (zdw (r:=[]) hm')) ?_⟩
      conv=>whnf
      refine gGs ?_
      refine gGt ?_
      refine⟨zaT,zac (m1:=rM p S g2) (by repeat constructor) (fun w' hm'=>zbw p S g2 _ p.c 0 (p.h.counts+8*(i:Int)) w' hp (by omega) hbits hcb (by omega) (by rw [hwr];omega) (by omega) (by omega) hm'.part) ?_⟩
      rintro e m' ⟨rfl,g3,rfl⟩
      conv=>whnf
      refine gGs ?_
      refine gGw ?_
      exact⟨g3,trivial,⟨rfl,rfl,rfl,rfl,rfl,trivial⟩,SubM.sl⟩
    ·intro g3 _
     have eC:tRun p (IntKind.i64.wrap (zaz p (p.h.counts+8*(i:Int)))) p.c (p.h.counts+8*(i:Int)) 0=zbo p (p.h.counts+8*(i:Nat)):=by unfold zbo;rw [if_neg hz,hpl]
     rw [eC]
     have eB:znM p (p.h.counts+8*(i:Nat))=if zau p (zaY (zaz p (p.h.counts+8*(i:Int)))) p.c then zaY (zaz p (p.h.counts+8*(i:Int))) else 0:=by unfold znM;rw [if_neg hz]
     rw [eB] at eN
     have hTb:(zav S (zbo p (p.h.counts+8*(i:Nat)))).blocks=S.blocks:=ze4 _ _
     generalize zav S (zbo p (p.h.counts+8*(i:Nat)))=S3 at eN hTb ⊢
     rw [← hTb] at eN hSbl
     rw [hpw.1]
     refine gGw ?_
     refine br_n (br (fun hok=>?_) (fun hok=>?_))
     ·rw [if_pos hok] at eN
      rw [hpw.2 hok]
      refine gGw ?_;(repeat ((first|refine .mk fun Ap capp=>?_|intro _);(conv=>whnf);refine gG0 ?_))
      refine⟨(i+1,{ g3 with bA:=Ap,bc:=capp }),by show ((i+1:Nat):Int)≤L/8;omega,by show (L/8).toNat-(i+1)<(L/8).toNat-i;omega,⟨congrArg (fun x=>some (Value.int .i64 x)) (by push_cast;rfl),rfl,rfl,trivial⟩,?_⟩
      show SubM _ _ (rM p (putB (zav s1 (rng (i+1) fun i=>zbo p (p.h.counts+8*(i:Nat)))) (zg2 p (i+1))) _)
      rw [eN]
      exact zkA S3 _ _ (by repeat constructor) rfl
     ·rw [if_neg (by rw [hok];decide)] at eN
      refine gGw ?_;(repeat ((first|refine .mk fun Ap capp=>?_|intro _);(conv=>whnf);refine gG0 ?_))
      refine⟨(i+1,{ g3 with bA:=Ap,bc:=capp }),by show ((i+1:Nat):Int)≤L/8;omega,by show (L/8).toNat-(i+1)<(L/8).toNat-i;omega,⟨congrArg (fun x=>some (Value.int .i64 x)) (by push_cast;rfl),rfl,rfl,trivial⟩,?_⟩
      show SubM _ _ (rM p (putB (zav s1 (rng (i+1) fun i=>zbo p (p.h.counts+8*(i:Nat)))) (zg2 p (i+1))) _)
      rw [eN]
      exact zkA S3 _ _ (by repeat constructor) rfl
  ·have ei:i=(L/8).toNat:=by omega
   refine gGw ?_
   refine fin0 rfl (fun w' hm=>⟨_,⟨rfl,g2,?_⟩,hm⟩) (by first|exact .inl rfl|exact .inr rfl)
   rw [hS,ei]
 ·refine gGw ?_
  refine fin0 rfl (fun w' hm=>⟨_,⟨rfl,g1,?_⟩,hm⟩) (by first|exact .inl rfl|exact .inr rfl)
  rw [hok,hbl]
  show rM p s1 g1=rM p (putB s1 []) g1
  rw [← hbk,zlZ]
end
section
def zfo (e:En) (bits:Int):Bool :=
 if bits<9∨16<bits then false
 else if e.kind=0∨e.kind=1 then decide (e.place=0)&&decide (e.len=0)
 else if e.kind=2 then decide (e.len=0)&&plB e.place (clus bits)
 else if e.kind=3 then decide (1≤e.len)&&decide (e.len≤16383)&&decide (e.len<clus bits)&&decide (clus bits≤e.place)&&decide (e.place≤268435456-e.len)&&decide (e.place.tmod (clus bits)+e.len≤clus bits)
 else false
theorem zrk {p l c:Int} (hc:0<c) (hp:0≤p) (hl:1≤l):p.tdiv c=(p+l-1).tdiv c↔p.tmod c+l≤c:=by
 rw [Int.tdiv_eq_ediv_of_nonneg hp,Int.tdiv_eq_ediv_of_nonneg (by omega),Int.tmod_eq_emod_of_nonneg hp]
 have h1:=Int.mul_ediv_add_emod p c
 have h2:=Int.emod_nonneg p (show c≠0 by omega)
 have h3:=Int.emod_lt_of_pos p hc
 generalize p%c=r at h1 h2 h3 ⊢
 generalize hq:p/c=q at h1 ⊢
 have e:p+l-1=(r+l-1)+c*q:=by omega
 rw [e,Int.add_mul_ediv_left _ _ (by omega)]
 constructor
 ·intro h
  have h4:(r+l-1)/c=0:=by omega
  have h5:=Int.mul_ediv_add_emod (r+l-1) c
  have h6:=Int.emod_lt_of_pos (r+l-1) hc
  rw [h4] at h5
  omega
 ·intro h
  rw [Int.ediv_eq_zero_of_lt (by omega) (by omega)];omega
attribute [local irreducible] Br Rn RnU Cl RdG CpG Ld Rd Lp Dr Oth Cut fin Fits Eng.Enters Md NA
theorem zkq:Eng.Enters Tryz.prog 209:=zab fun _ _=>by kernel_rfl
theorem zeI:Eng.Enters Tryz.prog 186:=zab fun _ _=>by kernel_rfl
theorem zbR:Eng.Enters Tryz.prog 187:=zab fun _ _=>by kernel_rfl
theorem zpE (bits:Int) (w:World):Calls Tryz.prog 209 #[.int .i64 bits] w fun e w'=>e=.returned (.bool (decide (9≤bits)&&decide (bits≤16)))∧Fr (fun _=>False) w w':=by
 refine enter (cx:=CX 9 [] w) [(0,.int .i64 bits)] zaa Tryz.func209 rfl rfl rfl rfl (MemOk.nil w _) ?_
 refine gGw ?_
 exact fin1 rfl rfl (fun w' hm=>⟨rfl,hm.fr⟩)
set_option maxHeartbeats 2000000 in
theorem zie (e:En) (bits:Int) (w:World) (hl:-4611686018427387904≤e.len∧e.len≤4611686018427387904) (hp:-4611686018427387904≤e.place∧e.place≤9223372036854775807) :
  Calls Tryz.prog 186 #[e.val,.int .i64 bits] w fun e' w'=>e'=.returned (.bool (zfo e bits))∧Fr (fun _=>False) w w':=by
 refine enter (cx:=⟨Tryz.prog,76,w,fun _=>False,tab,[],[73],[],[]⟩) [(0,e.val),(1,.int .i64 bits)] zaa Tryz.func186 rfl rfl rfl rfl (MemOk.nil w _) ?_
 refine gGw ?_;(repeat ((first|refine .mk fun Ap capp=>?_|intro _);(conv=>whnf);refine gG0 ?_))
 refine⟨zkq,zae _ (fun w' _=>zpE bits w') ?_⟩
 refine gGw ?_
 by_cases hb:bits<9∨16<bits
 ·have hno:zfo e bits=false:=if_pos hb
  have hcd:(decide (9≤bits)&&decide (bits≤16))=false:=by
   simp only [Bool.and_eq_false_iff,decide_eq_false_iff_not];omega
  refine br_n (br_f hcd ?_)
  refine gGw ?_
  exact fin1 rfl rfl (fun w' hm=>⟨by rw [hno],hm.fr⟩)
 have hbb:9≤bits∧bits≤16:=by omega
 have hm:zfo e bits=if e.kind=0∨e.kind=1 then decide (e.place=0)&&decide (e.len=0)
  else if e.kind=2 then decide (e.len=0)&&plB e.place (clus bits)
  else if e.kind=3 then decide (1≤e.len)&&decide (e.len≤16383)&&decide (e.len<clus bits)&&decide (clus bits≤e.place)&&decide (e.place≤268435456-e.len)&&decide (e.place.tmod (clus bits)+e.len≤clus bits)
  else false:=if_neg hb
 have hcb:=zc0 hbb
 rw [hm]
 refine br_n (br_t (by rw [decide_eq_true hbb.1,decide_eq_true hbb.2];rfl) ?_)
 refine gGw ?_
 refine⟨zbH,zae _ (fun w' _=>zcM bits w' (by omega)) ?_⟩
 refine gGw ?_
 by_cases k0:e.kind=0
 ·rw [if_pos (.inl k0)]
  refine br_t (decide_eq_true k0) ?_
  refine gGw ?_
  refine br_t (decide_eq_true k0) ?_
  refine gGw ?_
  exact fin1 rfl rfl (fun w' hm=>⟨rfl,hm.fr⟩)
 refine br_f (decide_eq_false k0) ?_
 refine gGw ?_
 by_cases k1:e.kind=1
 ·rw [if_pos (.inr k1)]
  refine br_t (decide_eq_true k1) ?_
  refine gGw ?_
  exact fin1 rfl rfl (fun w' hm=>⟨rfl,hm.fr⟩)
 rw [if_neg (by omega)]
 refine br_f (decide_eq_false k1) ?_
 refine gGw ?_
 by_cases k2:e.kind=2
 ·rw [if_pos k2]
  refine br_t (decide_eq_true k2) ?_
  refine gGw ?_
  refine⟨_,cpg zbi (fun _ w' _=>zcf e.place bits w' (by omega)),?_⟩
  refine gGw ?_
  exact fin1 rfl rfl (fun w' hm=>⟨rfl,hm.fr⟩)
 rw [if_neg k2]
 refine br_f (decide_eq_false k2) ?_
 refine gGw ?_
 by_cases k3:e.kind=3
 ·rw [if_pos k3]
  refine br_t (decide_eq_true k3) ?_
  refine gGw ?_
  refine zao zaa mixed (by kernel_rfl) rfl ?_;conv=>whnf
  refine gG0 ?_
  refine And.intro (fun hg=>zaB (by
   simp only [Bool.and_eq_true,decide_eq_true_eq] at hg
   rw [Int.tmod_eq_emod_of_nonneg (by omega)]
   have h1:=Int.emod_nonneg e.place (show clus bits≠0 by omega)
   have h2:=Int.emod_lt_of_pos e.place (show 0<clus bits by omega)
   omega)) ?_
  refine gGw ?_
  exact fin1 rfl rfl (fun w' hm=>⟨rfl,hm.fr⟩)
 ·rw [if_neg k3]
  refine br_f (decide_eq_false k3) ?_
  refine gGw ?_
  exact fin1 rfl rfl (fun w' hm=>⟨rfl,hm.fr⟩)
theorem zuO (e:En) (bits:Int) (hk:0≤e.kind∧e.kind≤3):zfo e bits=decide (entE e bits=0):=by
 unfold zfo entE
 by_cases hb:bits<9∨16<bits
 ·rw [if_pos hb,if_pos hb];rfl
 rw [if_neg hb,if_neg hb]
 have hcb:=zc0 (bits:=bits) (by omega)
 have e1:∀ b:Bool,decide ((if b=true then (0:Int) else 2)=0)=b:=fun b=>by cases b<;>rfl
 rw [e1]
 unfold zdL
 split
 ·rfl
 ·split
  ·rw [← zon]
   simp only [Bool.and_assoc]
  ·split
   ·rw [Bool.eq_iff_iff]
    simp only [Bool.and_eq_true,decide_eq_true_eq]
    constructor
    ·rintro ⟨⟨⟨⟨⟨a1,a2⟩,a3⟩,a4⟩,a5⟩,a6⟩
     refine⟨⟨⟨⟨⟨a1,a3⟩,a2⟩,a4⟩,a5⟩,?_⟩
     exact (zrk (c:=clus bits) (by omega) (by omega) a1).2 a6
    ·rintro ⟨⟨⟨⟨⟨a1,a3⟩,a2⟩,a4⟩,a5⟩,a6⟩
     refine⟨⟨⟨⟨⟨a1,a2⟩,a3⟩,a4⟩,a5⟩,?_⟩
     exact (zrk (c:=clus bits) (by omega) (by omega) a1).1 a6
   ·rfl
end
section
theorem zuP {e:En} {bits:Int} (h:zfo e bits=true):(0≤e.place∧e.place≤268435456)∧(0≤e.len∧e.len≤16383)∧((e.kind=0∨e.kind=1)∧e.place=0∧e.len=0∨e.kind=2∧e.len=0∨e.kind=3):=by
 unfold zfo at h
 split at h
 ·cases h
 ·rename_i hb
  have hcb:=zc0 (bits:=bits) (by omega)
  split at h
  ·simp only [Bool.and_eq_true,decide_eq_true_eq] at h;omega
  ·split at h
   ·simp only [Bool.and_eq_true,decide_eq_true_eq,plB_iff] at h;omega
   ·split at h
    ·simp only [Bool.and_eq_true,decide_eq_true_eq] at h;omega
    ·cases h
attribute [local irreducible] Br Rn RnU Cl RdG CpG Ld Rd Lp Dr Oth Cut fin Fits Eng.Enters Md NA
theorem zgN (e:En) (bits:Int) (w:World) (hm:zfo e bits=true) :
  Calls Tryz.prog 187 #[e.val] w fun e' w'=>e'=.returned (.int .u64 (zcH e))∧Fr (fun _=>False) w w':=by
 obtain ⟨h1,h2,h3⟩:=zuP hm
 refine enter (cx:=CX 23 [] w) [(0,e.val)] zaa Tryz.func187 rfl rfl rfl rfl (MemOk.nil w _) ?_
 refine gGw ?_;(repeat ((first|refine .mk fun Ap capp=>?_|intro _);(conv=>whnf);refine gG0 ?_))
 refine br_d (fun h=>?_) (fun h=>?_)
 ·have ew:zcH e=e.place+2:=if_pos h
  rw [ew]
  refine gGw ?_
  exact fin1 rfl rfl (fun w' hm=>⟨rfl,hm.fr⟩)
 ·have ew:zcH e=e.place*65536+4*e.len+e.kind:=by
   unfold zcH
   rw [if_neg h]
   split<;>omega
  have hk:0≤e.kind∧e.kind≤3:=by omega
  rw [ew]
  refine gGw ?_
  exact fin1 rfl rfl (fun w' hm=>⟨rfl,hm.fr⟩)
def ofRw (x:Int):En:=if x%4=2 then ⟨2,(x-2)%9223372036854775808,0⟩ else if x%4=3 then ⟨3,x/65536,x%65536/4⟩ else ⟨x%4,0,0⟩
def ofR (x bits:Int):Option En:=if zfo (ofRw x) bits=true∧zcH (ofRw x)=x then some (ofRw x) else none
theorem zrK (x:Int):(ofRw x).kind=x%4:=by
 unfold ofRw
 split
 ·rename_i h;exact h.symm
 ·split
  ·rename_i h;exact h.symm
  ·rfl
theorem zun (x bits:Int) (w:World) (hx:0≤x∧x<18446744073709551616) :
  Calls Tryz.prog 155 #[.int .u64 x,.int .i64 bits] w fun e' w'=>e'=.returned (match ofR x bits with
   | none=>.tuple #[(⟨0,0,0⟩:En).val,.bool false]
   | some e=>.tuple #[e.val,.bool true])∧Fr (fun _=>False) w w':=by
 refine enter (cx:=⟨Tryz.prog,45,w,fun _=>False,tab,[],[187],[],[]⟩) [(0,.int .u64 x),(1,.int .i64 bits)] zaa Tryz.func155 rfl rfl rfl rfl (MemOk.nil w _) ?_
 have e4:x.tmod 4=x%4:=Int.tmod_eq_emod_of_nonneg hx.1
 refine gGw ?_;(repeat ((first|refine .mk fun Ap capp=>?_|intro _);(conv=>whnf);refine gG0 ?_))
 by_cases h2:x%4=2
 ·have eR:ofRw x=⟨2,(x-2)%9223372036854775808,0⟩:=if_pos h2
  have e63:(x-2).tmod 9223372036854775808=(x-2)%9223372036854775808:=Int.tmod_eq_emod_of_nonneg (by omega)
  refine br_t (decide_eq_true (e4.trans h2)) ?_
  refine gGw ?_
  rw [e63]
  refine br_f (decide_eq_false (by omega)) ?_
  refine gGw ?_
  rw [e4,h2]
  have eO:ofR x bits=if zfo ⟨2,(x-2)%9223372036854775808,0⟩ bits=true∧zcH ⟨2,(x-2)%9223372036854775808,0⟩=x then some ⟨2,(x-2)%9223372036854775808,0⟩ else none:=by unfold ofR;rw [eR]
  rw [eO]
  refine⟨zeI,zae _ (fun w' _=>zie ⟨2,(x-2)%9223372036854775808,0⟩ bits w' ⟨by show (-4611686018427387904:Int)≤0;decide,by show (0:Int)≤4611686018427387904;decide⟩ ⟨by show -4611686018427387904≤(x-2)%9223372036854775808;omega,by show (x-2)%9223372036854775808≤9223372036854775807;omega⟩) ?_⟩
  cases hm:zfo ⟨2,(x-2)%9223372036854775808,0⟩ bits with
  | false =>
   rw [if_neg (fun h=>absurd h.1 (by decide))]
   refine gGw ?_
   refine⟨.int .u64 0,cpg zbR (fun hg=>absurd hg (by decide)),?_⟩
   refine gGw ?_
   refine br_t rfl ?_
   refine gGw ?_
   exact zbV rfl rfl (ldN (vs:=(⟨0,0,0⟩:En).cells) zaa (by repeat constructor) rfl rfl rfl rfl) rfl (fun w' hm=>⟨rfl,hm.fr⟩)
  | true =>
   refine gGw ?_
   refine⟨_,cpg zbR (fun _ w' _=>zgN ⟨2,(x-2)%9223372036854775808,0⟩ bits w' hm),?_⟩
   refine gGw ?_
   by_cases hw:zcH ⟨2,(x-2)%9223372036854775808,0⟩=x
   ·rw [if_pos ⟨rfl,hw⟩]
    refine br_f (by rw [decide_eq_true hw];rfl) ?_
    refine gGw ?_
    exact zbV rfl rfl (ldN (vs:=(⟨2,(x-2)%9223372036854775808,0⟩:En).cells) zaa (by repeat constructor) rfl rfl rfl rfl) rfl (fun w' hm=>⟨rfl,hm.fr⟩)
   ·rw [if_neg (fun h=>hw h.2)]
    refine br_t (by rw [decide_eq_false hw];rfl) ?_
    refine gGw ?_
    exact zbV rfl rfl (ldN (vs:=(⟨0,0,0⟩:En).cells) zaa (by repeat constructor) rfl rfl rfl rfl) rfl (fun w' hm=>⟨rfl,hm.fr⟩)
 refine br_f (decide_eq_false (by omega)) ?_
 refine gGw ?_
 by_cases h3:x%4=3
 ·have eR:ofRw x=⟨3,x/65536,x%65536/4⟩:=by unfold ofRw;rw [if_neg h2,if_pos h3]
  have eq1:IntKind.u64.wrap (x.tdiv 65536)=x/65536:=by rw [Int.tdiv_eq_ediv_of_nonneg hx.1];exact IntWalk.u64_in _ (by omega)
  have eq2:IntKind.u64.wrap ((x.tmod 65536).tdiv 4)=x%65536/4:=by rw [Int.tmod_eq_emod_of_nonneg hx.1,Int.tdiv_eq_ediv_of_nonneg (by omega)];exact IntWalk.u64_in _ (by omega)
  refine br_t (decide_eq_true (e4.trans h3)) ?_
  refine gGw ?_
  rw [eq1]
  refine gG0 ?_
  rw [eq2]
  refine gG0 ?_
  rw [e4,h3]
  have eO:ofR x bits=if zfo ⟨3,x/65536,x%65536/4⟩ bits=true∧zcH ⟨3,x/65536,x%65536/4⟩=x then some ⟨3,x/65536,x%65536/4⟩ else none:=by unfold ofR;rw [eR]
  rw [eO]
  refine⟨zeI,zae _ (fun w' _=>zie ⟨3,x/65536,x%65536/4⟩ bits w' ⟨by show -4611686018427387904≤x%65536/4;omega,by show x%65536/4≤4611686018427387904;omega⟩ ⟨by show -4611686018427387904≤x/65536;omega,by show x/65536≤9223372036854775807;omega⟩) ?_⟩
  cases hm:zfo ⟨3,x/65536,x%65536/4⟩ bits with
  | false =>
   rw [if_neg (fun h=>absurd h.1 (by decide))]
   refine gGw ?_
   refine⟨.int .u64 0,cpg zbR (fun hg=>absurd hg (by decide)),?_⟩
   refine gGw ?_
   refine br_t rfl ?_
   refine gGw ?_
   exact zbV rfl rfl (ldN (vs:=(⟨0,0,0⟩:En).cells) zaa (by repeat constructor) rfl rfl rfl rfl) rfl (fun w' hm=>⟨rfl,hm.fr⟩)
  | true =>
   refine gGw ?_
   refine⟨_,cpg zbR (fun _ w' _=>zgN ⟨3,x/65536,x%65536/4⟩ bits w' hm),?_⟩
   refine gGw ?_
   by_cases hw:zcH ⟨3,x/65536,x%65536/4⟩=x
   ·rw [if_pos ⟨rfl,hw⟩]
    refine br_f (by rw [decide_eq_true hw];rfl) ?_
    refine gGw ?_
    exact zbV rfl rfl (ldN (vs:=(⟨3,x/65536,x%65536/4⟩:En).cells) zaa (by repeat constructor) rfl rfl rfl rfl) rfl (fun w' hm=>⟨rfl,hm.fr⟩)
   ·rw [if_neg (fun h=>hw h.2)]
    refine br_t (by rw [decide_eq_false hw];rfl) ?_
    refine gGw ?_
    exact zbV rfl rfl (ldN (vs:=(⟨0,0,0⟩:En).cells) zaa (by repeat constructor) rfl rfl rfl rfl) rfl (fun w' hm=>⟨rfl,hm.fr⟩)
 ·have eR:ofRw x=⟨x%4,0,0⟩:=by unfold ofRw;rw [if_neg h2,if_neg h3]
  refine br_f (decide_eq_false (by omega)) ?_
  refine gGw ?_
  rw [e4]
  have eO:ofR x bits=if zfo ⟨x%4,0,0⟩ bits=true∧zcH ⟨x%4,0,0⟩=x then some ⟨x%4,0,0⟩ else none:=by unfold ofR;rw [eR]
  rw [eO]
  refine⟨zeI,zae _ (fun w' _=>zie ⟨x%4,0,0⟩ bits w' ⟨by show (-4611686018427387904:Int)≤0;decide,by show (0:Int)≤4611686018427387904;decide⟩ ⟨by show (-4611686018427387904:Int)≤0;decide,by show (0:Int)≤9223372036854775807;decide⟩) ?_⟩
  cases hm:zfo ⟨x%4,0,0⟩ bits with
  | false =>
   rw [if_neg (fun h=>absurd h.1 (by decide))]
   refine gGw ?_
   refine⟨.int .u64 0,cpg zbR (fun hg=>absurd hg (by decide)),?_⟩
   refine gGw ?_
   refine br_t rfl ?_
   refine gGw ?_
   exact zbV rfl rfl (ldN (vs:=(⟨0,0,0⟩:En).cells) zaa (by repeat constructor) rfl rfl rfl rfl) rfl (fun w' hm=>⟨rfl,hm.fr⟩)
  | true =>
   refine gGw ?_
   refine⟨_,cpg zbR (fun _ w' _=>zgN ⟨x%4,0,0⟩ bits w' hm),?_⟩
   refine gGw ?_
   by_cases hw:zcH ⟨x%4,0,0⟩=x
   ·rw [if_pos ⟨rfl,hw⟩]
    refine br_f (by rw [decide_eq_true hw];rfl) ?_
    refine gGw ?_
    exact zbV rfl rfl (ldN (vs:=(⟨x%4,0,0⟩:En).cells) zaa (by repeat constructor) rfl rfl rfl rfl) rfl (fun w' hm=>⟨rfl,hm.fr⟩)
   ·rw [if_neg (fun h=>hw h.2)]
    refine br_t (by rw [decide_eq_false hw];rfl) ?_
    refine gGw ?_
    exact zbV rfl rfl (ldN (vs:=(⟨0,0,0⟩:En).cells) zaa (by repeat constructor) rfl rfl rfl rfl) rfl (fun w' hm=>⟨rfl,hm.fr⟩)
theorem zxO (x bits:Int) (hx:0≤x∧x<18446744073709551616):ofR x bits=if (ofE x bits).2=0 then some (ofE x bits).1 else none:=by
 unfold ofR ofE
 have hk:=zrK x
 by_cases hb:bits<9∨16<bits
 ·rw [if_pos hb,if_neg (fun h=>by rw [zfo,if_pos hb] at h;cases h.1)]
  rfl
 rw [if_neg hb,zuO _ _ (by rw [hk];omega)]
 have hcb:=zc0 (bits:=bits) (by omega)
 by_cases h2:x%4=2
 ·have eR:ofRw x=⟨2,(x-2)%9223372036854775808,0⟩:=if_pos h2
  have eW:ofW x=⟨2,IntKind.i64.wrap (x-x%4),0⟩:=if_pos h2
  by_cases hlt:x-2<9223372036854775808
  ·have e:ofRw x=ofW x:=by
    rw [eR,eW,h2,IntWalk.i64_in _ (by omega),Int.emod_eq_of_lt (by omega) hlt]
   rw [e]
   by_cases hC:entE (ofW x) bits=0∧zcH (ofW x)=x
   ·rw [if_pos hC,if_pos ⟨decide_eq_true hC.1,hC.2⟩];rfl
   ·rw [if_neg hC,if_neg (fun h=>hC ⟨of_decide_eq_true h.1,h.2⟩)];rfl
  ·have n1:¬ (decide (entE (ofRw x) bits=0)=true∧zcH (ofRw x)=x):=by
    rw [eR]
    rintro ⟨_,h⟩
    have:(x-2)%9223372036854775808+2=x:=h
    omega
   have n2:¬ (entE (ofW x) bits=0∧zcH (ofW x)=x):=by
    rw [eW,h2]
    rintro ⟨h,h'⟩
    have hw:IntKind.i64.wrap (x-2)+2=x:=h'
    rw [IntKind.wrap_i64] at hw
    omega
   rw [if_neg n1,if_neg n2];rfl
 ·have e:ofRw x=ofW x:=by
   unfold ofRw ofW
   rw [if_neg h2,if_neg h2]
   split
   ·have:x%65536/4=x/4%16384:=by omega
    rw [this]
   ·rfl
  rw [e]
  by_cases hC:entE (ofW x) bits=0∧zcH (ofW x)=x
  ·rw [if_pos hC,if_pos ⟨decide_eq_true hC.1,hC.2⟩];rfl
  ·rw [if_neg hC,if_neg (fun h=>hC ⟨of_decide_eq_true h.1,h.2⟩)];rfl
end
section
def zc5 (U:List UInt8→Int→Bool):Prop:=∀ (A:Option Addr) (c:Nat) (bs:List UInt8) (most:Int) (w:World),BytsIn w A bs→bs.length≤20000→0≤most∧most≤1048576 →
 Ctr Tryz.prog 188 [.slice A bs.length c,.int .i64 most] [] (fun e m'=>(∃ rA rl rc k lA ll lc no,e=.returned (.tuple #[.slice rA rl rc,.int .i64 k,.slice lA ll lc,.int .i64 no])∧U bs most=(!decide (no=0)||!decide (((rl:Nat):Int)=most)))∧m'=[]) w
theorem zxh {cx:Cx} {id:Nat} {ops:Array Oper} {k:Exit→Env→Mem→Prop} {e:Env} {m m1:Mem} (hs:SubM cx m m1) (h:Dr cx id ops k e m1):Dr cx id ops k e m:=fun a w he hm=>h a w he (hs w hm)
theorem zvB {U:List UInt8→Int→Bool} (hU:zc5 U) {n:Nat} (A:Option Addr) (c:Nat) (bs:List UInt8) (most:Int) (w:World) (hn:bs.length=n) (hb:BytsIn w A bs) (hl:n≤20000) (hm:0≤most∧most≤1048576) :
  Ctr Tryz.prog 188 [.slice A n c,.int .i64 most] [] (fun e m'=>(∃ rA rl rc k lA ll lc no,e=.returned (.tuple #[.slice rA rl rc,.int .i64 k,.slice lA ll lc,.int .i64 no])∧U bs most=(!decide (no=0)||!decide (((rl:Nat):Int)=most)))∧m'=[]) w:=by
 subst hn
 exact hU A c bs most w hb hl hm
def zhX (U:List UInt8→Int→Bool) (p:WP) (at_:Int) (e:En):List Ev :=
 tRun p (e.place.tdiv p.c*p.c) p.c at_ 3++if zau p (e.place.tdiv p.c*p.c) p.c then .packed::(if U (pkB p e) p.c then [.find ⟨5,at_,0,0⟩] else []) else []
attribute [local irreducible] Br Rn RnU Cl RdG CpG Ld Rd Lp Dr Oth Cut fin Fits Eng.Enters Md NA
theorem zh8:Eng.Enters Tryz.prog 188:=zab fun _ _=>by kernel_rfl
theorem zmW:Eng.Enters Tryz.prog 156:=zab fun _ _=>by kernel_rfl
set_option maxHeartbeats 1000000 in
theorem zuk (U:List UInt8→Int→Bool) (hU:zc5 U) (p:WP) (s:RS) (g:RG) (e:En) (t:Int) (w:World) (hp:p.Ok) (hlb:p.bs.length≤20000) (hcap:p.bs.length≤p.cap) (hbits:p.h.bits≤60) (hcb:p.c=clus p.h.bits) (hl:s.len≤15000000000) (hk:e.kind=3) (hok:zdL e p.c=true) (hb:BInR p s g w) (hm:MemOk w (Foot (rM p s g)) (rM p s g) w) :
  Ctr Tryz.prog 156 [.pointer (some ⟨p.wB,0,none⟩),e.val,.int .i64 t] (rM p s g) (RwR p (.tuple #[]) (zav s (zhX U p t e))) w:=by
 refine enter (cx:=⟨Tryz.prog,68,w,Foot (rM p s g),tab,[34],[71],[],[]⟩) [(0,.pointer (some ⟨p.wB,0,none⟩)),(1,e.val),(2,.int .i64 t)] zaa Tryz.func156 rfl rfl rfl rfl hm ?_
 have hc0:=hp.c0
 have hc1:=hp.c1
 have hlen:=hp.len
 unfold zdL at hok
 rw [hk,if_neg (by omega),if_neg (by omega),if_pos rfl] at hok
 simp only [Bool.and_eq_true,decide_eq_true_eq] at hok
 obtain ⟨⟨⟨⟨⟨k1,k2⟩,k3⟩,k4⟩,k5⟩,k6⟩:=hok
 have hd:e.place-e.place.tmod p.c=e.place.tdiv p.c*p.c:=by
  rw [Int.tdiv_eq_ediv_of_nonneg (by omega),Int.tmod_eq_emod_of_nonneg (by omega),Int.mul_comm]
  have:=Int.mul_ediv_add_emod e.place p.c
  omega
 have hmb:0≤e.place.tmod p.c∧e.place.tmod p.c<p.c:=by
  rw [Int.tmod_eq_emod_of_nonneg (by omega)]
  exact⟨Int.emod_nonneg _ (by omega),Int.emod_lt_of_pos _ (by omega)⟩
 refine gGw ?_;(repeat ((first|refine .mk fun Ap capp=>?_|intro _);(conv=>whnf);refine gG0 ?_))
 rename_i eB
 refine⟨zbl,zae _ (fun w' hm'=>zcF p s g w' hbits hcb (zdw (r:=[]) (hm'.sel (by repeat constructor)))) ?_⟩
 conv=>whnf
 obtain ⟨Q,hQ⟩:∃ Q,Q=e.place.tdiv p.c*p.c:=⟨_,rfl⟩
 rw [← hQ] at hd
 have hQ1:0≤Q∧Q≤e.place∧e.place+e.len≤Q+p.c:=by
  have h1:e.place.tdiv p.c=e.place/p.c:=Int.tdiv_eq_ediv_of_nonneg (by omega)
  have h2:(e.place+e.len-1).tdiv p.c=(e.place+e.len-1)/p.c:=Int.tdiv_eq_ediv_of_nonneg (by omega)
  have h5:=Int.mul_ediv_add_emod (e.place+e.len-1) p.c
  have h6:=Int.emod_lt_of_pos (e.place+e.len-1) (show 0<p.c by omega)
  have h7:=Int.ediv_nonneg (show 0≤e.place by omega) (show 0≤p.c by omega)
  rw [h1,h2] at k6
  rw [← k6] at h5
  rw [h1,Int.mul_comm] at hQ
  have h8:=Int.mul_nonneg (show 0≤p.c by omega) h7
  omega
 have eT:zhX U p t e=tRun p Q p.c t 3++if zau p Q p.c then .packed::(if U (pkB p e) p.c then [.find ⟨5,t,0,0⟩] else []) else []:=by unfold zhX;rw [← hQ]
 rw [eT]
 refine zcb (γ:=RG) (Tr.hs [0,1,2,3,4,5,6,7,8,9] (.sq [10] (.hs [11] .done))) [.blk eB (.cells e.cells.toArray 163)] zaa mixed (by kernel_rfl) rfl (fun _=>True)
  (fun _=>[(24,.bool (!zau p Q p.c)),(6,.int .i64 p.c),(4,.pointer (some ⟨eB,0,none⟩)),(0,.pointer (some ⟨p.wB,0,none⟩)),(2,.int .i64 t)]) (fun g3=>.blk eB (.cells e.cells.toArray 163)::rM p (zav s (tRun p Q p.c t 3)) g3) SubM.sl ?_ ?_
 ·refine gGw ?_
  rw [hd]
  refine⟨zaT,zac (m1:=rM p s g) (by repeat constructor) (fun w' hm'=>zbw p s g Q p.c 3 t w' hp (by omega) hbits hcb (by omega) (by omega) (by omega) (by omega) hm'.part) ?_⟩
  rintro e' m' ⟨rfl,g3,rfl⟩
  conv=>whnf
  refine gGs ?_
  refine gGw ?_
  exact⟨g3,trivial,⟨rfl,rfl,rfl,rfl,rfl,trivial⟩,SubM.sl⟩
 intro g3 _
 have hln:=zaW (tRun p Q p.c t 3) s
 have htl:=zb6 hp Q p.c t 3
 have hnb:=n_bd hp
 have eA:zav s (tRun p Q p.c t 3++if zau p Q p.c then Ev.packed::(if U (pkB p e) p.c then [.find ⟨5,t,0,0⟩] else []) else [])=zav (zav s (tRun p Q p.c t 3)) (if zau p Q p.c then Ev.packed::(if U (pkB p e) p.c then [.find ⟨5,t,0,0⟩] else []) else []):=zbj ..
 rw [eA]
 clear eA eT
 generalize zav s (tRun p Q p.c t 3)=s1 at hln ⊢
 conv=>whnf
 refine br_n (br (fun hok=>?_) (fun hok=>?_))
 ·have hle:=zaF hp hok
  rw [if_pos hok]
  have eP:zav s1 (Ev.packed::(if U (pkB p e) p.c then [.find ⟨5,t,0,0⟩] else []))=zav (appR s1 .packed) (if U (pkB p e) p.c then [.find ⟨5,t,0,0⟩] else []):=rfl
  rw [eP]
  have hl2:=zhM s1 .packed
  have hPl:Pl p.A:=by
   obtain ⟨b,o,h,_⟩:=hb.now (by rw [zaf];omega)
   exact⟨b,o,h⟩
  refine gGw ?_
  refine br (fun ha=>?_) (fun ha=>?_)
  ·refine gGw ?_
   refine zxh (m1:=.blk eB (.cells e.cells.toArray 163)::rM p (appR s1 .packed) g3) ?_ ?_
   ·rw [show appR s1 .packed={ s1 with packed:=inc s1.packed } from if_pos ha]
    exact SubM.sl
   generalize appR s1 .packed=s2 at hl2 ⊢
   refine zcb (γ:=Option Addr × Nat × Nat × Int) (Tr.hs [0,1,2,3,4,5,6,7,8,9,10,11,12] (.sq [13] (.hs [14,15,16,17,18,19,20,21,22] .done))) (.blk eB (.cells e.cells.toArray 163)::rM p s2 g3) zaa mixed (by kernel_rfl) rfl (fun q=>U (pkB p e) p.c=(!decide (q.2.2.2=0)||!decide (((q.2.1:Nat):Int)=p.c)))
    (fun q=>[(10,.int .i64 q.2.2.2),(7,.slice q.1 q.2.1 q.2.2.1),(6,.int .i64 p.c),(0,.pointer (some ⟨p.wB,0,none⟩)),(2,.int .i64 t)]) (fun _=>rM p s2 g3) SubM.sl ?_ ?_
   ·refine gGw ?_
    refine And.intro ⟨by omega,by omega,by omega,.inr hPl⟩ ?_
    refine gGw ?_
    refine⟨zh8,zac (m1:=[]) .nil (fun w' hm'=>zvB hU _ _ (pkB p e) p.c w' (by unfold pkB;rw [List.length_take,List.length_drop];omega) (BytsIn.sub (hb w' hm'.fr) p.cap e.place.toNat e.len.toNat (by omega) hcap) (by omega) (by omega)) ?_⟩
    rintro e' m' ⟨⟨rA,rl,rc,k,lA,ll,lc,no,rfl,hno⟩,rfl⟩
    conv=>whnf
    refine gGs ?_
    refine gGw ?_
    exact⟨(rA,rl,rc,no),hno,⟨rfl,rfl,rfl,rfl,rfl,trivial⟩,SubM.sl⟩
   rintro ⟨rA,rl,rc,no⟩ hno
   simp only at hno ⊢
   refine gGw ?_
   rw [← hno]
   refine br (fun hu=>?_) (fun hu=>?_)
   ·refine gGw ?_
    refine⟨zcw,zac (m1:=rM p s2 g3) (by repeat constructor) (fun w' hm'=>ze8 p s2 g3 5 t w' (by omega) hm'.part) ?_⟩
    rintro e' m' ⟨rfl,g4,rfl⟩
    refine gGw ?_
    exact fin0 rfl (fun w' hm=>⟨_,⟨rfl,g4,by rw [hu];rfl⟩,hm⟩) (by first|exact .inl rfl|exact .inr rfl)
   ·refine gGw ?_
    exact fin0 rfl (fun w' hm=>⟨rM p s2 g3,⟨rfl,g3,by rw [hu];rfl⟩,hm⟩) (by first|exact .inl rfl|exact .inr rfl)
  ·refine gGw ?_
   rw [show appR s1 .packed=s1 from if_neg (by rw [ha];decide)] at hl2 ⊢
   refine zcb (γ:=Option Addr × Nat × Nat × Int) (Tr.hs [0,1,2,3,4,5,6,7,8,9,10,11,12] (.sq [13] (.hs [14,15,16,17,18,19,20,21,22] .done))) (.blk eB (.cells e.cells.toArray 163)::rM p s1 g3) zaa mixed (by kernel_rfl) rfl (fun q=>U (pkB p e) p.c=(!decide (q.2.2.2=0)||!decide (((q.2.1:Nat):Int)=p.c)))
    (fun q=>[(10,.int .i64 q.2.2.2),(7,.slice q.1 q.2.1 q.2.2.1),(6,.int .i64 p.c),(0,.pointer (some ⟨p.wB,0,none⟩)),(2,.int .i64 t)]) (fun _=>rM p s1 g3) SubM.sl ?_ ?_
   ·refine gGw ?_
    refine And.intro ⟨by omega,by omega,by omega,.inr hPl⟩ ?_
    refine gGw ?_
    refine⟨zh8,zac (m1:=[]) .nil (fun w' hm'=>zvB hU _ _ (pkB p e) p.c w' (by unfold pkB;rw [List.length_take,List.length_drop];omega) (BytsIn.sub (hb w' hm'.fr) p.cap e.place.toNat e.len.toNat (by omega) hcap) (by omega) (by omega)) ?_⟩
    rintro e' m' ⟨⟨rA,rl,rc,k,lA,ll,lc,no,rfl,hno⟩,rfl⟩
    conv=>whnf
    refine gGs ?_
    refine gGw ?_
    exact⟨(rA,rl,rc,no),hno,⟨rfl,rfl,rfl,rfl,rfl,trivial⟩,SubM.sl⟩
   rintro ⟨rA,rl,rc,no⟩ hno
   simp only at hno ⊢
   refine gGw ?_
   rw [← hno]
   refine br (fun hu=>?_) (fun hu=>?_)
   ·refine gGw ?_
    refine⟨zcw,zac (m1:=rM p s1 g3) (by repeat constructor) (fun w' hm'=>ze8 p s1 g3 5 t w' (by omega) hm'.part) ?_⟩
    rintro e' m' ⟨rfl,g4,rfl⟩
    refine gGw ?_
    exact fin0 rfl (fun w' hm=>⟨_,⟨rfl,g4,by rw [hu];rfl⟩,hm⟩) (by first|exact .inl rfl|exact .inr rfl)
   ·refine gGw ?_
    exact fin0 rfl (fun w' hm=>⟨rM p s1 g3,⟨rfl,g3,by rw [hu];rfl⟩,hm⟩) (by first|exact .inl rfl|exact .inr rfl)
 ·refine gGw ?_
  exact fin0 rfl (fun w' hm=>⟨rM p s1 g3,⟨rfl,g3,by rw [hok];rfl⟩,hm.sl⟩) (by first|exact .inl rfl|exact .inr rfl)
end
section
theorem zf6 {p:WP} (hp:p.Ok) (a t k:Int):(tRun p a p.c t k).length≤1:=by
 have hc0:=hp.c0
 unfold tRun
 split
 ·rw [zm3]
  unfold upC
  rw [Int.tdiv_eq_ediv_of_nonneg (by omega)]
  have:(p.c+p.c-1)/p.c=1:=by
   have e:p.c+p.c-1=(p.c-1)+p.c*1:=by omega
   rw [e,Int.add_mul_ediv_left _ _ (by omega),Int.ediv_eq_zero_of_lt (by omega) (by omega)];rfl
  rw [this];decide
 ·simp
theorem zn4 {U:List UInt8→Int→Bool} {p:WP} (hp:p.Ok) (a:Int):(tEnt U p a).length≤3:=by
 unfold tEnt zcu
 have h1:=fun b t k=>zf6 hp b t k
 split
 ·split
  ·rw [List.length_append]
   have:=h1 (ofE (zaz p a) p.h.bits).1.place a 2
   split<;>simp<;>omega
  ·split
   ·rw [List.length_append]
    have:=h1 ((ofE (zaz p a) p.h.bits).1.place.tdiv p.c*p.c) a 3
    split
    ·split<;>simp<;>omega
    ·simp;omega
   ·split<;>simp
 ·simp
theorem zqJ {x:Int} (hx:0≤x∧x<18446744073709551616):IntKind.u64.wrap (IntKind.i64.wrap x)=x:=by
 rw [IntKind.wrap_i64]
 by_cases h:x<9223372036854775808
 ·have e:(x+9223372036854775808)%18446744073709551616-9223372036854775808=x:=by omega
  first
   | rw [e];exact IntWalk.u64_in _ (by omega)
   | (have e2:IntKind.i64.wrap x=x:=IntWalk.i64_in _ (by omega);rw [IntKind.wrap_i64] at e2;rw [e2];exact IntWalk.u64_in _ (by omega))
 ·rw [IntKind.wrap_u64]
  omega
attribute [local irreducible] Br Rn RnU Cl RdG CpG Ld Rd Lp Dr Oth Cut fin Fits Eng.Enters Md NA
theorem zmV:Eng.Enters Tryz.prog 115:=zab fun _ _=>by kernel_rfl
theorem zeH:Eng.Enters Tryz.prog 155:=zab fun _ _=>by kernel_rfl
set_option maxHeartbeats 2000000 in
theorem zuj (U:List UInt8→Int→Bool) (hU:zc5 U) (p:WP) (s:RS) (g:RG) (t:Int) (w:World) (hp:p.Ok) (hlb:p.bs.length≤20000) (hcap:p.bs.length≤p.cap) (hbits:9≤p.h.bits∧p.h.bits≤16) (hcb:p.c=clus p.h.bits) (hl:s.len≤14000000000) (ht:0≤t∧t+p.c≤p.bs.length) (hb:BInR p s g w) (hm:MemOk w (Foot (rM p s g)) (rM p s g) w) :
  Ctr Tryz.prog 115 [.pointer (some ⟨p.wB,0,none⟩),.int .i64 t] (rM p s g) (RwR p (.tuple #[]) (zav s (tL2 U p t))) w:=by
 refine enter (cx:=⟨Tryz.prog,84,w,Foot (rM p s g),tab,[23,50,74],[71],[],[]⟩) [(0,.pointer (some ⟨p.wB,0,none⟩)),(1,.int .i64 t)] zaa Tryz.func115 rfl rfl rfl rfl hm ?_
 have hc0:=hp.c0
 have hc1:=hp.c1
 have hc8:=hp.c8
 have hlen:=hp.len
 unfold tL2
 refine gGw ?_
 refine lp zaa (γ:=Nat × RG) (fun q=>(q.1:Int)≤p.c/8)
  (fun q=>[(4,.int .i64 (q.1:Int)),(0,.pointer (some ⟨p.wB,0,none⟩)),(1,.int .i64 t)]) (fun q=>rM p (zav s (rng q.1 fun k=>tEnt U p (t+8*(k:Nat)))) q.2) (fun q=>(p.c/8).toNat-q.1) (0,g) (by simp only;omega) ⟨rfl,rfl,rfl,trivial⟩ SubM.sl ?_
 rintro ⟨i,g2⟩ hi
 simp only at hi
 have hln2:=zaW (rng i fun k=>tEnt U p (t+8*(k:Nat))) s
 have hln3:=zig (f:=fun k=>tEnt U p (t+8*(k:Nat))) (M:=3) i (fun k=>zn4 hp _)
 obtain ⟨S,hS⟩:∃ S,S=zav s (rng i fun k=>tEnt U p (t+8*(k:Nat))):=⟨_,rfl⟩
 have hSl:S.len≤14100000000:=by rw [hS];omega
 dsimp only
 have eN:zav s (rng (i+1) fun k=>tEnt U p (t+8*(k:Nat)))=zav S (tEnt U p (t+8*(i:Nat))):=by rw [zb7,zbj,hS]
 rw [← hS]
 refine gGw ?_
 refine⟨zbl,zae _ (fun w' hm'=>zcF p S g2 w' (by omega) hcb (zdw (r:=[]) hm')) ?_⟩
 refine gGw ?_
 have ew:IntKind.i64.wrap (p.c.tdiv 8)=p.c/8:=by rw [Int.tdiv_eq_ediv_of_nonneg (by omega)];exact IntWalk.i64_in _ (by omega)
 rw [ew]
 refine br_d (fun hlt=>?_) (fun hge=>?_)
 ·have hwb:=zd8 p (t+8*(i:Int))
  have hback:=zqJ hwb
  have hofR:=zxO (zaz p (t+8*(i:Int))) p.h.bits hwb
  have hofk:=zrM (x:=zaz p (t+8*(i:Int))) (bits:=p.h.bits)
  have eE:tEnt U p (t+8*(i:Nat))=if (ofE (zaz p (t+8*(i:Int))) p.h.bits).2=0 then zcu U p (t+8*(i:Int)) (ofE (zaz p (t+8*(i:Int))) p.h.bits).1 else [.find ⟨2,t+8*(i:Int),0,0⟩]:=rfl
  rw [eE] at eN
  clear eE
  obtain ⟨V,hV⟩:∃ V:Option En,V=ofR (zaz p (t+8*(i:Int))) p.h.bits:=⟨_,rfl⟩
  have hof:=fun w'=>zun (zaz p (t+8*(i:Int))) p.h.bits w' hwb
  rw [← hV] at hofR hof
  clear hV
  refine gGw ?_
  refine zcb (γ:=Nat) (Tr.hs [0,1,4,5,6,7,8] (.alts 13 (.sq [2] (.hs [3] (.sq [9] (.hs [10,11,12] (.sq [14] (.hs [15] .done)))))) (.alts 2 (.hs [3] (.alts 13 (.sq [9] (.hs [10,11,12] (.sq [14] (.hs [15] .done)))) (.alts 9 (.hs [10,11,12] (.sq [13] (.sq [14] (.hs [15] .done)))) .stop))) .stop))) (rM p S g2) zaa mixed (by kernel_rfl) rfl (fun _=>True)
   (fun tB=>[(7,.bool V.isSome),(6,.pointer (some ⟨tB,0,none⟩)),(5,.int .i64 (t+8*(i:Int))),(4,.int .i64 (i:Int)),(0,.pointer (some ⟨p.wB,0,none⟩)),(1,.int .i64 t)]) (fun tB=>.blk tB (.cells (V.getD ⟨0,0,0⟩).cells.toArray 163)::rM p S g2) SubM.sl ?_ ?_
  ·refine gGw ?_
   refine⟨?_,?_⟩
   ·refine gGt ?_;(repeat ((first|refine .mk fun Ap capp=>?_|intro _);(conv=>whnf);refine gGS ?_))
    refine⟨zds,zae _ (fun w' hm'=>zkk p S g2 (t+8*(i:Int)) w' hp (hb w' hm'.fr) (by omega) (zdw (r:=[]) (hm'.sel (by repeat constructor)))) ?_⟩
    conv=>whnf
    refine gGs ?_
    refine gGt ?_
    rw [hback]
    refine gGt ?_
    refine⟨zeH,zae _ (fun w' _=>hof w') ?_⟩
    clear hof hofR
    cases V with
    | none =>
     conv=>whnf
     refine gGs ?_
     refine gGt ?_
     exact⟨_,trivial,⟨rfl,rfl,rfl,rfl,rfl,rfl,trivial⟩,SubM.sl⟩
    | some e =>
     conv=>whnf
     refine gGs ?_
     refine gGt ?_
     exact⟨_,trivial,⟨rfl,rfl,rfl,rfl,rfl,rfl,trivial⟩,SubM.sl⟩
   ·refine⟨?_,trivial⟩
    refine gGt ?_
    refine⟨zds,zae _ (fun w' hm'=>zkk p S g2 (t+8*(i:Int)) w' hp (hb w' hm'.fr) (by omega) (zdw (r:=[]) (hm'.sel (by repeat constructor)))) ?_⟩
    conv=>whnf
    refine gGs ?_
    refine gGt ?_
    rw [hback]
    refine gGt ?_
    refine⟨?_,?_⟩
    ·refine gGt ?_;(repeat ((first|refine .mk fun Ap capp=>?_|intro _);(conv=>whnf);refine gGS ?_))
     refine⟨zeH,zae _ (fun w' _=>hof w') ?_⟩
     clear hof hofR
     cases V with
     | none =>
      conv=>whnf
      refine gGs ?_
      refine gGt ?_
      exact⟨_,trivial,⟨rfl,rfl,rfl,rfl,rfl,rfl,trivial⟩,SubM.sl⟩
     | some e =>
      conv=>whnf
      refine gGs ?_
      refine gGt ?_
      exact⟨_,trivial,⟨rfl,rfl,rfl,rfl,rfl,rfl,trivial⟩,SubM.sl⟩
    ·refine⟨?_,trivial⟩
     refine gGt ?_
     refine⟨zeH,zae _ (fun w' _=>hof w') ?_⟩
     clear hof hofR
     cases V with
     | none =>
      conv=>whnf
      refine gGs ?_
      refine gGt ?_;(repeat ((first|refine .mk fun Ap capp=>?_|intro _);(conv=>whnf);refine gGS ?_))
      exact⟨_,trivial,⟨rfl,rfl,rfl,rfl,rfl,rfl,trivial⟩,SubM.sl⟩
     | some e =>
      conv=>whnf
      refine gGs ?_
      refine gGt ?_;(repeat ((first|refine .mk fun Ap capp=>?_|intro _);(conv=>whnf);refine gGS ?_))
      exact⟨_,trivial,⟨rfl,rfl,rfl,rfl,rfl,rfl,trivial⟩,SubM.sl⟩
  ·intro tB _
   by_cases hok:(ofE (zaz p (t+8*(i:Int))) p.h.bits).2=0
   rotate_left
   ·rw [if_neg hok] at hofR eN
    subst hofR
    refine gGw ?_
    refine br_n (br_f rfl ?_)
    refine gGw ?_
    refine⟨zcw,zac (m1:=rM p S g2) (by repeat constructor) (fun w' hm'=>ze8 p S g2 2 (t+8*(i:Int)) w' (by omega) hm'.part) ?_⟩
    rintro e' m' ⟨rfl,g4,rfl⟩
    refine gGw ?_
    change zav s (rng (i+1) fun k=>tEnt U p (t+8*(k:Nat)))=appR S (.find ⟨2,t+8*(i:Int),0,0⟩) at eN
    refine⟨(i+1,g4),by show ((i+1:Nat):Int)≤p.c/8;omega,by show (p.c/8).toNat-(i+1)<(p.c/8).toNat-i;omega,⟨congrArg (fun x=>some (Value.int .i64 x)) (by push_cast;rfl),rfl,rfl,trivial⟩,?_⟩
    show SubM _ _ (rM p (zav s (rng (i+1) fun k=>tEnt U p (t+8*(k:Nat)))) _)
    rw [eN]
    exact SubM.sl
   have hok2:=hofk hok
   rw [if_pos hok] at hofR eN
   generalize (ofE (zaz p (t+8*(i:Int))) p.h.bits).1=e at hofR eN hok2
   subst hofR
   rw [← hcb] at hok2
   have hef:=zen ⟨hc0,hc1⟩ hok2
   refine gGw ?_
   refine br_n (br_t rfl ?_)
   refine gGw ?_
   refine br_d (fun h1=>?_) (fun h1=>?_)
   ·replace h1:e.kind=1:=h1
    have eF:zcu U p (t+8*(i:Int)) e=[.zero]:=by unfold zcu;rw [if_neg (by omega),if_neg (by omega),if_pos h1]
    rw [eF] at eN
    change zav s (rng (i+1) fun k=>tEnt U p (t+8*(k:Nat)))=appR S .zero at eN
    refine gGw ?_
    refine br (fun ha=>?_) (fun ha=>?_)
    ·rw [show appR S .zero={ S with zero:=inc S.zero } from if_pos ha] at eN
     refine gGw ?_
     refine⟨(i+1,g2),by show ((i+1:Nat):Int)≤p.c/8;omega,by show (p.c/8).toNat-(i+1)<(p.c/8).toNat-i;omega,⟨congrArg (fun x=>some (Value.int .i64 x)) (by push_cast;rfl),rfl,rfl,trivial⟩,?_⟩
     show SubM _ _ (rM p (zav s (rng (i+1) fun k=>tEnt U p (t+8*(k:Nat)))) _)
     rw [eN]
     exact SubM.sl
    ·rw [show appR S .zero=S from if_neg (by rw [ha];decide)] at eN
     refine gGw ?_
     refine⟨(i+1,g2),by show ((i+1:Nat):Int)≤p.c/8;omega,by show (p.c/8).toNat-(i+1)<(p.c/8).toNat-i;omega,⟨congrArg (fun x=>some (Value.int .i64 x)) (by push_cast;rfl),rfl,rfl,trivial⟩,?_⟩
     show SubM _ _ (rM p (zav s (rng (i+1) fun k=>tEnt U p (t+8*(k:Nat)))) _)
     rw [eN]
     exact SubM.sl
   replace h1:¬ e.kind=1:=h1
   refine gGw ?_
   refine br_d (fun h2=>?_) (fun h2=>?_)
   ·replace h2:e.kind=2:=h2
    have eF:zcu U p (t+8*(i:Int)) e=tRun p e.place p.c (t+8*(i:Int)) 2++if zau p e.place p.c then [.data] else []:=by unfold zcu;rw [if_pos h2]
    rw [eF,zbj] at eN
    conv=>whnf
    refine zcD 6 zaa mixed (by kernel_rfl) rfl rfl ?_
    refine gGw ?_
    refine⟨_,cpg zbl (fun _ w' hm'=>zcF p S g2 w' (by omega) hcb (zdw (r:=[]) (hm'.sel (by repeat constructor)))),?_⟩
    refine gGw ?_
    refine⟨zaT,zac (m1:=rM p S g2) (by repeat constructor) (fun w' hm'=>zbw p S g2 e.place p.c 2 (t+8*(i:Int)) w' hp (by omega) (by omega) hcb (by omega) (by omega) (by omega) (by omega) hm'.part) ?_⟩
    rintro e' m' ⟨rfl,g4,rfl⟩
    generalize zav S (tRun p e.place p.c (t+8*(i:Int)) 2)=S4 at eN ⊢
    refine gGw ?_
    cases hw:zau p e.place p.c with
    | false =>
     rw [hw] at eN
     change zav s (rng (i+1) fun k=>tEnt U p (t+8*(k:Nat)))=S4 at eN
     refine br_f rfl ?_
     refine gGw ?_
     refine⟨(i+1,g4),by show ((i+1:Nat):Int)≤p.c/8;omega,by show (p.c/8).toNat-(i+1)<(p.c/8).toNat-i;omega,⟨congrArg (fun x=>some (Value.int .i64 x)) (by push_cast;rfl),rfl,rfl,trivial⟩,?_⟩
     show SubM _ _ (rM p (zav s (rng (i+1) fun k=>tEnt U p (t+8*(k:Nat)))) _)
     rw [eN]
     exact SubM.sl
    | true =>
     rw [hw] at eN
     change zav s (rng (i+1) fun k=>tEnt U p (t+8*(k:Nat)))=appR S4 .data at eN
     refine br (fun ha=>?_) (fun ha=>?_)
     ·replace ha:S4.active=true:=ha
      rw [show appR S4 .data={ S4 with data:=inc S4.data } from if_pos ha] at eN
      refine gGw ?_
      refine⟨(i+1,g4),by show ((i+1:Nat):Int)≤p.c/8;omega,by show (p.c/8).toNat-(i+1)<(p.c/8).toNat-i;omega,⟨congrArg (fun x=>some (Value.int .i64 x)) (by push_cast;rfl),rfl,rfl,trivial⟩,?_⟩
      show SubM _ _ (rM p (zav s (rng (i+1) fun k=>tEnt U p (t+8*(k:Nat)))) _)
      rw [eN]
      exact SubM.sl
     ·replace ha:S4.active=false:=ha
      rw [show appR S4 .data=S4 from if_neg (by rw [ha];decide)] at eN
      refine gGw ?_
      refine⟨(i+1,g4),by show ((i+1:Nat):Int)≤p.c/8;omega,by show (p.c/8).toNat-(i+1)<(p.c/8).toNat-i;omega,⟨congrArg (fun x=>some (Value.int .i64 x)) (by push_cast;rfl),rfl,rfl,trivial⟩,?_⟩
      show SubM _ _ (rM p (zav s (rng (i+1) fun k=>tEnt U p (t+8*(k:Nat)))) _)
      rw [eN]
      exact SubM.sl
   replace h2:¬ e.kind=2:=h2
   refine gGw ?_
   refine br_d (fun h3=>?_) (fun h3=>?_)
   ·replace h3:e.kind=3:=h3
    have eF:zcu U p (t+8*(i:Int)) e=zhX U p (t+8*(i:Int)) e:=by unfold zcu zhX;rw [if_neg h2,if_pos h3]
    rw [eF] at eN
    refine gGw ?_
    refine⟨zmW,zac (m1:=rM p S g2) (by repeat constructor) (fun w' hm'=>zuk U hU p S g2 e (t+8*(i:Int)) w' hp hlb hcap (by omega) hcb (by omega) h3 hok2 (stb hm' (fun w3 h3=>hb w3 h3.fr)) hm'.part) ?_⟩
    rintro e' m' ⟨rfl,g4,rfl⟩
    refine gGw ?_
    refine⟨(i+1,g4),by show ((i+1:Nat):Int)≤p.c/8;omega,by show (p.c/8).toNat-(i+1)<(p.c/8).toNat-i;omega,⟨congrArg (fun x=>some (Value.int .i64 x)) (by push_cast;rfl),rfl,rfl,trivial⟩,?_⟩
    show SubM _ _ (rM p (zav s (rng (i+1) fun k=>tEnt U p (t+8*(k:Nat)))) _)
    rw [eN]
    exact SubM.sl
   ·replace h3:¬ e.kind=3:=h3
    have eF:zcu U p (t+8*(i:Int)) e=[]:=by unfold zcu;rw [if_neg h2,if_neg h3,if_neg h1]
    rw [eF] at eN
    change zav s (rng (i+1) fun k=>tEnt U p (t+8*(k:Nat)))=S at eN
    refine gGw ?_
    refine⟨(i+1,g2),by show ((i+1:Nat):Int)≤p.c/8;omega,by show (p.c/8).toNat-(i+1)<(p.c/8).toNat-i;omega,⟨congrArg (fun x=>some (Value.int .i64 x)) (by push_cast;rfl),rfl,rfl,trivial⟩,?_⟩
    show SubM _ _ (rM p (zav s (rng (i+1) fun k=>tEnt U p (t+8*(k:Nat)))) _)
    rw [eN]
    exact SubM.sl
 ·have ei:i=(p.c/8).toNat:=by omega
  refine gGw ?_
  exact fin0 rfl (fun w' hm=>⟨_,⟨rfl,g2,by rw [hS,ei]⟩,hm⟩) (by first|exact .inl rfl|exact .inr rfl)
end
end Go.Proofs.YtlmgelmloddfgaaGreat
