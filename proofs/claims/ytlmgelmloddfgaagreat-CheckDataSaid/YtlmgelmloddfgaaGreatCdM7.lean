/- Part of a proof: contracts of the functions that the law reaches. No statement of the seat is proved here. -/
import Derived.Test.YtlmgelmloddfgaaGreatCdM6
import Derived.Test.YtlmgelmloddfgaaGreatShelf
set_option linter.unusedVariables false
set_option linter.unusedSimpArgs false
set_option linter.unusedSectionVars false
set_option maxRecDepth 100000
namespace Go.Proofs.YtlmgelmloddfgaaGreat
open Go Go.RowKit Eng
def mayA (h:Hd):Bool:=decide (9≤h.bits)&&decide (h.bits≤16)&&decide (h.flags≤1)&&decide (0≤h.size)&&decide (h.size≤67108864)&&decide (h.size%512=0)
def may0 (h:Hd):Bool:=decide (0≤h.l1len)&&decide (h.l1len≤1048576)&&decide (zqT h≤h.l1len)
def may1 (h:Hd):Bool:=(decide (h.l1len=0)&&decide (h.l1=0))||(decide (0<h.l1len)&&plB h.l1 (clus h.bits))
def may2 (h:Hd):Bool:=decide (0≤h.order)&&decide (h.order≤6)
def may3 (h:Hd):Bool:=plB h.counts (clus h.bits)&&decide (1≤h.countsLen)&&decide (h.countsLen≤65536)
def may6 (h:Hd):Bool:=decide (h.backing.size≤64)&&h.backing.data.toList.all fun x=>!(x == 0)
theorem zir (h:Hd):mayH h=(mayA h&&may0 h&&may1 h&&may2 h&&may3 h&&liOk h.snaps h.snapsAt h.snapsLen (clus h.bits)&&liOk h.bitmaps h.bitmapsAt h.bitmapsLen (clus h.bits)&&may6 h):=rfl
theorem mayA_iff {h:Hd}:mayA h=true↔9≤h.bits∧h.bits≤16∧h.flags≤1∧0≤h.size∧h.size≤67108864∧h.size%512=0:=by
 unfold mayA
 simp only [Bool.and_eq_true,decide_eq_true_eq,and_assoc]
theorem zot (h:Hd):(decide (h.bits<9)||decide (16<h.bits)||decide (1<h.flags)||decide (h.size<0)||decide (67108864<h.size)||!decide (h.size.tmod 512=0))=!mayA h:=by
 cases hA:mayA h with
 | true =>
  have:=mayA_iff.1 hA
  rw [decide_eq_false (by omega),decide_eq_false (by omega),decide_eq_false (by omega),decide_eq_false (by omega),decide_eq_false (by omega),Int.tmod_eq_emod_of_nonneg (by omega),decide_eq_true this.2.2.2.2.2];rfl
 | false =>
  have hn:¬ (9≤h.bits∧h.bits≤16∧h.flags≤1∧0≤h.size∧h.size≤67108864∧h.size%512=0):=fun h'=>by rw [mayA_iff.2 h'] at hA;cases hA
  rw [Bool.not_false]
  simp only [Bool.or_eq_true,decide_eq_true_eq,Bool.not_eq_true',decide_eq_false_iff_not]
  by_cases hs:0≤h.size
  ·rw [Int.tmod_eq_emod_of_nonneg hs];omega
  ·omega
theorem ziG {xs:List Bool} {i:Nat} (h:i<xs.length):xs.getD i false∈xs:=by
 rw [List.getD_eq_getElem?_getD,List.getElem?_eq_getElem h]
 exact List.getElem_mem h
theorem zuN (l:List UInt8):decide (0≤Lib.indexByte l 0)=!(l.all fun x=>!(x == 0)):=by
 induction l with
 | nil=>rfl
 | cons b t ih =>
  rw [List.all_cons,Lib.indexByte]
  by_cases hb:(b == 0)=true
  ·rw [if_pos hb,hb];rfl
  ·rw [if_neg hb,Bool.not_eq_true] at *
   rw [hb,Bool.not_false,Bool.true_and,← ih]
   have hge:=Lib.indexByte_ge t 0
   by_cases hm:(Lib.indexByte t 0 == -1)=true
   ·rw [if_pos hm]
    have:=eq_of_beq hm
    rw [this]
   ·rw [if_neg hm]
    have:Lib.indexByte t 0≠-1:=fun h=>hm (by rw [h];rfl)
    rw [decide_eq_true (show 0≤Lib.indexByte t 0+1 by omega),decide_eq_true (show 0≤Lib.indexByte t 0 by omega)]
theorem zc8 (s:ByteArray) (w:World):Calls Tryz.prog 164 #[.string s,.string ⟨#[0]⟩] w fun e w'=>e=.returned (.bool (!(s.data.toList.all fun x=>!(x == 0))))∧Fr (fun _=>False) w w':=by
 refine (Tryz.strings_Contains_one s 0 w).mono ?_
 rintro e w' ⟨rfl,rfl⟩
 exact⟨by rw [zuN],Fr.refl _ _⟩
attribute [local irreducible] Br Rn RnU Cl RdG CpG Ld Rd Lp Dr Oth Cut fin Fits Eng.Enters Md NA
theorem zfE:Eng.Enters Tryz.prog 129:=zab fun _ _=>by kernel_rfl
theorem zca:Eng.Enters Tryz.prog 164:=zab fun _ _=>by kernel_rfl
set_option maxHeartbeats 4000000 in
theorem ziC (h:Hd) (w:World) :
  Calls Tryz.prog 129 #[.agg h.cells.toArray] w fun e w'=>e=.returned (.int .i64 (if mayH h then 0 else 2))∧Fr (fun _=>False) w w':=by
 refine enter (cx:=⟨Tryz.prog,136,w,fun _=>False,tab,[],[161,162,163,164],[],[]⟩) [(0,.agg h.cells.toArray)] zaa Tryz.func129 rfl rfl rfl rfl (MemOk.nil w _) ?_
 refine gGw ?_;(repeat ((first|refine .mk fun Ap capp=>?_|intro _);(conv=>whnf);refine gG0 ?_))
 refine zdh zaa ?_
 refine gGw ?_
 refine And.intro (fun _=>by decide) ?_
 conv=>whnf
 rw [zot]
 rw [zir]
 cases hA:mayA h with
 | false =>
  refine br_t rfl ?_
  refine gGw ?_
  exact fin1 rfl rfl (fun w' hm=>⟨by simp only [Bool.false_and];rfl,hm.fr⟩)
 | true =>
  have hA':=mayA_iff.1 hA
  simp only [Bool.true_and]
  obtain ⟨BS,hBS⟩:∃ BS:List Bool,BS=[may0 h,may1 h,may2 h,may3 h,liOk h.snaps h.snapsAt h.snapsLen (clus h.bits),liOk h.bitmaps h.bitmapsAt h.bitmapsLen (clus h.bits),may6 h]:=⟨_,rfl⟩
  have hall:(may0 h&&may1 h&&may2 h&&may3 h&&liOk h.snaps h.snapsAt h.snapsLen (clus h.bits)&&liOk h.bitmaps h.bitmapsAt h.bitmapsLen (clus h.bits)&&may6 h)=BS.all id:=by
   rw [hBS];simp only [List.all_cons,List.all_nil,id,Bool.and_true,Bool.and_assoc]
  have hm6:may6 h=(decide ((h.backing.size:Int)≤64)&&!(!(h.backing.data.toList.all fun x=>!(x == 0)))):=by
   rw [Bool.not_not];unfold may6;congr 1;exact decide_eq_decide.2 (by omega)
  have hBl:BS.length=7:=by rw [hBS];rfl
  rw [hall]
  refine br_f rfl ?_
  refine gGw ?_
  refine And.intro ⟨by omega,by show h.bits≤(64:Int);omega⟩ ?_
  conv=>whnf
  rw [zht ⟨hA'.1,hA'.2.1⟩]
  refine gG0 ?_;(repeat ((first|refine .mk fun Ap capp=>?_|intro _);(conv=>whnf);refine gG0 ?_))
  rename_i hB cB pB
  have hcb:=zc4 ⟨hA'.1,hA'.2.1⟩
  refine zmn 84 82 zaa mixed rfl (by kernel_rfl) (by kernel_rfl) (by kernel_rfl) (by kernel_rfl) ?_
  conv=>whnf
  (repeat ((first|refine stp (by (repeat constructor);first|done|fail) ?_|refine stn (by (repeat constructor);first|done|fail) ?_|refine sto (by (repeat constructor);first|done|fail) (by first|omega|(simp only;omega)|decide) ?_|(refine zaO (And.intro (fun hg=>?_) ?_);focus (simp only [Bool.and_eq_true,Bool.or_eq_true,Bool.not_eq_true',decide_eq_true_eq,decide_eq_false_iff_not] at hg;first|omega|exact zaf (by omega)|exact zak (by omega)|assumption))|refine .mk fun Ap capp=>?_|refine⟨?_,trivial⟩);conv=>whnf))
  refine⟨_,cpg zl9 (fun _ w' _=>zrV h w' ⟨hA'.1,hA'.2.1⟩ (by omega)),?_⟩
  conv=>whnf
  (repeat ((first|refine stp (by (repeat constructor);first|done|fail) ?_|refine stn (by (repeat constructor);first|done|fail) ?_|refine sto (by (repeat constructor);first|done|fail) (by first|omega|(simp only;omega)|decide) ?_|(refine zaO (And.intro (fun hg=>?_) ?_);focus (simp only [Bool.and_eq_true,Bool.or_eq_true,Bool.not_eq_true',decide_eq_true_eq,decide_eq_false_iff_not] at hg;first|omega|exact zaf (by omega)|exact zak (by omega)|assumption))|refine .mk fun Ap capp=>?_|refine⟨?_,trivial⟩);conv=>whnf))
  have hcc:∀ w',Res.ok w' (.blk cB (.cells [Value.int .i64 (clus h.bits)].toArray 2))→w'.cell? ⟨cB,0,none⟩=some (.int .i64 (clus h.bits)):=fun w' h9=>(zaM h9 0).trans rfl
  have hpc:∀ w',Res.ok w' (.blk pB (.cells [Value.func (.func 161) #[] #[.pointer (some ⟨cB,0,none⟩)]].toArray 136))→w'.cell? ⟨pB,0,none⟩=some (.func (.func 161) #[] #[.pointer (some ⟨cB,0,none⟩)]):=fun w' h9=>(zaM h9 0).trans rfl
  refine br (fun h1=>?_) (fun h1=>?_)
  ·have hm1:may1 h=true:=by unfold may1;rw [h1];rfl
   conv=>whnf
   (repeat ((first|refine stp (by (repeat constructor);first|done|fail) ?_|refine stn (by (repeat constructor);first|done|fail) ?_|refine sto (by (repeat constructor);first|done|fail) (by first|omega|(simp only;omega)|decide) ?_|(refine zaO (And.intro (fun hg=>?_) ?_);focus (simp only [Bool.and_eq_true,Bool.or_eq_true,Bool.not_eq_true',decide_eq_true_eq,decide_eq_false_iff_not] at hg;first|omega|exact zaf (by omega)|exact zak (by omega)|assumption))|refine .mk fun Ap capp=>?_|refine⟨?_,trivial⟩);conv=>whnf))
   refine⟨_,cpg zcu (fun _ w' hm'=>zd8 h.counts (clus h.bits) cB w' (hcc w' (hm'.ok _ (List.mem_cons_of_mem _ (List.mem_cons_self ..)))) (by omega)),?_⟩
   conv=>whnf
   (repeat ((first|refine stp (by (repeat constructor);first|done|fail) ?_|refine stn (by (repeat constructor);first|done|fail) ?_|refine sto (by (repeat constructor);first|done|fail) (by first|omega|(simp only;omega)|decide) ?_|(refine zaO (And.intro (fun hg=>?_) ?_);focus (simp only [Bool.and_eq_true,Bool.or_eq_true,Bool.not_eq_true',decide_eq_true_eq,decide_eq_false_iff_not] at hg;first|omega|exact zaf (by omega)|exact zak (by omega)|assumption))|refine .mk fun Ap capp=>?_|refine⟨?_,trivial⟩);conv=>whnf))
   refine⟨_,cpg zcl (fun _ w' hm'=>zd9 h.snaps h.snapsAt h.snapsLen (clus h.bits) cB pB w' (hcc w' (hm'.ok _ (List.mem_cons_of_mem _ (List.mem_cons_self ..)))) (hpc w' (hm'.ok _ (List.mem_cons_self ..))) (by omega)),?_⟩
   conv=>whnf
   (repeat ((first|refine stp (by (repeat constructor);first|done|fail) ?_|refine stn (by (repeat constructor);first|done|fail) ?_|refine sto (by (repeat constructor);first|done|fail) (by first|omega|(simp only;omega)|decide) ?_|(refine zaO (And.intro (fun hg=>?_) ?_);focus (simp only [Bool.and_eq_true,Bool.or_eq_true,Bool.not_eq_true',decide_eq_true_eq,decide_eq_false_iff_not] at hg;first|omega|exact zaf (by omega)|exact zak (by omega)|assumption))|refine .mk fun Ap capp=>?_|refine⟨?_,trivial⟩);conv=>whnf))
   refine⟨_,cpg zcl (fun _ w' hm'=>zd9 h.bitmaps h.bitmapsAt h.bitmapsLen (clus h.bits) cB pB w' (hcc w' (hm'.ok _ (List.mem_cons_of_mem _ (List.mem_cons_self ..)))) (hpc w' (hm'.ok _ (List.mem_cons_self ..))) (by omega)),?_⟩
   conv=>whnf
   (repeat ((first|refine stp (by (repeat constructor);first|done|fail) ?_|refine stn (by (repeat constructor);first|done|fail) ?_|refine sto (by (repeat constructor);first|done|fail) (by first|omega|(simp only;omega)|decide) ?_|(refine zaO (And.intro (fun hg=>?_) ?_);focus (simp only [Bool.and_eq_true,Bool.or_eq_true,Bool.not_eq_true',decide_eq_true_eq,decide_eq_false_iff_not] at hg;first|omega|exact zaf (by omega)|exact zak (by omega)|assumption))|refine .mk fun Ap capp=>?_|refine⟨?_,trivial⟩);conv=>whnf))
   refine⟨_,cpg zca (fun _ w' _=>zc8 h.backing w'),?_⟩
   refine gGw ?_;(repeat ((first|refine .mk fun Ap capp=>?_|intro _);(conv=>whnf);refine gG0 ?_))
   rename_i sB
   refine lp zaa (γ:=Nat) (fun i=>i≤7∧∀ j,j<i→BS.getD j false=true) (fun i=>[(127,.int .i64 (i:Int)),(126,.int .i64 7),(125,.slice (some ⟨sB,0,none⟩) 7 7),(6,.bool true)]) (fun _=>[.blk sB (.cells (BS.map Value.bool).toArray 4)]) (fun i=>7-i) 0 ⟨by omega,fun j hj=>by omega⟩ ⟨rfl,rfl,rfl,rfl,trivial⟩ (by
    rw [hBS,hm1,hm6]
    exact SubM.sl) ?_
   clear hcc hpc
   rintro i ⟨hi,hji⟩
   dsimp only
   conv=>whnf
   refine br_d (fun hlt=>?_) (fun hge=>?_)
   ·refine gGw ?_
    refine And.intro ⟨by omega,by omega,Pl.mk _ _⟩ ?_
    conv=>whnf
    refine zaj (ld1 (off:=0+i) (v:=.bool (BS.getD i false)) zaa (by repeat constructor) rfl rfl (by rw [Nat.zero_add,zcr,List.getElem?_map,List.getD_eq_getElem?_getD,List.getElem?_eq_getElem (show i<BS.length by omega)];rfl)) ?_
    refine gGw ?_
    cases hb:BS.getD i false with
    | true =>
     refine br_n (br_t rfl ?_)
     refine gGw ?_
     exact⟨i+1,⟨by omega,fun j hj=>by rcases Nat.lt_succ_iff_lt_or_eq.1 hj with h'|rfl;exact hji j h';exact hb⟩,by omega,⟨rfl,rfl,rfl,rfl,trivial⟩,SubM.refl _ _⟩
    | false =>
     have hno:BS.all id=false:=by
      rw [List.all_eq_false]
      refine⟨false,?_,by decide⟩
      rw [← hb]
      exact ziG (by omega)
     rw [hno]
     refine br_n (br_f rfl ?_)
     refine gGw ?_
     refine br_n (br_f rfl ?_)
     refine gGw ?_
     exact fin1 rfl rfl (fun w' hm=>⟨rfl,hm.fr⟩)
   ·have hyes:BS.all id=true:=by
     rw [List.all_eq_true]
     intro x hx
     obtain ⟨j,hj,rfl⟩:=List.mem_iff_getElem.1 hx
     have:=hji j (by omega)
     rw [List.getD_eq_getElem?_getD,List.getElem?_eq_getElem hj] at this
     exact this
    rw [hyes]
    refine gGw ?_
    refine br_n (br_t rfl ?_)
    refine gGw ?_
    exact fin1 rfl rfl (fun w' hm=>⟨rfl,hm.fr⟩)
  ·conv=>whnf
   (repeat ((first|refine stp (by (repeat constructor);first|done|fail) ?_|refine stn (by (repeat constructor);first|done|fail) ?_|refine sto (by (repeat constructor);first|done|fail) (by first|omega|(simp only;omega)|decide) ?_|(refine zaO (And.intro (fun hg=>?_) ?_);focus (simp only [Bool.and_eq_true,Bool.or_eq_true,Bool.not_eq_true',decide_eq_true_eq,decide_eq_false_iff_not] at hg;first|omega|exact zaf (by omega)|exact zak (by omega)|assumption))|refine .mk fun Ap capp=>?_|refine⟨?_,trivial⟩);conv=>whnf))
   refine br_d (fun h2=>?_) (fun h2=>?_)
   ·have hm1:may1 h=plB h.l1 (clus h.bits):=by unfold may1;rw [h1,decide_eq_true h2];rfl
    conv=>whnf
    (repeat ((first|refine stp (by (repeat constructor);first|done|fail) ?_|refine stn (by (repeat constructor);first|done|fail) ?_|refine sto (by (repeat constructor);first|done|fail) (by first|omega|(simp only;omega)|decide) ?_|(refine zaO (And.intro (fun hg=>?_) ?_);focus (simp only [Bool.and_eq_true,Bool.or_eq_true,Bool.not_eq_true',decide_eq_true_eq,decide_eq_false_iff_not] at hg;first|omega|exact zaf (by omega)|exact zak (by omega)|assumption))|refine .mk fun Ap capp=>?_|refine⟨?_,trivial⟩);conv=>whnf))
    refine⟨_,cpg zcu (fun _ w' hm'=>zd8 h.l1 (clus h.bits) cB w' (hcc w' (hm'.ok _ (List.mem_cons_of_mem _ (List.mem_cons_self ..)))) (by omega)),?_⟩
    conv=>whnf
    (repeat ((first|refine stp (by (repeat constructor);first|done|fail) ?_|refine stn (by (repeat constructor);first|done|fail) ?_|refine sto (by (repeat constructor);first|done|fail) (by first|omega|(simp only;omega)|decide) ?_|(refine zaO (And.intro (fun hg=>?_) ?_);focus (simp only [Bool.and_eq_true,Bool.or_eq_true,Bool.not_eq_true',decide_eq_true_eq,decide_eq_false_iff_not] at hg;first|omega|exact zaf (by omega)|exact zak (by omega)|assumption))|refine .mk fun Ap capp=>?_|refine⟨?_,trivial⟩);conv=>whnf))
    refine⟨_,cpg zcu (fun _ w' hm'=>zd8 h.counts (clus h.bits) cB w' (hcc w' (hm'.ok _ (List.mem_cons_of_mem _ (List.mem_cons_self ..)))) (by omega)),?_⟩
    conv=>whnf
    (repeat ((first|refine stp (by (repeat constructor);first|done|fail) ?_|refine stn (by (repeat constructor);first|done|fail) ?_|refine sto (by (repeat constructor);first|done|fail) (by first|omega|(simp only;omega)|decide) ?_|(refine zaO (And.intro (fun hg=>?_) ?_);focus (simp only [Bool.and_eq_true,Bool.or_eq_true,Bool.not_eq_true',decide_eq_true_eq,decide_eq_false_iff_not] at hg;first|omega|exact zaf (by omega)|exact zak (by omega)|assumption))|refine .mk fun Ap capp=>?_|refine⟨?_,trivial⟩);conv=>whnf))
    refine⟨_,cpg zcl (fun _ w' hm'=>zd9 h.snaps h.snapsAt h.snapsLen (clus h.bits) cB pB w' (hcc w' (hm'.ok _ (List.mem_cons_of_mem _ (List.mem_cons_self ..)))) (hpc w' (hm'.ok _ (List.mem_cons_self ..))) (by omega)),?_⟩
    conv=>whnf
    (repeat ((first|refine stp (by (repeat constructor);first|done|fail) ?_|refine stn (by (repeat constructor);first|done|fail) ?_|refine sto (by (repeat constructor);first|done|fail) (by first|omega|(simp only;omega)|decide) ?_|(refine zaO (And.intro (fun hg=>?_) ?_);focus (simp only [Bool.and_eq_true,Bool.or_eq_true,Bool.not_eq_true',decide_eq_true_eq,decide_eq_false_iff_not] at hg;first|omega|exact zaf (by omega)|exact zak (by omega)|assumption))|refine .mk fun Ap capp=>?_|refine⟨?_,trivial⟩);conv=>whnf))
    refine⟨_,cpg zcl (fun _ w' hm'=>zd9 h.bitmaps h.bitmapsAt h.bitmapsLen (clus h.bits) cB pB w' (hcc w' (hm'.ok _ (List.mem_cons_of_mem _ (List.mem_cons_self ..)))) (hpc w' (hm'.ok _ (List.mem_cons_self ..))) (by omega)),?_⟩
    conv=>whnf
    (repeat ((first|refine stp (by (repeat constructor);first|done|fail) ?_|refine stn (by (repeat constructor);first|done|fail) ?_|refine sto (by (repeat constructor);first|done|fail) (by first|omega|(simp only;omega)|decide) ?_|(refine zaO (And.intro (fun hg=>?_) ?_);focus (simp only [Bool.and_eq_true,Bool.or_eq_true,Bool.not_eq_true',decide_eq_true_eq,decide_eq_false_iff_not] at hg;first|omega|exact zaf (by omega)|exact zak (by omega)|assumption))|refine .mk fun Ap capp=>?_|refine⟨?_,trivial⟩);conv=>whnf))
    refine⟨_,cpg zca (fun _ w' _=>zc8 h.backing w'),?_⟩
    refine gGw ?_;(repeat ((first|refine .mk fun Ap capp=>?_|intro _);(conv=>whnf);refine gG0 ?_))
    rename_i sB
    refine lp zaa (γ:=Nat) (fun i=>i≤7∧∀ j,j<i→BS.getD j false=true) (fun i=>[(127,.int .i64 (i:Int)),(126,.int .i64 7),(125,.slice (some ⟨sB,0,none⟩) 7 7),(6,.bool true)]) (fun _=>[.blk sB (.cells (BS.map Value.bool).toArray 4)]) (fun i=>7-i) 0 ⟨by omega,fun j hj=>by omega⟩ ⟨rfl,rfl,rfl,rfl,trivial⟩ (by
     rw [hBS,hm1,hm6]
     exact SubM.sl) ?_
    clear hcc hpc
    rintro i ⟨hi,hji⟩
    dsimp only
    conv=>whnf
    refine br_d (fun hlt=>?_) (fun hge=>?_)
    ·refine gGw ?_
     refine And.intro ⟨by omega,by omega,Pl.mk _ _⟩ ?_
     conv=>whnf
     refine zaj (ld1 (off:=0+i) (v:=.bool (BS.getD i false)) zaa (by repeat constructor) rfl rfl (by rw [Nat.zero_add,zcr,List.getElem?_map,List.getD_eq_getElem?_getD,List.getElem?_eq_getElem (show i<BS.length by omega)];rfl)) ?_
     refine gGw ?_
     cases hb:BS.getD i false with
     | true =>
      refine br_n (br_t rfl ?_)
      refine gGw ?_
      exact⟨i+1,⟨by omega,fun j hj=>by rcases Nat.lt_succ_iff_lt_or_eq.1 hj with h'|rfl;exact hji j h';exact hb⟩,by omega,⟨rfl,rfl,rfl,rfl,trivial⟩,SubM.refl _ _⟩
     | false =>
      have hno:BS.all id=false:=by
       rw [List.all_eq_false]
       refine⟨false,?_,by decide⟩
       rw [← hb]
       exact ziG (by omega)
      rw [hno]
      refine br_n (br_f rfl ?_)
      refine gGw ?_
      refine br_n (br_f rfl ?_)
      refine gGw ?_
      exact fin1 rfl rfl (fun w' hm=>⟨rfl,hm.fr⟩)
    ·have hyes:BS.all id=true:=by
      rw [List.all_eq_true]
      intro x hx
      obtain ⟨j,hj,rfl⟩:=List.mem_iff_getElem.1 hx
      have:=hji j (by omega)
      rw [List.getD_eq_getElem?_getD,List.getElem?_eq_getElem hj] at this
      exact this
     rw [hyes]
     refine gGw ?_
     refine br_n (br_t rfl ?_)
     refine gGw ?_
     exact fin1 rfl rfl (fun w' hm=>⟨rfl,hm.fr⟩)
   ·have hm1:may1 h=false:=by unfold may1;rw [h1,decide_eq_false h2];rfl
    conv=>whnf
    (repeat ((first|refine stp (by (repeat constructor);first|done|fail) ?_|refine stn (by (repeat constructor);first|done|fail) ?_|refine sto (by (repeat constructor);first|done|fail) (by first|omega|(simp only;omega)|decide) ?_|(refine zaO (And.intro (fun hg=>?_) ?_);focus (simp only [Bool.and_eq_true,Bool.or_eq_true,Bool.not_eq_true',decide_eq_true_eq,decide_eq_false_iff_not] at hg;first|omega|exact zaf (by omega)|exact zak (by omega)|assumption))|refine .mk fun Ap capp=>?_|refine⟨?_,trivial⟩);conv=>whnf))
    refine⟨_,cpg zcu (fun _ w' hm'=>zd8 h.counts (clus h.bits) cB w' (hcc w' (hm'.ok _ (List.mem_cons_of_mem _ (List.mem_cons_self ..)))) (by omega)),?_⟩
    conv=>whnf
    (repeat ((first|refine stp (by (repeat constructor);first|done|fail) ?_|refine stn (by (repeat constructor);first|done|fail) ?_|refine sto (by (repeat constructor);first|done|fail) (by first|omega|(simp only;omega)|decide) ?_|(refine zaO (And.intro (fun hg=>?_) ?_);focus (simp only [Bool.and_eq_true,Bool.or_eq_true,Bool.not_eq_true',decide_eq_true_eq,decide_eq_false_iff_not] at hg;first|omega|exact zaf (by omega)|exact zak (by omega)|assumption))|refine .mk fun Ap capp=>?_|refine⟨?_,trivial⟩);conv=>whnf))
    refine⟨_,cpg zcl (fun _ w' hm'=>zd9 h.snaps h.snapsAt h.snapsLen (clus h.bits) cB pB w' (hcc w' (hm'.ok _ (List.mem_cons_of_mem _ (List.mem_cons_self ..)))) (hpc w' (hm'.ok _ (List.mem_cons_self ..))) (by omega)),?_⟩
    conv=>whnf
    (repeat ((first|refine stp (by (repeat constructor);first|done|fail) ?_|refine stn (by (repeat constructor);first|done|fail) ?_|refine sto (by (repeat constructor);first|done|fail) (by first|omega|(simp only;omega)|decide) ?_|(refine zaO (And.intro (fun hg=>?_) ?_);focus (simp only [Bool.and_eq_true,Bool.or_eq_true,Bool.not_eq_true',decide_eq_true_eq,decide_eq_false_iff_not] at hg;first|omega|exact zaf (by omega)|exact zak (by omega)|assumption))|refine .mk fun Ap capp=>?_|refine⟨?_,trivial⟩);conv=>whnf))
    refine⟨_,cpg zcl (fun _ w' hm'=>zd9 h.bitmaps h.bitmapsAt h.bitmapsLen (clus h.bits) cB pB w' (hcc w' (hm'.ok _ (List.mem_cons_of_mem _ (List.mem_cons_self ..)))) (hpc w' (hm'.ok _ (List.mem_cons_self ..))) (by omega)),?_⟩
    conv=>whnf
    (repeat ((first|refine stp (by (repeat constructor);first|done|fail) ?_|refine stn (by (repeat constructor);first|done|fail) ?_|refine sto (by (repeat constructor);first|done|fail) (by first|omega|(simp only;omega)|decide) ?_|(refine zaO (And.intro (fun hg=>?_) ?_);focus (simp only [Bool.and_eq_true,Bool.or_eq_true,Bool.not_eq_true',decide_eq_true_eq,decide_eq_false_iff_not] at hg;first|omega|exact zaf (by omega)|exact zak (by omega)|assumption))|refine .mk fun Ap capp=>?_|refine⟨?_,trivial⟩);conv=>whnf))
    refine⟨_,cpg zca (fun _ w' _=>zc8 h.backing w'),?_⟩
    refine gGw ?_;(repeat ((first|refine .mk fun Ap capp=>?_|intro _);(conv=>whnf);refine gG0 ?_))
    rename_i sB
    refine lp zaa (γ:=Nat) (fun i=>i≤7∧∀ j,j<i→BS.getD j false=true) (fun i=>[(127,.int .i64 (i:Int)),(126,.int .i64 7),(125,.slice (some ⟨sB,0,none⟩) 7 7),(6,.bool true)]) (fun _=>[.blk sB (.cells (BS.map Value.bool).toArray 4)]) (fun i=>7-i) 0 ⟨by omega,fun j hj=>by omega⟩ ⟨rfl,rfl,rfl,rfl,trivial⟩ (by
     rw [hBS,hm1,hm6]
     exact SubM.sl) ?_
    clear hcc hpc
    rintro i ⟨hi,hji⟩
    dsimp only
    conv=>whnf
    refine br_d (fun hlt=>?_) (fun hge=>?_)
    ·refine gGw ?_
     refine And.intro ⟨by omega,by omega,Pl.mk _ _⟩ ?_
     conv=>whnf
     refine zaj (ld1 (off:=0+i) (v:=.bool (BS.getD i false)) zaa (by repeat constructor) rfl rfl (by rw [Nat.zero_add,zcr,List.getElem?_map,List.getD_eq_getElem?_getD,List.getElem?_eq_getElem (show i<BS.length by omega)];rfl)) ?_
     refine gGw ?_
     cases hb:BS.getD i false with
     | true =>
      refine br_n (br_t rfl ?_)
      refine gGw ?_
      exact⟨i+1,⟨by omega,fun j hj=>by rcases Nat.lt_succ_iff_lt_or_eq.1 hj with h'|rfl;exact hji j h';exact hb⟩,by omega,⟨rfl,rfl,rfl,rfl,trivial⟩,SubM.refl _ _⟩
     | false =>
      have hno:BS.all id=false:=by
       rw [List.all_eq_false]
       refine⟨false,?_,by decide⟩
       rw [← hb]
       exact ziG (by omega)
      rw [hno]
      refine br_n (br_f rfl ?_)
      refine gGw ?_
      refine br_n (br_f rfl ?_)
      refine gGw ?_
      exact fin1 rfl rfl (fun w' hm=>⟨rfl,hm.fr⟩)
    ·have hyes:BS.all id=true:=by
      rw [List.all_eq_true]
      intro x hx
      obtain ⟨j,hj,rfl⟩:=List.mem_iff_getElem.1 hx
      have:=hji j (by omega)
      rw [List.getD_eq_getElem?_getD,List.getElem?_eq_getElem hj] at this
      exact this
     rw [hyes]
     refine gGw ?_
     refine br_n (br_t rfl ?_)
     refine gGw ?_
     exact fin1 rfl rfl (fun w' hm=>⟨rfl,hm.fr⟩)
end Go.Proofs.YtlmgelmloddfgaaGreat
namespace Go.Proofs.YtlmgelmloddfgaaGreat
open Go Go.RowKit Eng
def fAts:List Nat:=[4,8,16,24,32,36,40,48,52,56,64,68,72,80]
def fWid:List Nat:=[4,8,8,8,4,4,8,4,4,8,4,4,8,4]
theorem zjC (h:Hd):(zdG h).map Prod.fst=fWid:=rfl
theorem zuZ:∀ i,i<14→4+(fWid.take i).sum=fAts.getD i 0:=by decide
theorem zl0 (l:List (Nat × Int)):(zl1 l).length=(l.map Prod.fst).sum:=by
 unfold zl1
 induction l with
 | nil=>rfl
 | cons q t ih=>rw [List.flatMap_cons,List.length_append,zad,ih];simp
def preB (h:Hd) (i:Nat):List UInt8:=zit++zl1 ((zdG h).take i)
theorem zuy (h:Hd) {i:Nat} (hi:i<14):(preB h i).length=fAts.getD i 0:=by
 unfold preB
 rw [List.length_append,zl0,List.map_take,zjC,← zuZ i hi];rfl
theorem zgi (h:Hd):(preB h 14).length=84:=by
 unfold preB
 rw [List.length_append,zl0,List.map_take,zjC];rfl
theorem zbi (h:Hd) {i:Nat} {q:Nat × Int} (hq:(zdG h)[i]?=some q):preB h (i+1)=preB h i++leB q.2.toNat q.1:=by
 unfold preB zl1
 rw [List.take_add_one,hq,List.flatMap_append,← List.append_assoc]
 simp
def zoP (q:Nat × Nat × Int):List Value:=[.int .i64 q.1,.int .i64 q.2.1,.int .u64 q.2.2]
def fldL (h:Hd):List (Nat × Nat × Int):=fAts.zip (zdG h)
structure HOk (h:Hd):Prop where
 bits:9≤h.bits∧h.bits≤16
 flags:0≤h.flags∧h.flags≤1
 size:0≤h.size∧h.size≤67108864
 l1:0≤h.l1∧h.l1≤268435456
 l1len:0≤h.l1len∧h.l1len≤1048576
 order:0≤h.order∧h.order≤6
 counts:0<h.counts∧h.counts≤268435456
 countsLen:1≤h.countsLen∧h.countsLen≤65536
 snaps:0≤h.snaps∧h.snaps≤64
 snapsAt:0≤h.snapsAt∧h.snapsAt≤268435456
 snapsLen:0≤h.snapsLen∧h.snapsLen≤65536
 bitmaps:0≤h.bitmaps∧h.bitmaps≤64
 bitmapsAt:0≤h.bitmapsAt∧h.bitmapsAt≤268435456
 bitmapsLen:0≤h.bitmapsLen∧h.bitmapsLen≤65536
 backing:h.backing.size≤64
theorem zgQ {a c:Int}:plB a c=true↔0<a∧a≤268435456∧a%c=0:=by
 unfold plB;simp only [Bool.and_eq_true,decide_eq_true_eq,and_assoc]
theorem zrM {n a l c:Int} (h:liOk n a l c=true):(0≤n∧n≤64)∧(0≤a∧a≤268435456)∧0≤l∧l≤65536:=by
 unfold liOk at h
 split at h
 ·simp only [Bool.and_eq_true,decide_eq_true_eq] at h;omega
 ·simp only [Bool.and_eq_true,decide_eq_true_eq,zgQ] at h;omega
theorem zgT {h:Hd} (hf:0≤h.flags) (hm:mayH h=true):HOk h:=by
 rw [zir] at hm
 simp only [Bool.and_eq_true] at hm
 obtain ⟨⟨⟨⟨⟨⟨⟨hA,h0⟩,h1⟩,h2⟩,h3⟩,h4⟩,h5⟩,h6⟩:=hm
 have a:=mayA_iff.1 hA
 have b4:=zrM h4
 have b5:=zrM h5
 unfold may0 at h0;unfold may1 at h1;unfold may2 at h2;unfold may3 at h3;unfold may6 at h6
 simp only [Bool.and_eq_true,Bool.or_eq_true,decide_eq_true_eq,zgQ] at h0 h1 h2 h3 h6
 exact⟨by omega,by omega,by omega,by omega,by omega,by omega,by omega,by omega,b4.1,b4.2.1,b4.2.2,b5.1,b5.2.1,b5.2.2,h6.1⟩
attribute [local irreducible] Br Rn RnU Cl RdG CpG Ld Rd Lp Dr Oth Cut fin Fits Eng.Enters Md NA
theorem zkV:Eng.Enters Tryz.prog 130:=zab fun _ _=>by kernel_rfl
theorem zkO:Eng.Enters Tryz.prog 87:=zab fun _ _=>by kernel_rfl
set_option maxHeartbeats 1000000 in
theorem zp7 (h:Hd) (w:World) (hk:HOk h) :
  Ctr Tryz.prog 130 [.agg h.cells.toArray] [] (fun e m'=>∃ fB,e=.returned (.slice (some ⟨fB,0,none⟩) 14 14)∧m'=[.blk fB (.cells ((fldL h).flatMap zoP).toArray 217)]) w:=by
 obtain ⟨k1,k2,k3,k4,k5,k6,k7,k8,k9,k10,k11,k12,k13,k14,k15⟩:=hk
 refine enter (cx:=CXS 59 [] w (Foot [])) [(0,.agg h.cells.toArray)] zaa Tryz.func130 rfl rfl rfl rfl (MemOk.nil w _) ?_
 refine gGw ?_;(repeat ((first|refine .mk fun Ap capp=>?_|intro _);(conv=>whnf);refine gG0 ?_))
 refine⟨(fldL h).flatMap zoP,⟨by kernel_rfl,by kernel_rfl,by kernel_rfl⟩,?_⟩
 intro fB
 generalize (fldL h).flatMap zoP=cs
 refine gGw ?_
 exact fin1 rfl rfl (fun w' hm=>⟨_,⟨fB,rfl,rfl⟩,hm.sl⟩)
theorem zlu {α:Type} {f:α→List Value} {k:Nat} (hf:∀ x,(f x).length=k):∀ (L:List α) (i:Nat) (x:α),L[i]?=some x→zcN k (ze4 (i*k) (L.flatMap f))=f x
 | [],_,_,h=>by simp at h
 | y::L,0,x,h=>by
  simp only [List.getElem?_cons_zero,Option.some.injEq] at h
  subst h
  rw [zc5,zcK,Nat.zero_mul,List.drop_zero,List.flatMap_cons,List.take_append_of_le_length (by rw [hf];exact Nat.le_refl _),List.take_of_length_le (by rw [hf];exact Nat.le_refl _)]
 | y::L,i+1,x,h=>by
  have ih:=zlu hf L i x (by simpa using h)
  rw [zc5,zcK] at ih ⊢
  rw [List.flatMap_cons,show (i+1)*k=(f y).length+i*k by rw [hf,Nat.succ_mul];omega,List.drop_append,List.drop_of_length_le (by omega),Nat.add_sub_cancel_left,List.nil_append]
  exact ih
theorem zwP {cx:Cx} (ht:TabOk cx.P cx.tab) {m:Mem} {t t' b i k:Nat} {ti:TyI} {fs:List (Nat × Nat)} {α:Type} {f:α→List Value} {L:List α} {x:α} (hh:Has m (.blk b (.cells (L.flatMap f).toArray t'))) (hi:cx.tab.get t=some ti) (hk:ti.kind=.struct fs) (hc:ti.cells=k) (hf:∀ x,(f x).length=k) (hx:L[i]?=some x) :
  Ld cx m t (.pointer (pl (some ⟨b,0,none⟩) (mulC (Int.toNat (i:Int)) k))) (.agg (f x).toArray):=by
 have e:pl (some ⟨b,0,none⟩) (mulC (Int.toNat (i:Int)) k)=some ⟨b,i*k,none⟩:=by
  rw [zcD,Int.toNat_natCast]
  show some (Addr.mk b (0+i*k) none)=_
  rw [Nat.zero_add]
 rw [e]
 exact ldN ht hh hi hk (by rw [hc];exact zlu hf L i x hx) (by rw [hf,hc])
theorem zr2 {h:Hd} (hk:HOk h):∀ q∈zdG h,0≤q.2∧q.2<4294967296∧(q.1=4∨q.1=8):=by
 obtain ⟨k1,k2,k3,k4,k5,k6,k7,k8,k9,k10,k11,k12,k13,k14,k15⟩:=hk
 intro q hq
 unfold zdG at hq
 simp only [List.mem_cons,List.not_mem_nil,or_false] at hq
 rcases hq with rfl|rfl|rfl|rfl|rfl|rfl|rfl|rfl|rfl|rfl|rfl|rfl|rfl|rfl<;>exact⟨by show (0:Int)≤_;omega,by show _<(4294967296:Int);omega,by simp⟩
theorem zr3 (h:Hd) {i:Nat} (hi:i<14):∃ q,(zdG h)[i]?=some q∧q∈zdG h∧(fldL h)[i]?=some (fAts.getD i 0,q):=by
 have h1:i<(zdG h).length:=hi
 have h2:i<fAts.length:=hi
 refine⟨(zdG h)[i],List.getElem?_eq_getElem h1,List.getElem_mem h1,?_⟩
 have h3:i<(fldL h).length:=hi
 rw [List.getElem?_eq_getElem h3]
 simp only [fldL,List.getElem_zip]
 rw [List.getD_eq_getElem?_getD,List.getElem?_eq_getElem h2];rfl
theorem zwX (h:Hd) (hs:h.backing.size≤64):preB h 14++leB h.backing.size 4++h.backing.data.toList++List.replicate (64-h.backing.size) 0++(List.replicate (512-(preB h 14).length) (0:UInt8)).drop (4+64)=zbe h:=by
 rw [zgi,List.drop_replicate]
 unfold zbe
 have e:preB h 14=zit++zl1 (zdG h):=rfl
 rw [e]
 have e2:List.replicate (64-h.backing.size) (0:UInt8)++List.replicate (512-84-(4+64)) 0=List.replicate (424-h.backing.size) 0:=by
  rw [List.replicate_append_replicate];congr 1;omega
 rw [← e2]
 simp only [List.append_assoc]
theorem zw3:∀ i,i<14→fAts.getD i 0≤80:=by decide
theorem zvi {bs:List UInt8} {a n:Nat} {l:Nat} (hbl:bs.length=l) (A:Option Addr) (c x:Nat) (w:World) (hl:l≤140737488355328) (hn:1≤n∧n≤8) (hfit:a+n≤l) (hx:x<256 ^ n) (hm:MemOk w (Foot [BR8 A c l bs]) [BR8 A c l bs] w) :
  Ctr Tryz.prog 131 [.slice A l c,.int .i64 (a:Int),.int .i64 (n:Int),.int .u64 (x:Int)] [BR8 A c l bs] (fun e m'=>e=.returned (.int .i64 0)∧m'=[BR8 A c l (setB bs a (leB x n))]) w:=by
 subst hbl
 exact znO bs A c a n x w hl hn hfit hx hm
theorem zra {X R:List UInt8} {l a:Nat} (hbl:(X++R).length=l) (hX:X.length=a) (A:Option Addr) (c most:Nat) (s:ByteArray) (w:World) (hl:X.length+R.length≤100000000) (hs:s.size≤most) (h1:1≤most∧most≤1048576) (h2:4+most≤R.length) (hm:MemOk w (Foot [BR8 A c l (X++R)]) [BR8 A c l (X++R)] w) :
  Ctr Tryz.prog 132 [.slice A l c,.int .i64 (a:Int),.int .i64 (most:Int),.string s] [BR8 A c l (X++R)] (fun e m'=>e=.returned (.int .i64 0)∧m'=[BR8 A c l (X++leB s.size 4++s.data.toList++List.replicate (most-s.size) 0++R.drop (4+most))]) w:=by
 subst hbl hX
 exact zmN X R A c most s w hl hs h1 h2 hm
def hbB (h:Hd) (i:Nat):List UInt8:=preB h i++List.replicate (512-(preB h i).length) 0
theorem zr5 (h:Hd) {i:Nat} (hi:(preB h i).length≤512):(hbB h i).length=512:=by unfold hbB;simp;omega
theorem zwW (h:Hd) {i:Nat} {q:Nat × Int} (hq:(zdG h)[i]?=some q):setB (hbB h i) (preB h i).length (leB q.2.toNat q.1)=hbB h (i+1):=by
 unfold hbB
 rw [zfc,zad,zbi h hq,List.length_append,zad,List.drop_replicate]
 congr 2;omega
theorem zrs {cx:Cx} {m m':Mem} {dT sT e ty:Nat} {i ti:TyI} {A D:Option Addr} {cap n off dLen dCap:Nat} {xs:List Value} {s:ByteArray} {K:Value→Mem→Prop} (ys:List Value) (hy:zbu off ((zah s.data.toList).map (.int .u8)) xs=ys) (ht:TabOk cx.P cx.tab)
  (hi:cx.tab.get dT=some i) (hk:i.kind=.slice e) (hti:cx.tab.get e=some ti) (hs:ti.cells=1) (hu:Out m (.row A cap n e 1 xs) m') (hD:D=pl A off) (hle:s.size≤dLen)
  (hfit:off+s.size≤n) (hK:K (.int .i64 (s.size:Nat)) (.row A cap n e 1 ys::m')) :
  Rn cx m (Builtin.copy_ #[dT,sT] ty #[.slice D dLen dCap,.string s]) K:=by
 subst hy
 exact zn8 ht hi hk hti hs hu hD hle hfit hK
theorem zuR (h:Hd):zbu 0 ((zah zit).map (Value.int .u8)) (List.replicate 512 (.int .u8 0))=(zah (hbB h 0)).map (.int .u8):=by
 rw [zgx,zfQ _ _ _ (by rw [List.length_replicate];decide)]
 have:=zfc [] (List.replicate 512 0) zit
 rw [List.nil_append,List.nil_append] at this
 rw [show ([]:List UInt8).length=0 from rfl] at this
 rw [this]
 have e:preB h 0=zit:=by unfold preB zl1;simp
 unfold hbB
 rw [e,List.drop_replicate]
set_option maxHeartbeats 1000000 in
theorem zp2 (h:Hd) (w:World) (hf:0≤h.flags) :
  Ctr Tryz.prog 87 [.agg h.cells.toArray] [] (fun e m'=>(mayH h=false∧e=.returned (.tuple #[.slice none 0 0,.int .i64 2])∧m'=[]) ∨
   (mayH h=true∧∃ A c,e=.returned (.tuple #[.slice A 512 c,.int .i64 0])∧m'=[BR8 A c 512 (zbe h)])) w:=by
 refine enter (cx:=CXS 34 [] w (Foot [])) [(0,.agg h.cells.toArray)] zaa Tryz.func87 rfl rfl rfl rfl (MemOk.nil w _) ?_
 refine gGw ?_;(repeat ((first|refine .mk fun Ap capp=>?_|intro _);(conv=>whnf);refine gG0 ?_))
 refine⟨zfE,zae _ (fun w' _=>ziC h w') ?_⟩
 cases hmay:mayH h with
 | false =>
  refine gGw ?_
  refine br_n (br_f rfl ?_)
  refine gGw ?_
  exact fin2 rfl rfl rfl (fun w' hm=>⟨_,.inl ⟨rfl,rfl,rfl⟩,hm.sublist (List.nil_sublist _)⟩)
 | true =>
  have hk:=zgT hf hmay
  refine gGw ?_
  refine br_n (br_t rfl ?_)
  refine gGw ?_
  rename_i xB
  refine zc6 zaa rfl rfl rfl rfl rfl (by decide) (by decide) (by decide) (fun rB=>?_)
  refine gGw ?_
  refine zrs (off:=0) ((zah (hbB h 0)).map (.int .u8)) (zuR h) zaa rfl rfl rfl rfl (by repeat constructor) rfl (by decide) (by decide) ?_
  refine gGw ?_
  refine⟨zkV,zac (m1:=[]) .nil (fun w' hm'=>zp7 h w' hk) ?_⟩
  rintro e m' ⟨fB,rfl,rfl⟩
  refine gGw ?_
  refine lp zaa (γ:=Nat) (fun i=>i≤14) (fun i=>[(16,.int .i64 (i:Int)),(15,.int .i64 14),(14,.slice (some ⟨fB,0,none⟩) 14 14),(4,.slice (some ⟨rB,0,none⟩) 512 512),(1,.pointer (some ⟨xB,0,none⟩))])
   (fun i=>[.blk fB (.cells ((fldL h).flatMap zoP).toArray 217),BR8 (some ⟨rB,0,none⟩) 512 512 (hbB h i),.blk xB (.cells h.cells.toArray 34)]) (fun i=>14-i) 0 (by omega) ⟨rfl,rfl,rfl,rfl,rfl,trivial⟩ SubM.sl ?_
  rintro i hi
  dsimp only
  conv=>whnf
  refine br_d (fun hlt=>?_) (fun hge=>?_)
  ·refine gGw ?_
   refine And.intro ⟨by omega,by omega,Pl.mk _ _⟩ ?_
   conv=>whnf
   obtain ⟨q,hq1,hq2,hq3⟩:=zr3 h (i:=i) (by omega)
   have hqk:=zr2 hk q hq2
   have hpl:=zuy h (i:=i) (by omega)
   have hat:=zw3 i (by omega)
   have hset:=zwW h hq1
   have hbl:=zr5 h (i:=i) (by omega)
   rw [hpl] at hset
   obtain ⟨x,hx⟩:∃ x:Nat,q.2=(x:Int):=⟨q.2.toNat,(Int.toNat_of_nonneg hqk.1).symm⟩
   have hxn:q.2.toNat=x:=by omega
   have hx8:x<256 ^ q.1:=by
    rcases hqk.2.2 with h4|h8
    ·rw [h4];omega
    ·rw [h8];omega
   refine zaj (zwP (k:=3) zaa (by repeat constructor) rfl rfl rfl (fun _=>rfl) hq3) ?_
   refine gGw ?_;(repeat ((first|refine .mk fun Ap capp=>?_|intro _);(conv=>whnf);refine gG0 ?_))
   rw [hx]
   refine⟨zfK,zac (m1:=[BR8 (some ⟨rB,0,none⟩) 512 512 (hbB h i)]) (by repeat constructor) (fun w' hm'=>zvi (bs:=hbB h i) (a:=fAts.getD i 0) (n:=q.1) hbl (some ⟨rB,0,none⟩) 512 x w' (by omega) (by omega) (by omega) hx8 hm'.part) ?_⟩
   rintro e m' ⟨rfl,rfl⟩
   rw [← hxn,hset]
   refine gGw ?_
   exact⟨i+1,by omega,by omega,⟨rfl,rfl,rfl,rfl,rfl,trivial⟩,SubM.sl⟩
  ·obtain rfl:i=14:=by omega
   have hpa:=zgi h
   have hbl:=zr5 h (i:=14) (by omega)
   have hend:=zwX h hk.backing
   have hbs:=hk.backing
   refine gGw ?_
   refine⟨ziZ,zac (m1:=[BR8 (some ⟨rB,0,none⟩) 512 512 (hbB h 14)]) (by repeat constructor) (fun w' hm'=>zra (X:=preB h 14) (R:=List.replicate (512-(preB h 14).length) 0) (l:=512) (a:=84) hbl hpa (some ⟨rB,0,none⟩) 512 64 h.backing w' (by rw [List.length_replicate];omega) hbs (by omega) (by rw [List.length_replicate];omega) hm'.part) ?_⟩
   rintro e m' ⟨rfl,rfl⟩
   rw [hend]
   refine gGw ?_
   exact fin2 rfl rfl rfl (fun w' hm=>⟨_,.inr ⟨rfl,some ⟨rB,0,none⟩,512,rfl,rfl⟩,hm.sl⟩)
end Go.Proofs.YtlmgelmloddfgaaGreat
namespace Go.Proofs.YtlmgelmloddfgaaGreat
open Go Go.RowKit Eng
section
variable {cx:Cx}
theorem zsU {d:Option Nat} {t ty:Nat} {ps:Array (Nat × Operand)} {e:Env} {m:Mem} {K:Value→Mem→Prop} {KP:List PanicEntry→Mem→Prop} (v:Value) (h:popV cx d (.build t ps) e=some (v,none)) (hK:K v m):XO cx d (.build t ps) ty e m K KP:=by
 show zcM cx d (.build t ps) e (fun v=>K v m)
 unfold zcM
 rw [h]
 exact hK
end
attribute [local irreducible] Br Rn RnU Cl RdG CpG Ld Rd Lp Dr Oth Cut fin Fits Eng.Enters Md NA
theorem zfH:Eng.Enters Tryz.prog 51:=zab fun _ _=>by kernel_rfl
theorem zaW:Eng.Enters Tryz.prog 84:=zab fun _ _=>by kernel_rfl
theorem zmb:Eng.Enters Tryz.prog 55:=zab fun _ _=>by kernel_rfl
theorem zkP:Eng.Enters Tryz.prog 88:=zab fun _ _=>by kernel_rfl
theorem zkM:Eng.Enters Tryz.prog 89:=zab fun _ _=>by kernel_rfl
theorem zcV:Eng.Enters Tryz.prog 56:=zab fun _ _=>by kernel_rfl
theorem znH (xs ys:List UInt8) (A B:Option Addr) (c d:Nat) (w:World) (hx:BytsIn w A xs) (hy:BytsIn w B ys) :
  Calls Tryz.prog 51 #[.slice A xs.length c,.slice B ys.length d] w fun e w'=>e=.returned (.bool (decide (xs=ys)))∧Fr (fun _=>False) w w':=by
 refine enter (cx:=CX 10 [] w) [(0,.slice A xs.length c),(1,.slice B ys.length d)] zaa Tryz.func51 rfl rfl rfl rfl (MemOk.nil w _) ?_
 refine gGw ?_
 refine Rd.n (zcB (bs:=xs) zaa rfl rfl rfl rfl rfl rfl (BytsIn.byts hx (fun _ h=>h)) _) ?_
 refine gGw ?_
 refine Rd.n (zcB (bs:=ys) zaa rfl rfl rfl rfl rfl rfl (BytsIn.byts hy (fun _ h=>h)) _) ?_
 refine gGw ?_
 refine fin1 rfl rfl (fun w' hm=>⟨?_,hm.fr⟩)
 show Ending.returned (Value.bool (decide (Str xs=Str ys)))=_
 rw [decide_eq_decide.2 (Str.inj (l:=xs) (k:=ys))]
theorem zuQ (bs:List UInt8) (A:Option Addr) (c bB at_ n:Nat) (w:World) (hc:w.cell? ⟨bB,0,none⟩=some (.slice A bs.length c)) (hb:BytsIn w A bs) (hl:bs.length≤1000000) (h1:at_+n≤bs.length) (hn:1≤n∧n≤8) :
  Calls Tryz.prog 84 #[.int .i64 (at_:Int),.int .i64 (n:Int),.pointer (some ⟨bB,0,none⟩)] w fun e w'=>e=.returned (.int .i64 (i64w (getV bs at_ n)))∧Fr (fun _=>False) w w':=by
 have hF:∀ w',Fr (fun _=>False) w w'→BytsIn w' A bs:=fun w' hf=>Byts.in_ (BytsIn.byts (cx:=CX 17 [] w) (m:=[]) hb (fun _ h=>h)) ((MemOk.nil w _).same hf)
 have eG:getF bs at_ n=(getV bs at_ n,0):=by
  rw [getF,if_neg (by omega),liesB_iff.2 ⟨by omega,by omega,by omega⟩,if_pos rfl,Int.toNat_natCast,Int.toNat_natCast]
 refine enter (cx:=CX 17 [16] w) [(0,.int .i64 (at_:Int)),(1,.int .i64 (n:Int)),(2,.pointer (some ⟨bB,0,none⟩))] zaa Tryz.func84 rfl rfl rfl rfl (MemOk.nil w _) ?_
 refine gGw ?_
 refine zaj (ldF zaa hc (fun h=>h) rfl rfl) ?_
 refine gGw ?_
 refine⟨zfm,zae _ (fun w' hm'=>zkQ bs A c at_ n w' (hF w' hm'.fr) (by omega) (by omega)) ?_⟩
 rw [eG]
 refine gGw ?_
 exact fin1 rfl rfl (fun w' hm=>⟨rfl,hm.fr⟩)
theorem zp0 (x:Int) (w:World):Calls Tryz.prog 89 #[.int .i64 x] w fun e w'=>e=.returned (.int .i64 x)∧Fr (fun _=>False) w w':=by
 refine enter (cx:=CX 4 [] w) [(0,.int .i64 x)] zaa Tryz.func89 rfl rfl rfl rfl (MemOk.nil w _) ?_
 refine gGw ?_
 exact fin1 rfl rfl (fun w' hm=>⟨rfl,hm.fr⟩)
theorem zp3 (h:Hd) (w:World) (hf:0≤h.flags) (hm:mayH h=true) :
  Calls Tryz.prog 88 #[.agg h.cells.toArray,.func (.func 89) #[] #[]] w fun e w'=>e=.returned (.int .i64 (clus h.bits))∧Fr (fun _=>False) w w':=by
 have hk:=zgT hf hm
 refine enter (cx:=CX 13 [] w) [(0,.agg h.cells.toArray),(1,.func (.func 89) #[] #[])] zaa Tryz.func88 rfl rfl rfl rfl (MemOk.nil w _) ?_
 refine gGw ?_;(repeat ((first|refine .mk fun Ap capp=>?_|intro _);(conv=>whnf);refine gG0 ?_))
 refine⟨zfE,zae _ (fun w' _=>ziC h w') ?_⟩
 rw [if_pos hm]
 refine gGw ?_
 refine br_n (br_t rfl ?_)
 refine gGw ?_
 have hb:=hk.bits
 refine And.intro ⟨by omega,by show h.bits≤(64:Int);omega⟩ ?_
 conv=>whnf
 rw [zht hk.bits]
 refine gG0 ?_
 refine⟨zkM,zae _ (fun w' _=>zp0 (clus h.bits) w') ?_⟩
 refine gGw ?_
 exact fin1 rfl rfl (fun w' hm=>⟨rfl,hm.fr⟩)
theorem ze0 (h:Hd) (w:World) (hf:0≤h.flags) (hm:mayH h=true) :
  Calls Tryz.prog 56 #[.agg h.cells.toArray] w fun e w'=>e=.returned (.int .i64 (clus h.bits))∧Fr (fun _=>False) w w':=by
 refine enter (cx:=CX 5 [] w) [(0,.agg h.cells.toArray)] zaa Tryz.func56 rfl rfl rfl rfl (MemOk.nil w _) ?_
 refine gGw ?_;(repeat ((first|refine .mk fun Ap capp=>?_|intro _);(conv=>whnf);refine gG0 ?_))
 refine⟨zkP,zae _ (fun w' _=>zp3 h w' hf hm) ?_⟩
 refine gGw ?_
 exact fin1 rfl rfl (fun w' hm=>⟨rfl,hm.fr⟩)
/-! ## Read -/
theorem zpW {x:Nat} (h:x<9223372036854775808):i64w x=(x:Int):=IntWalk.i64_in _ (by omega)
theorem znV {x:Nat} (h:x<18446744073709551616):IntKind.u64.wrap (i64w x)=(x:Int):=by
 unfold i64w
 rw [IntKind.wrap_u64,IntKind.wrap_i64];omega
def hdI (bs:List UInt8) (nm:ByteArray):Hd where
 bits:=i64w (getV bs 4 4)
 flags:=IntKind.u64.wrap (i64w (getV bs 8 8))
 size:=i64w (getV bs 16 8)
 l1:=i64w (getV bs 24 8)
 l1len:=i64w (getV bs 32 4)
 order:=i64w (getV bs 36 4)
 counts:=i64w (getV bs 40 8)
 countsLen:=i64w (getV bs 48 4)
 snaps:=i64w (getV bs 52 4)
 snapsAt:=i64w (getV bs 56 8)
 snapsLen:=i64w (getV bs 64 4)
 bitmaps:=i64w (getV bs 68 4)
 bitmapsAt:=i64w (getV bs 72 8)
 bitmapsLen:=i64w (getV bs 80 4)
 backing:=nm
def hdZ:Hd:=⟨0,0,0,0,0,0,0,0,0,0,0,0,0,0,⟨#[]⟩⟩
def zb7 (bs:List UInt8):Option Hd :=
 if bs.length<512 then none
 else if (zdX (bs.take 512) 84 64).2=0∧mayH (hdI (bs.take 512) (zdX (bs.take 512) 84 64).1)=true∧zbe (hdI (bs.take 512) (zdX (bs.take 512) 84 64).1)=bs.take 512 then some (hdI (bs.take 512) (zdX (bs.take 512) 84 64).1)
 else none
theorem zvX {bs:List UInt8} {n:Nat} (hn:bs.length=n) (A:Option Addr) (c at_ most:Nat) (w:World) (hb:BytsIn w A bs) (hc:n≤c) (hl:n≤140737488355328) (h1:most≤1048576) (h2:at_+4+most≤n) :
  Calls Tryz.prog 86 #[.slice A n c,.int .i64 (at_:Int),.int .i64 (most:Int)] w fun e w'=>e=.returned (.tuple #[.string (zdX bs at_ most).1,.int .i64 (zdX bs at_ most).2])∧Fr (fun _=>False) w w':=by
 subst hn
 exact zqD bs A c at_ most w hb hc hl h1 h2
theorem zmt {xs ys:List UInt8} {n m:Nat} (hn:xs.length=n) (hm:ys.length=m) (A B:Option Addr) (c d:Nat) (w:World) (hx:BytsIn w A xs) (hy:BytsIn w B ys) :
  Calls Tryz.prog 51 #[.slice A n c,.slice B m d] w fun e w'=>e=.returned (.bool (decide (xs=ys)))∧Fr (fun _=>False) w w':=by
 subst hn hm
 exact znH xs ys A B c d w hx hy
theorem zdF {bs:List UInt8} {l:Nat} (hbl:bs.length=l) (A:Option Addr) (c bB at_ n:Nat) (w:World) (hc:w.cell? ⟨bB,0,none⟩=some (.slice A l c)) (hb:BytsIn w A bs) (hl:l≤1000000) (h1:at_+n≤l) (hn:1≤n∧n≤8) :
  Calls Tryz.prog 84 #[.int .i64 (at_:Int),.int .i64 (n:Int),.pointer (some ⟨bB,0,none⟩)] w fun e w'=>e=.returned (.int .i64 (i64w (getV bs at_ n)))∧Fr (fun _=>False) w w':=by
 subst hbl
 exact zuQ bs A c bB at_ n w hc hb hl h1 hn
set_option maxHeartbeats 2000000 in
theorem zrW (bs:List UInt8) (A:Option Addr) (c:Nat) (w:World) (hb:BytsIn w A bs) (hc:bs.length≤c) (hl:bs.length≤20000000) :
  Calls Tryz.prog 55 #[.slice A bs.length c] w fun e w'=>e=.returned (match zb7 bs with
   | none=>.tuple #[.agg hdZ.cells.toArray,.int .i64 180]
   | some h=>.tuple #[.agg h.cells.toArray,.int .i64 0])∧Fr (fun _=>False) w w':=by
 have hF:∀ w',Fr (fun _=>False) w w'→BytsIn w' A bs:=fun w' hf=>Byts.in_ (BytsIn.byts (cx:=CX 17 [] w) (m:=[]) hb (fun _ h=>h)) ((MemOk.nil w _).same hf)
 refine enter (cx:=⟨Tryz.prog,73,w,fun _=>False,tab,[21],[51],[],[]⟩) [(0,.slice A bs.length c)] zaa Tryz.func55 rfl rfl rfl rfl (MemOk.nil w _) ?_
 refine gGw ?_;(repeat ((first|refine .mk fun Ap capp=>?_|intro _);(conv=>whnf);refine gG0 ?_))
 by_cases hlt:bs.length<512
 ·have eH:zb7 bs=none:=if_pos hlt
  rw [eH]
  refine br_t (decide_eq_true (by omega)) ?_
  refine gGw ?_
  exact zbW rfl rfl (ldN zaa (by repeat constructor) rfl rfl rfl rfl) rfl (fun w' hm=>⟨rfl,hm.fr⟩)
 have eH:zb7 bs=if (zdX (bs.take 512) 84 64).2=0∧mayH (hdI (bs.take 512) (zdX (bs.take 512) 84 64).1)=true∧zbe (hdI (bs.take 512) (zdX (bs.take 512) 84 64).1)=bs.take 512 then some (hdI (bs.take 512) (zdX (bs.take 512) 84 64).1) else none:=if_neg hlt
 rw [eH]
 refine br_f (decide_eq_false (by omega)) ?_
 have hpl:Pl A:=(BytsIn.byts (cx:=CX 54 [] w) (m:=[]) hb (fun _ h=>h)).plain (by omega)
 have hF5:∀ w',Fr (fun _=>False) w w'→BytsIn w' (cutA A c 0 1) (bs.take 512):=fun w' hf=>BytsIn.sub (hF w' hf) c 0 512 (by omega) hc
 have hl5:(bs.take 512).length=512:=by rw [List.length_take];omega
 refine gGw ?_
 refine And.intro ⟨by omega,by omega,by omega,.inr hpl⟩ ?_
 refine gGw ?_
 generalize bs.take 512=b5 at hF5 hl5 ⊢
 rename_i bB rB
 have hD:cutA A c (Int.toNat 0) ty5.cells=cutA A c 0 1:=rfl
 rw [hD]
 generalize cutA A c 0 1=D at hF5 ⊢
 have hcl:∀ w',Res.ok w' (.blk bB (.cells [Value.slice D 512 c].toArray 22))→w'.cell? ⟨bB,0,none⟩=some (.slice D 512 c):=fun w' h9=>(zaM h9 0).trans rfl
 refine⟨zaW,zae _ (fun w' hm'=>zdF hl5 D c bB 4 4 w' (hcl w' (hm'.ok _ (List.mem_cons_of_mem _ (List.mem_cons_self ..)))) (hF5 w' hm'.fr) (by omega) (by omega) (by omega)) ?_⟩
 refine gGw ?_
 refine⟨zaW,zae _ (fun w' hm'=>zdF hl5 D c bB 8 8 w' (hcl w' (hm'.ok _ (List.mem_cons_of_mem _ (List.mem_cons_self ..)))) (hF5 w' hm'.fr) (by omega) (by omega) (by omega)) ?_⟩
 refine gGw ?_
 refine⟨zaW,zae _ (fun w' hm'=>zdF hl5 D c bB 16 8 w' (hcl w' (hm'.ok _ (List.mem_cons_of_mem _ (List.mem_cons_self ..)))) (hF5 w' hm'.fr) (by omega) (by omega) (by omega)) ?_⟩
 refine gGw ?_
 refine⟨zaW,zae _ (fun w' hm'=>zdF hl5 D c bB 24 8 w' (hcl w' (hm'.ok _ (List.mem_cons_of_mem _ (List.mem_cons_self ..)))) (hF5 w' hm'.fr) (by omega) (by omega) (by omega)) ?_⟩
 refine gGw ?_
 refine⟨zaW,zae _ (fun w' hm'=>zdF hl5 D c bB 32 4 w' (hcl w' (hm'.ok _ (List.mem_cons_of_mem _ (List.mem_cons_self ..)))) (hF5 w' hm'.fr) (by omega) (by omega) (by omega)) ?_⟩
 refine gGw ?_
 refine⟨zaW,zae _ (fun w' hm'=>zdF hl5 D c bB 36 4 w' (hcl w' (hm'.ok _ (List.mem_cons_of_mem _ (List.mem_cons_self ..)))) (hF5 w' hm'.fr) (by omega) (by omega) (by omega)) ?_⟩
 refine gGw ?_
 refine⟨zaW,zae _ (fun w' hm'=>zdF hl5 D c bB 40 8 w' (hcl w' (hm'.ok _ (List.mem_cons_of_mem _ (List.mem_cons_self ..)))) (hF5 w' hm'.fr) (by omega) (by omega) (by omega)) ?_⟩
 refine gGw ?_
 refine⟨zaW,zae _ (fun w' hm'=>zdF hl5 D c bB 48 4 w' (hcl w' (hm'.ok _ (List.mem_cons_of_mem _ (List.mem_cons_self ..)))) (hF5 w' hm'.fr) (by omega) (by omega) (by omega)) ?_⟩
 refine gGw ?_
 refine⟨zaW,zae _ (fun w' hm'=>zdF hl5 D c bB 52 4 w' (hcl w' (hm'.ok _ (List.mem_cons_of_mem _ (List.mem_cons_self ..)))) (hF5 w' hm'.fr) (by omega) (by omega) (by omega)) ?_⟩
 refine gGw ?_
 refine⟨zaW,zae _ (fun w' hm'=>zdF hl5 D c bB 56 8 w' (hcl w' (hm'.ok _ (List.mem_cons_of_mem _ (List.mem_cons_self ..)))) (hF5 w' hm'.fr) (by omega) (by omega) (by omega)) ?_⟩
 refine gGw ?_
 refine⟨zaW,zae _ (fun w' hm'=>zdF hl5 D c bB 64 4 w' (hcl w' (hm'.ok _ (List.mem_cons_of_mem _ (List.mem_cons_self ..)))) (hF5 w' hm'.fr) (by omega) (by omega) (by omega)) ?_⟩
 refine gGw ?_
 refine⟨zaW,zae _ (fun w' hm'=>zdF hl5 D c bB 68 4 w' (hcl w' (hm'.ok _ (List.mem_cons_of_mem _ (List.mem_cons_self ..)))) (hF5 w' hm'.fr) (by omega) (by omega) (by omega)) ?_⟩
 refine gGw ?_
 refine⟨zaW,zae _ (fun w' hm'=>zdF hl5 D c bB 72 8 w' (hcl w' (hm'.ok _ (List.mem_cons_of_mem _ (List.mem_cons_self ..)))) (hF5 w' hm'.fr) (by omega) (by omega) (by omega)) ?_⟩
 refine gGw ?_
 refine⟨zaW,zae _ (fun w' hm'=>zdF hl5 D c bB 80 4 w' (hcl w' (hm'.ok _ (List.mem_cons_of_mem _ (List.mem_cons_self ..)))) (hF5 w' hm'.fr) (by omega) (by omega) (by omega)) ?_⟩
 dsimp only [cont,zi6,XLs]
 apply zsU (.agg (hdI b5 ⟨#[]⟩).cells.toArray)
 ·kernel_rfl
 refine gGw ?_;(repeat ((first|refine .mk fun Ap capp=>?_|intro _);(conv=>whnf);refine gG0 ?_))
 rename_i hB
 refine⟨zlg,zcm (m1:=[.blk hB (.cells (hdI b5 ⟨#[]⟩).cells.toArray 34),.blk rB (.cells hdZ.cells.toArray 34),.blk bB (.cells [Value.slice D 512 c].toArray 22)]) (SubM.refl _ _) (zae _ (fun w' hm'=>zvX hl5 D c 84 64 w' (hF5 w' hm'.fr) (by omega) (by omega) (by omega) (by omega)) ?_)⟩
 rcases hte:zdX b5 84 64 with ⟨nm,te⟩
 refine gGw ?_
 have hf0:0≤(hdI b5 nm).flags:=by
  show 0≤IntKind.u64.wrap _
  rw [IntKind.wrap_u64];omega
 refine⟨zkO,zcm (m1:=[.blk hB (.cells (hdI b5 nm).cells.toArray 34),.blk rB (.cells hdZ.cells.toArray 34),.blk bB (.cells [Value.slice D 512 c].toArray 22)]) (SubM.refl _ _) (zac (m1:=[]) .nil (fun w' hm'=>zp2 (hdI b5 nm) w' hf0) ?_)⟩
 generalize hdI b5 nm=H at hf0 ⊢
 rintro e m' (⟨hmay,rfl,rfl⟩|⟨hmay,gA,gc,rfl,rfl⟩)
 ·rw [if_neg (fun h=>by rw [hmay] at h;exact absurd h.2.1 (by decide))]
  refine gGw ?_
  refine⟨_,cpg zfH (fun _ w' hm'=>zmt (xs:=[]) rfl hl5 none D 0 c w' (fun h=>absurd h (by decide)) (hF5 w' hm'.fr)),?_⟩
  refine gGw ?_
  refine br_t (by rw [show (!decide ((2:Int)=0))=true from rfl,Bool.or_true,Bool.true_or]) ?_
  refine gGw ?_
  exact zbW rfl rfl (ldN (vs:=hdZ.cells) zaa (by repeat constructor) rfl rfl rfl rfl) rfl (fun w' hm=>⟨rfl,hm.fr⟩)
 ·refine gGw ?_
  refine⟨_,cpg zfH (fun _ w' hm'=>zmt (zsA (hm'.ok (BR8 gA gc 512 (zbe H)) (List.mem_cons_self ..))).symm hl5 gA D gc c w' (zaB (hm'.ok (BR8 gA gc 512 (zbe H)) (List.mem_cons_self ..))) (hF5 w' hm'.fr)),?_⟩
  refine gGw ?_
  by_cases hC:te=0∧zbe H=b5
  ·rw [if_pos ⟨hC.1,hmay,hC.2⟩]
   refine br_f (by rw [show (!decide ((nm,te).2=0))=false from by rw [decide_eq_true hC.1];rfl,decide_eq_true hC.2];rfl) ?_
   refine gGw ?_
   exact zbW rfl rfl (ldN (vs:=H.cells) zaa (by repeat constructor) rfl rfl rfl rfl) rfl (fun w' hm=>⟨rfl,hm.fr⟩)
  ·rw [if_neg (fun h=>hC ⟨h.1,h.2.2⟩)]
   have hor:(!decide ((nm,te).2=0)||!decide ((0:Int)=0)||!decide (zbe H=b5))=true:=by
    by_cases ht:te=0
    ·rw [decide_eq_false (fun h=>hC ⟨ht,h⟩)];simp
    ·rw [show decide ((nm,te).2=0)=false from decide_eq_false ht];rfl
   refine br_t hor ?_
   refine gGw ?_
   exact zbW rfl rfl (ldN (vs:=hdZ.cells) zaa (by repeat constructor) rfl rfl rfl rfl) rfl (fun w' hm=>⟨rfl,hm.fr⟩)
end Go.Proofs.YtlmgelmloddfgaaGreat
namespace Go.Proofs.YtlmgelmloddfgaaGreat
open Go Go.RowKit Eng
theorem zjU {a b:Int} (ha:0≤a) (hb:1≤b):upF' a b=zf0 a b:=by
 unfold upF' zf0
 rw [Int.tmod_eq_emod_of_nonneg ha,Int.tdiv_eq_ediv_of_nonneg ha]
 have h1:=Int.mul_ediv_add_emod a b
 have h2:=Int.emod_nonneg a (show b≠0 by omega)
 have h3:=Int.emod_lt_of_pos a (show 0<b by omega)
 generalize a%b=r at h1 h2 h3 ⊢
 generalize hq:a/b=q at h1 ⊢
 rw [← h1]
 split
 ·rename_i h
  have e:b*q+r+b-1=(b-1)+b*q:=by omega
  rw [e,Int.add_mul_ediv_left _ _ (by omega),Int.ediv_eq_zero_of_lt (by omega) (by omega)];omega
 ·have e:b*q+r+b-1=(r-1)+b*(q+1):=by rw [Int.mul_add];omega
  rw [e,Int.add_mul_ediv_left _ _ (by omega),Int.ediv_eq_zero_of_lt (by omega) (by omega)];omega
attribute [local irreducible] Br Rn RnU Cl RdG CpG Ld Rd Lp Dr Oth Cut fin Fits Eng.Enters Md NA
theorem zkn:Eng.Enters Tryz.prog 121:=zab fun _ _=>by kernel_rfl
theorem zi2:Eng.Enters Tryz.prog 72:=zab fun _ _=>by kernel_rfl
theorem zm2:Eng.Enters Tryz.prog 35:=zab fun _ _=>by kernel_rfl
theorem zpB (h:Hd) (w:World) (hb:9≤h.bits∧h.bits≤16) (hs:0≤h.size∧h.size≤67108864) :
  Calls Tryz.prog 121 #[.agg h.cells.toArray] w fun e w'=>e=.returned (.int .i64 (zf0 h.size (clus h.bits)))∧Fr (fun _=>False) w w':=by
 refine enter (cx:=CX 9 [] w) [(0,.agg h.cells.toArray)] zaa Tryz.func121 rfl rfl rfl rfl (MemOk.nil w _) ?_
 have hc:=zc4 hb
 refine gGw ?_;(repeat ((first|refine .mk fun Ap capp=>?_|intro _);(conv=>whnf);refine gG0 ?_))
 refine zar zaa mixed (by kernel_rfl) rfl ?_;conv=>whnf
 refine gG0 ?_
 refine⟨_,cpg zbJ (fun _ w' _=>zcQ h.bits w' (by omega)),?_⟩
 refine gGw ?_
 refine⟨_,cpg zfe (fun _ w' _=>zkf h.size (clus h.bits) w' (by omega) (by omega)),?_⟩
 rw [zjU (by omega) (by omega)]
 refine gGw ?_
 exact fin1 rfl rfl (fun w' hm=>⟨rfl,hm.fr⟩)
theorem zmX (h:Hd) (w:World) (hb:9≤h.bits∧h.bits≤16) (hs:0≤h.size∧h.size≤67108864) :
  Calls Tryz.prog 72 #[.agg h.cells.toArray] w fun e w'=>e=.returned (.int .i64 (zqT h))∧Fr (fun _=>False) w w':=by
 refine enter (cx:=CX 10 [] w) [(0,.agg h.cells.toArray)] zaa Tryz.func72 rfl rfl rfl rfl (MemOk.nil w _) ?_
 have hc:=zc4 hb
 have hd1:0≤zf0 h.size (clus h.bits):=Int.ediv_nonneg (by omega) (by omega)
 have hd2:zf0 h.size (clus h.bits)≤h.size+clus h.bits-1:=Int.ediv_le_self _ (by omega)
 have e8:IntKind.i64.wrap ((clus h.bits).tdiv 8)=clus h.bits/8:=by
  rw [Int.tdiv_eq_ediv_of_nonneg (by omega)];exact IntWalk.i64_in _ (by omega)
 refine gGw ?_;(repeat ((first|refine .mk fun Ap capp=>?_|intro _);(conv=>whnf);refine gG0 ?_))
 refine zar zaa mixed (by kernel_rfl) rfl ?_;conv=>whnf
 refine⟨_,(ldN (vs:=h.cells) zaa (by repeat constructor) rfl rfl rfl rfl).g,?_⟩
 refine gGw ?_
 refine⟨_,cpg zkn (fun _ w' _=>zpB h w' hb hs),?_⟩
 refine gGw ?_
 refine⟨_,cpg zbJ (fun _ w' _=>zcQ h.bits w' (by omega)),?_⟩
 refine gGw ?_
 rw [e8]
 refine⟨_,cpg zfe (fun _ w' _=>zkf (zf0 h.size (clus h.bits)) (clus h.bits/8) w' (by omega) (by omega)),?_⟩
 rw [zjU (by omega) (by omega)]
 refine gGw ?_
 exact fin1 rfl rfl (fun w' hm=>⟨rfl,hm.fr⟩)
theorem zch (a bits:Int) (w:World) (hb:bits≤60) :
  Calls Tryz.prog 73 #[.int .i64 a,.int .i64 bits] w fun e w'=>e=.returned (.bool (plB a (clus bits)))∧Fr (fun _=>False) w w':=by
 refine enter (cx:=⟨Tryz.prog,18,w,fun _=>False,tab,[],[119],[],[]⟩) [(0,.int .i64 a),(1,.int .i64 bits)] zaa Tryz.func73 rfl rfl rfl rfl (MemOk.nil w _) ?_
 have hc:=zva bits
 refine gGw ?_
 refine⟨_,cpg zbJ (fun _ w' _=>zcQ bits w' hb),?_⟩
 refine gGw ?_
 exact fin1 rfl rfl (fun w' hm=>⟨by rw [← zoi],hm.fr⟩)
theorem zgh (n a long bits:Int) (w:World) (hb:bits≤60) :
  Calls Tryz.prog 74 #[.int .i64 n,.int .i64 a,.int .i64 long,.int .i64 bits] w fun e w'=>e=.returned (.bool (liOk n a long (clus bits)))∧Fr (fun _=>False) w w':=by
 refine enter (cx:=⟨Tryz.prog,36,w,fun _=>False,tab,[],[73],[],[]⟩) [(0,.int .i64 n),(1,.int .i64 a),(2,.int .i64 long),(3,.int .i64 bits)] zaa Tryz.func74 rfl rfl rfl rfl (MemOk.nil w _) ?_
 refine gGw ?_
 refine br_d (fun hn=>?_) (fun hn=>?_)
 ·have eL:liOk n a long (clus bits)=(decide (a=0)&&decide (long=0)):=if_pos hn
  rw [eL]
  refine gGw ?_
  exact fin1 rfl rfl (fun w' hm=>⟨rfl,hm.fr⟩)
 ·have eL:liOk n a long (clus bits)=(decide (0<n)&&decide (n≤64)&&plB a (clus bits)&&decide (1≤long)&&decide (long≤65536)):=if_neg hn
  rw [eL]
  refine gGw ?_
  refine⟨_,cpg zbn (fun _ w' _=>zch a bits w' hb),?_⟩
  refine gGw ?_
  exact fin1 rfl rfl (fun w' hm=>⟨rfl,hm.fr⟩)
theorem mayH_iff {h:Hd}:mayH h=true↔mayA h=true∧(0≤h.l1len∧h.l1len≤1048576∧zqT h≤h.l1len)∧((h.l1len=0∧h.l1=0)∨(0<h.l1len∧plB h.l1 (clus h.bits)=true))∧(0≤h.order∧h.order≤6) ∧
  (plB h.counts (clus h.bits)=true∧1≤h.countsLen∧h.countsLen≤65536)∧liOk h.snaps h.snapsAt h.snapsLen (clus h.bits)=true∧liOk h.bitmaps h.bitmapsAt h.bitmapsLen (clus h.bits)=true∧h.backing.size≤64∧(h.backing.data.toList.all fun x=>!(x == 0))=true:=by
 rw [zir]
 unfold may0 may1 may2 may3 may6
 simp only [Bool.and_eq_true,Bool.or_eq_true,decide_eq_true_eq,and_assoc]
theorem zyh {h:Hd} {i:Nat} (hi:(i:Int)<h.backing.size) (hz:ze7 h.backing (Int.toNat (i:Int))=0) (ha:(h.backing.data.toList.all fun x=>!(x == 0))=true):False:=by
 rw [Int.toNat_natCast] at hz
 unfold ze7 at hz
 have hl:i<h.backing.data.toList.length:=by
  have:h.backing.size=h.backing.data.toList.length:=by rw [Array.length_toList];rfl
  omega
 rw [List.all_eq_true] at ha
 have h1:=ha _ (List.getElem_mem hl)
 rw [List.getD_eq_getElem?_getD,List.getElem?_eq_getElem hl] at hz
 have h2:h.backing.data.toList[i]=0:=u8_zero.1 hz
 rw [h2] at h1
 exact absurd h1 (by decide)
theorem zyi {h:Hd} {i:Nat} (hz:¬ ze7 h.backing (Int.toNat (i:Int))=0):h.backing.data.toList.getD i 0≠0:=by
 intro h1
 apply hz
 rw [Int.toNat_natCast]
 unfold ze7
 rw [h1];rfl
theorem zvM {h:Hd} {i:Nat} (hi:h.backing.size≤i) (hj:∀ j,j<i→h.backing.data.toList.getD j 0≠0):(h.backing.data.toList.all fun x=>!(x == 0))=true:=by
 rw [List.all_eq_true]
 intro x hx
 obtain ⟨j,hjl,rfl⟩:=List.getElem_of_mem hx
 have:h.backing.size=h.backing.data.toList.length:=by rw [Array.length_toList];rfl
 have h1:=hj j (by omega)
 rw [List.getD_eq_getElem?_getD,List.getElem?_eq_getElem hjl] at h1
 simpa using h1
set_option maxHeartbeats 2000000 in
theorem zuk (h:Hd) (w:World) (hbk:h.backing.size≤1000000) :
  Calls Tryz.prog 35 #[.agg h.cells.toArray] w fun e w'=>e=.returned (.bool (mayH h))∧Fr (fun _=>False) w w':=by
 refine enter (cx:=⟨Tryz.prog,139,w,fun _=>False,tab,[],[73,72],[],[]⟩) [(0,.agg h.cells.toArray)] zaa Tryz.func35 rfl rfl rfl rfl (MemOk.nil w _) ?_
 refine gGw ?_;(repeat ((first|refine .mk fun Ap capp=>?_|intro _);(conv=>whnf);refine gG0 ?_))
 refine And.intro (fun _=>by decide) ?_
 conv=>whnf
 rw [zot]
 cases hA:mayA h with
 | false =>
  have hno:mayH h=false:=by rw [zir,hA];rfl
  refine br_t rfl ?_
  refine gGw ?_
  exact fin1 rfl rfl (fun w' hm=>⟨by rw [hno],hm.fr⟩)
 | true =>
  have hA':=mayA_iff.1 hA
  refine br_f rfl ?_
  refine gGw ?_
  rename_i bB
  refine zar zaa mixed (by kernel_rfl) rfl ?_;conv=>whnf
  refine gG0 ?_
  refine⟨_,cpg zi2 (fun _ w' _=>zmX h w' (by omega) (by omega)),?_⟩
  refine gGw ?_
  refine br (fun hc=>?_) (fun hc=>?_)
  ·have hno:mayH h=false:=by
    rw [Bool.eq_false_iff]
    intro hm
    obtain ⟨_,h1,_,h3,h4,_⟩:=mayH_iff.1 hm
    simp only [Bool.or_eq_true,decide_eq_true_eq] at hc
    omega
   refine gGw ?_
   exact fin1 rfl rfl (fun w' hm=>⟨by rw [hno],hm.fr⟩)
  ·simp only [Bool.or_eq_false_iff,decide_eq_false_iff_not] at hc
   refine gGw ?_
   have hno1:∀ {b:Bool},b=false→mayH h=b→mayH h=false:=fun hb h=>h.trans hb
   refine br (fun h1=>?_) (fun h1=>?_)
   ·simp only [Bool.and_eq_true,decide_eq_true_eq,Bool.not_eq_true',decide_eq_false_iff_not] at h1
    have hno:mayH h=false:=by
     rw [Bool.eq_false_iff]
     intro hm
     obtain ⟨_,_,h2,_⟩:=mayH_iff.1 hm
     omega
    refine gGw ?_
    refine⟨_,cpg zbn (fun _ w' _=>zch h.counts h.bits w' (by omega)),?_⟩
    refine gGw ?_
    refine br_t rfl ?_
    refine gGw ?_
    exact fin1 rfl rfl (fun w' hm=>⟨by rw [hno],hm.fr⟩)
   ·simp only [Bool.and_eq_false_iff,decide_eq_false_iff_not,Bool.not_eq_false',decide_eq_true_eq] at h1
    refine gGw ?_
    refine br (fun h2=>?_) (fun h2=>?_)
    ·have h2:0<h.l1len:=of_decide_eq_true h2
     refine gGw ?_
     refine⟨zbn,zae _ (fun w' _=>zch h.l1 h.bits w' (by omega)) ?_⟩
     refine gGw ?_
     refine⟨_,cpg zbn (fun _ w' _=>zch h.counts h.bits w' (by omega)),?_⟩
     refine gGw ?_
     cases hp1:plB h.l1 (clus h.bits) with
     | false =>
      have hno:mayH h=false:=by
       rw [Bool.eq_false_iff]
       intro hm
       obtain ⟨_,_,h5,_⟩:=mayH_iff.1 hm
       rw [hp1] at h5
       rcases h5 with h5|h5
       ·omega
       ·exact absurd h5.2 (by decide)
      refine br_t rfl ?_
      refine gGw ?_
      exact fin1 rfl rfl (fun w' hm=>⟨by rw [hno],hm.fr⟩)
     | true =>
     cases hp2:plB h.counts (clus h.bits) with
     | false =>
      have hno:mayH h=false:=by
       rw [Bool.eq_false_iff]
       intro hm
       obtain ⟨_,_,_,_,h5,_⟩:=mayH_iff.1 hm
       rw [hp2] at h5
       exact absurd h5.1 (by decide)
      refine br_t rfl ?_
      refine gGw ?_
      exact fin1 rfl rfl (fun w' hm=>⟨by rw [hno],hm.fr⟩)
     | true =>
     have hL1:(h.l1len=0∧h.l1=0)∨(0<h.l1len∧plB h.l1 (clus h.bits)=true):=.inr ⟨h2,hp1⟩
     refine br_f rfl ?_
     refine gGw ?_
     refine⟨zdA,zae _ (fun w' _=>zgh h.snaps h.snapsAt h.snapsLen h.bits w' (by omega)) ?_⟩
     refine gGw ?_
     refine⟨zdA,zae _ (fun w' _=>zgh h.bitmaps h.bitmapsAt h.bitmapsLen h.bits w' (by omega)) ?_⟩
     refine gGw ?_
     refine lp zaa (γ:=Nat) (fun i=>i≤h.backing.size∧∀ j,j<i→h.backing.data.toList.getD j 0≠0) (fun i=>[(5,.int .i64 (i:Int)),(4,.bool (liOk h.bitmaps h.bitmapsAt h.bitmapsLen (clus h.bits))),(3,.bool (liOk h.snaps h.snapsAt h.snapsLen (clus h.bits))),(1,.pointer (some ⟨bB,0,none⟩))])
      (fun _=>[.blk bB (.cells h.cells.toArray 34)]) (fun i=>h.backing.size-i) 0 ⟨Nat.zero_le _,fun j hj=>absurd hj (Nat.not_lt_zero _)⟩ ⟨rfl,rfl,rfl,rfl,trivial⟩ SubM.sl ?_
     rintro i ⟨hi,hji⟩
     dsimp only
     refine gGw ?_
     refine br_d (fun hlt=>?_) (fun hge=>?_)
     ·refine gGw ?_
      refine br_d (fun hz=>?_) (fun hz=>?_)
      ·have hno:mayH h=false:=by
        rw [Bool.eq_false_iff]
        intro hm
        obtain ⟨_,_,_,_,_,_,_,_,h9⟩:=mayH_iff.1 hm
        exact zyh hlt hz h9
       refine gGw ?_
       exact fin1 rfl rfl (fun w' hm=>⟨by rw [hno],hm.fr⟩)
      ·refine gGw ?_
       refine⟨i+1,⟨by omega,fun j hj=>?_⟩,by omega,⟨rfl,rfl,rfl,rfl,trivial⟩,SubM.refl _ _⟩
       rcases Nat.lt_succ_iff_lt_or_eq.1 hj with hj|rfl
       ·exact hji j hj
       ·exact zyi hz
     ·have h9:=zvM (i:=i) (h:=h) (by omega) hji
      have hend:mayH h=(liOk h.snaps h.snapsAt h.snapsLen (clus h.bits)&&liOk h.bitmaps h.bitmapsAt h.bitmapsLen (clus h.bits)&&decide ((h.backing.size:Int)≤64)):=by
       rw [Bool.eq_iff_iff,mayH_iff]
       simp only [Bool.and_eq_true,decide_eq_true_eq]
       constructor
       ·rintro ⟨_,_,_,_,_,a,b,c,_⟩
        exact⟨⟨a,b⟩,by omega⟩
       ·rintro ⟨⟨a,b⟩,c⟩
        exact⟨hA,by omega,hL1,by omega,⟨hp2,by omega,by omega⟩,a,b,by omega,h9⟩
      refine gGw ?_
      exact fin1 rfl rfl (fun w' hm=>⟨by rw [hend],hm.fr⟩)
    ·have h2:¬ 0<h.l1len:=of_decide_eq_false h2
     refine gGw ?_
     refine⟨_,cpg zbn (fun _ w' _=>zch h.counts h.bits w' (by omega)),?_⟩
     refine gGw ?_
     cases hp2:plB h.counts (clus h.bits) with
     | false =>
      have hno:mayH h=false:=by
       rw [Bool.eq_false_iff]
       intro hm
       obtain ⟨_,_,_,_,h5,_⟩:=mayH_iff.1 hm
       rw [hp2] at h5
       exact absurd h5.1 (by decide)
      refine br_t rfl ?_
      refine gGw ?_
      exact fin1 rfl rfl (fun w' hm=>⟨by rw [hno],hm.fr⟩)
     | true =>
     have hL1:(h.l1len=0∧h.l1=0)∨(0<h.l1len∧plB h.l1 (clus h.bits)=true):=.inl (by omega)
     refine br_f rfl ?_
     refine gGw ?_
     refine⟨zdA,zae _ (fun w' _=>zgh h.snaps h.snapsAt h.snapsLen h.bits w' (by omega)) ?_⟩
     refine gGw ?_
     refine⟨zdA,zae _ (fun w' _=>zgh h.bitmaps h.bitmapsAt h.bitmapsLen h.bits w' (by omega)) ?_⟩
     refine gGw ?_
     refine lp zaa (γ:=Nat) (fun i=>i≤h.backing.size∧∀ j,j<i→h.backing.data.toList.getD j 0≠0) (fun i=>[(5,.int .i64 (i:Int)),(4,.bool (liOk h.bitmaps h.bitmapsAt h.bitmapsLen (clus h.bits))),(3,.bool (liOk h.snaps h.snapsAt h.snapsLen (clus h.bits))),(1,.pointer (some ⟨bB,0,none⟩))])
      (fun _=>[.blk bB (.cells h.cells.toArray 34)]) (fun i=>h.backing.size-i) 0 ⟨Nat.zero_le _,fun j hj=>absurd hj (Nat.not_lt_zero _)⟩ ⟨rfl,rfl,rfl,rfl,trivial⟩ SubM.sl ?_
     rintro i ⟨hi,hji⟩
     dsimp only
     refine gGw ?_
     refine br_d (fun hlt=>?_) (fun hge=>?_)
     ·refine gGw ?_
      refine br_d (fun hz=>?_) (fun hz=>?_)
      ·have hno:mayH h=false:=by
        rw [Bool.eq_false_iff]
        intro hm
        obtain ⟨_,_,_,_,_,_,_,_,h9⟩:=mayH_iff.1 hm
        exact zyh hlt hz h9
       refine gGw ?_
       exact fin1 rfl rfl (fun w' hm=>⟨by rw [hno],hm.fr⟩)
      ·refine gGw ?_
       refine⟨i+1,⟨by omega,fun j hj=>?_⟩,by omega,⟨rfl,rfl,rfl,rfl,trivial⟩,SubM.refl _ _⟩
       rcases Nat.lt_succ_iff_lt_or_eq.1 hj with hj|rfl
       ·exact hji j hj
       ·exact zyi hz
     ·have h9:=zvM (i:=i) (h:=h) (by omega) hji
      have hend:mayH h=(liOk h.snaps h.snapsAt h.snapsLen (clus h.bits)&&liOk h.bitmaps h.bitmapsAt h.bitmapsLen (clus h.bits)&&decide ((h.backing.size:Int)≤64)):=by
       rw [Bool.eq_iff_iff,mayH_iff]
       simp only [Bool.and_eq_true,decide_eq_true_eq]
       constructor
       ·rintro ⟨_,_,_,_,_,a,b,c,_⟩
        exact⟨⟨a,b⟩,by omega⟩
       ·rintro ⟨⟨a,b⟩,c⟩
        exact⟨hA,by omega,hL1,by omega,⟨hp2,by omega,by omega⟩,a,b,by omega,h9⟩
      refine gGw ?_
      exact fin1 rfl rfl (fun w' hm=>⟨by rw [hend],hm.fr⟩)
end Go.Proofs.YtlmgelmloddfgaaGreat
namespace Go.Proofs.YtlmgelmloddfgaaGreat
open Go Go.RowKit Eng
structure RS where
 holds:List (Int × Int)
 finds:List Fi
 blocks:List Int
 data:Int
 packed:Int
 zero:Int
 active:Bool
structure RG where
 hA:Option Addr
 hc:Nat
 fA:Option Addr
 fc:Nat
 bA:Option Addr
 bc:Nat
def Fi.cs (x:Fi):List Value:=[.int .i64 x.kind,.int .i64 x.at_,.int .u64 x.want,.int .u64 x.have_]
def hdC (q:Int × Int):List Value:=[.int .i64 q.1,.int .i64 q.2]
abbrev zif (p:WP) (s:RS) (g:RG):List Value :=
 [.slice p.A p.bs.length p.cap,.int .i64 p.h.bits,.int .u64 p.h.flags,.int .i64 p.h.size,.int .i64 p.h.l1,.int .i64 p.h.l1len,.int .i64 p.h.order,.int .i64 p.h.counts,.int .i64 p.h.countsLen,.int .i64 p.h.snaps,.int .i64 p.h.snapsAt,.int .i64 p.h.snapsLen,.int .i64 p.h.bitmaps,.int .i64 p.h.bitmapsAt,.int .i64 p.h.bitmapsLen,.string p.h.backing,
  .slice g.hA s.holds.length g.hc,.slice g.fA s.finds.length g.fc,.slice none 0 0,.bool false,.int .i64 0,.int .i64 0,.int .i64 s.data,.int .i64 s.packed,.int .i64 s.zero,.bool s.active,.slice g.bA s.blocks.length g.bc]
abbrev rM (p:WP) (s:RS) (g:RG):Mem:=[.blk p.wB (.cells (zif p s g).toArray 81),.row g.hA g.hc s.holds.length 83 2 (s.holds.flatMap hdC),.row g.fA g.fc s.finds.length 61 4 (s.finds.flatMap Fi.cs),.row g.bA g.bc s.blocks.length 2 1 (s.blocks.map (.int .i64))]
def RwR (p:WP) (v:Value) (s:RS) (e:Ending) (m':Mem):Prop:=e=.returned v∧∃ g,m'=rM p s g
def RIn (p:WP) (s:RS) (g:RG) (w:World):Prop:=∀ i v,(zif p s g)[i]?=some v→w.cell? ⟨p.wB,i,none⟩=some v
theorem zdB {p:WP} {s:RS} {g:RG} {w w0:World} {S:Nat→Prop} {r:Mem} (h:MemOk w0 S (rM p s g++r) w):RIn p s g w:=fun i v hv=>by
 rw [zaM (h.ok (.blk p.wB (.cells (zif p s g).toArray 81)) (List.mem_cons_self ..))]
 simpa using hv
def zmz (p:WP) (a n:Int):Bool:=decide (0<a)&&decide (a.tmod p.c=0)&&decide (a.tdiv p.c<p.n)&&decide (upF' n p.c≤p.n-a.tdiv p.c)
attribute [local irreducible] Br Rn RnU Cl RdG CpG Ld Rd Lp Dr Oth Cut fin Fits Eng.Enters Md NA
theorem zbr:Eng.Enters Tryz.prog 71:=zab fun _ _=>by kernel_rfl
theorem zeJ:Eng.Enters Tryz.prog 32:=zab fun _ _=>by kernel_rfl
theorem zmR:Eng.Enters Tryz.prog 154:=zab fun _ _=>by kernel_rfl
theorem zcJ (p:WP) (s:RS) (g:RG) (w:World) (hb:p.h.bits≤60) (hcb:p.c=clus p.h.bits) (hw:RIn p s g w) :
  Calls Tryz.prog 71 #[.pointer (some ⟨p.wB,0,none⟩)] w fun e w'=>e=.returned (.int .i64 p.c)∧Fr (fun _=>False) w w':=by
 refine enter (cx:=CX 9 [] w) [(0,.pointer (some ⟨p.wB,0,none⟩))] zaa Tryz.func71 rfl rfl rfl rfl (MemOk.nil w _) ?_
 refine gGw ?_
 refine zaj (ldF (a:=⟨p.wB,1,none⟩) zaa (hw 1 _ rfl) (fun h=>h) rfl rfl) ?_
 refine gGw ?_
 refine⟨zbJ,zae _ (fun w' _=>zcQ p.h.bits w' hb) ?_⟩
 refine gGw ?_
 exact fin1 rfl rfl (fun w' hm=>⟨by rw [hcb],hm.fr⟩)
theorem zhZ (p:WP) (s:RS) (g:RG) (w:World) (hp:p.Ok) (hb:p.h.bits≤60) (hcb:p.c=clus p.h.bits) (hw:RIn p s g w) :
  Calls Tryz.prog 32 #[.pointer (some ⟨p.wB,0,none⟩)] w fun e w'=>e=.returned (.int .i64 p.n)∧Fr (fun _=>False) w w':=by
 refine enter (cx:=⟨Tryz.prog,11,w,fun _=>False,tab,[],[71],[],[]⟩) [(0,.pointer (some ⟨p.wB,0,none⟩))] zaa Tryz.func32 rfl rfl rfl rfl (MemOk.nil w _) ?_
 have hc0:=hp.c0
 have hlen:=hp.len
 conv=>whnf
 refine zar zaa mixed (by kernel_rfl) rfl ?_;conv=>whnf
 refine gG0 ?_
 refine⟨.slice p.A p.bs.length p.cap,Ld.g (ldF (a:=⟨p.wB,0,none⟩) zaa (hw 0 _ rfl) (fun h=>h) rfl rfl),?_⟩
 refine gGw ?_
 refine⟨_,cpg zbr (fun _ w' hm'=>zcJ p s g w' hb hcb (fun i v hv=>hm'.far (hw i v hv) (fun h=>h))),?_⟩
 refine gGw ?_
 refine fin1 rfl rfl (fun w' hm=>⟨?_,hm.fr⟩)
 have e1:((p.bs.length:Int)).tdiv p.c=p.n:=by rw [hp.n,Int.tdiv_eq_ediv_of_nonneg (by omega)]
 have hb1:0≤p.n∧p.n≤20000000:=by
  rw [hp.n]
  exact⟨Int.ediv_nonneg (by omega) (by omega),Int.le_trans (Int.ediv_le_self _ (by omega)) (by omega)⟩
 have e2:IntKind.i64.wrap p.n=p.n:=IntWalk.i64_in _ (by omega)
 show Ending.returned (.int .i64 (IntKind.i64.wrap (((p.bs.length:Int)).tdiv p.c)))=_
 rw [e1,e2]
theorem n_bd {p:WP} (hp:p.Ok):0≤p.n∧p.n≤20000000:=by
 have hc0:=hp.c0
 have hlen:=hp.len
 rw [hp.n]
 exact⟨Int.ediv_nonneg (by omega) (by omega),Int.le_trans (Int.ediv_le_self _ (by omega)) (by omega)⟩
theorem zlt {a c:Int} (hc:512≤c) (h:-9223372036854775808≤a∧a≤9223372036854775807):-18014398509481984≤a.tdiv c∧a.tdiv c≤18014398509481984:=by
 have key:∀ x:Int,0≤x→x≤9223372036854775808→0≤x/c∧x/c≤18014398509481984:=fun x h0 h1=>by
  have h2:=Int.ediv_nonneg h0 (show 0≤c by omega)
  refine⟨h2,?_⟩
  have h3:c*(x/c)≤x:=by have:=Int.mul_ediv_add_emod x c;have:=Int.emod_nonneg x (show c≠0 by omega);omega
  have h4:512*(x/c)≤c*(x/c):=Int.mul_le_mul_of_nonneg_right hc h2
  omega
 by_cases h0:0≤a
 ·rw [Int.tdiv_eq_ediv_of_nonneg h0]
  have:=key a h0 (by omega)
  omega
 ·have e:(-a).tdiv c=-(a.tdiv c):=Int.neg_tdiv a c
  rw [Int.tdiv_eq_ediv_of_nonneg (by omega)] at e
  have:=key (-a) (by omega) (by omega)
  omega
theorem zqK {n c:Int} (hc:1≤c) (h:0≤n):0≤upF' n c∧upF' n c≤n+1:=by
 have h1:=Int.ediv_nonneg h (show 0≤c by omega)
 have h2:=Int.ediv_le_self c h
 unfold upF'
 rw [Int.tdiv_eq_ediv_of_nonneg h]
 split<;>omega
theorem zt9 (p:WP) (s:RS) (g:RG) (a n:Int) (w:World) (hp:p.Ok) (hb:p.h.bits≤60) (hcb:p.c=clus p.h.bits) (ha:-9223372036854775808≤a∧a≤9223372036854775807) (hn:0≤n∧n≤4611686018427387903) (hw:RIn p s g w) :
  Calls Tryz.prog 154 #[.pointer (some ⟨p.wB,0,none⟩),.int .i64 a,.int .i64 n] w fun e w'=>e=.returned (.bool (zmz p a n))∧Fr (fun _=>False) w w':=by
 refine enter (cx:=⟨Tryz.prog,38,w,fun _=>False,tab,[],[32,120],[],[]⟩) [(0,.pointer (some ⟨p.wB,0,none⟩)),(1,.int .i64 a),(2,.int .i64 n)] zaa Tryz.func154 rfl rfl rfl rfl (MemOk.nil w _) ?_
 have hc0:=hp.c0
 have hnb:=n_bd hp
 have hub:=zqK (c:=p.c) (by omega) hn.1
 have hw':∀ w',MemOk w (fun _=>False) [] w'→RIn p s g w':=fun w' hm' i v hv=>hm'.far (hw i v hv) (fun h=>h)
 have d1:=zlt hc0 ha
 have e1:IntKind.i64.wrap (a.tdiv p.c)=a.tdiv p.c:=IntWalk.i64_in _ (by omega)
 refine gGw ?_
 refine⟨zbr,zae _ (fun w' hm'=>zcJ p s g w' hb hcb (hw' w' hm')) ?_⟩
 conv=>whnf
 refine zar zaa mixed (by kernel_rfl) rfl ?_;conv=>whnf
 refine gG0 ?_
 refine⟨_,cpg zeJ (fun _ w' hm'=>zhZ p s g w' hp hb hcb (hw' w' hm')),?_⟩
 refine gGw ?_
 refine⟨_,cpg zfe (fun _ w' hm'=>zkf n p.c w' (by omega) (by omega)),?_⟩
 refine gGw ?_
 refine⟨_,cpg zeJ (fun _ w' hm'=>zhZ p s g w' hp hb hcb (hw' w' hm')),?_⟩
 refine gGw ?_
 refine fin1 rfl rfl (fun w' hm=>⟨?_,hm.fr⟩)
 rw [e1];rfl
theorem zdx:Eng.Enters Tryz.prog 114:=zab fun _ _=>by kernel_rfl
theorem zre (p:WP) (s:RS) (g:RG) (a:Nat) (w:World) (hp:p.Ok) (hb:BytsIn w p.A p.bs) (ha:a+8≤p.bs.length) (hw:RIn p s g w) :
  Calls Tryz.prog 114 #[.pointer (some ⟨p.wB,0,none⟩),.int .i64 (a:Int)] w fun e w'=>e=.returned (.int .i64 (IntKind.i64.wrap (zaC p a)))∧Fr (fun _=>False) w w':=by
 refine enter (cx:=CX 26 [25] w) [(0,.pointer (some ⟨p.wB,0,none⟩)),(1,.int .i64 (a:Int))] zaa Tryz.func114 rfl rfl rfl rfl (MemOk.nil w _) ?_
 have hlen:=hp.len
 have h1:=fun m=>BytsIn.byts (cx:=CX 26 [25] w) (m:=m) hb (fun _ h=>h)
 have hpl:Pl p.A:=(h1 []).plain (by omega)
 refine gGw ?_
 refine lp zaa (γ:=Nat) (fun j=>j≤8) (fun j=>[(6,.int .i64 ((j:Int)-1)),(5,.int .u64 (getV p.bs (a+j) (8-j):Nat)),(0,.pointer (some ⟨p.wB,0,none⟩)),(1,.int .i64 (a:Int))]) (fun _=>[]) (fun j=>j) 8 (Nat.le_refl _)
  ⟨rfl,by show _=some (Value.int .u64 ((getV p.bs (a+8) 0:Nat):Int));unfold getV;rw [List.take_zero];rfl,rfl,rfl,trivial⟩ (SubM.refl _ _) ?_
 rintro i hi
 dsimp only
 refine gGw ?_
 refine br_d (fun hge=>?_) (fun hlt=>?_)
 ·obtain ⟨j,rfl⟩:∃ j,i=j+1:=⟨i-1,by omega⟩
  have ej:((j+1:Nat):Int)-1=(j:Int):=by omega
  have hv:=zkR p.bs (a+(j+1)) (k:=8-(j+1)) (by omega)
  have hs:=ziF (bs:=p.bs) (j:=a+j) (k:=8-(j+1)) (by omega)
  rw [Nat.add_assoc a j 1] at hs
  have hb8:=(p.bs.getD (a+j) 0).toNat_lt
  rw [ej]
  refine gGw ?_
  refine zaj (ldF (a:=⟨p.wB,0,none⟩) zaa (hw 0 _ rfl) (fun h=>h) rfl rfl) ?_
  refine gGw ?_
  refine And.intro ⟨by omega,by omega,hpl⟩ ?_
  conv=>whnf
  refine zaj ((h1 _).ld zaa rfl rfl (j:=a+j) (by omega)) ?_
  refine gGw ?_
  refine⟨j,by omega,by omega,⟨rfl,?_,rfl,rfl,trivial⟩,SubM.refl _ _⟩
  show some (Value.int .u64 _)=some (Value.int .u64 ((getV p.bs (a+j) (8-j):Nat):Int))
  rw [show 8-j=(8-(j+1))+1 by omega,hs]
  congr 2
  push_cast
  omega
 ·have hi0:i=0:=by omega
  subst hi0
  refine gGw ?_
  exact fin1 rfl rfl (fun w' hm=>⟨rfl,hm.fr⟩)
theorem zoZ {p:WP} {a n:Int} (hp:p.Ok) (hn:1≤n):zmz p a n=zay p a n:=by
 have hc0:=hp.c0
 have hu:upF' n p.c=(n+p.c-1).tdiv p.c:=by
  rw [zjU (by omega) (by omega),Int.tdiv_eq_ediv_of_nonneg (by omega)];rfl
 have h1:1≤(n+p.c-1).tdiv p.c:=by
  rw [Int.tdiv_eq_ediv_of_nonneg (by omega)]
  exact Int.le_ediv_of_mul_le (by omega) (by omega)
 unfold zmz zay
 rw [hu,Bool.eq_iff_iff]
 simp only [Bool.and_eq_true,decide_eq_true_eq]
 omega
theorem zeA {p:WP} {x:Int} (hp:p.Ok) (hx:0≤x∧x<18446744073709551616):zay p (IntKind.i64.wrap x) p.c=zay p (za4 x) p.c∧(zay p (za4 x) p.c=true→IntKind.i64.wrap x=za4 x):=by
 have hc0:=hp.c0
 have hc1:=hp.c1
 have hlen:=hp.len
 have far:∀ y:Int,4611686018427387904≤y→zay p y p.c=false:=fun y hy=>by
  rw [Bool.eq_false_iff]
  intro h
  have:=zaI hp h
  omega
 by_cases h1:x≤4611686018427387904
 ·have e1:IntKind.i64.wrap x=x:=IntWalk.i64_in _ (by omega)
  have e2:za4 x=x:=by unfold za4;rw [if_neg (by omega)]
  rw [e1,e2]
  exact⟨rfl,fun _=>rfl⟩
 ·have e2:za4 x=4611686018427387904:=by unfold za4;rw [if_pos (by omega)]
  rw [e2,far _ (Int.le_refl _)]
  refine⟨?_,fun h=>by cases h⟩
  by_cases h2:x<9223372036854775808
  ·rw [IntWalk.i64_in x (by omega)]
   exact far _ (by omega)
  ·have e1:IntKind.i64.wrap x=x-18446744073709551616:=by
    rw [IntKind.wrap_i64]
    omega
   rw [Bool.eq_false_iff]
   intro h
   have:=zaI hp h
   omega
end Go.Proofs.YtlmgelmloddfgaaGreat
namespace Go.Proofs.YtlmgelmloddfgaaGreat.Eng
open Go Go.RowKit
section anyG
variable {cx:Cx} {e:Env} {a:Act}
def zxY (ops:List Oper) (j:Nat):Option Nat:=match nth ops j with
 | some o=>o.dst
 | none=>none
def gOk (ops:List Oper) (e:Env):Option (Nat × Bool)→Bool
 | none=>true
 | some (j,wnt)=>match zxY ops j with
  | some s=>match e.get s with
   | some (.bool b)=>beqB b wnt
   | _=>false
  | none=>false
theorem zvE {ops:Array Oper} {o:Oper} (he:EnvOk cx.n cx.df e a) (h:gOk ops.toList e o.guard=true):Region.wanted o (yielded ops a.tmps)=true:=by
 cases hg:o.guard with
 | none=>exact za8 hg
 | some q =>
  obtain ⟨j,wnt⟩:=q
  rw [hg] at h
  change (match zp4 ops j with
   | some s=>match e.get s with
    | some (.bool b)=>beqB b wnt
    | _=>false
   | none=>false)=true at h
  split at h
  ·rename_i s hs
   split at h
   ·rename_i b hb
    rw [ziT] at h
    rw [za6 he hg hs hb]
    exact h
   ·cases h
  ·cases h
def XOs2 (cx:Cx) (mC:Mem) (dst:Option Nat) (op:Op) (e:Env) (K:Value→Prop):Prop :=
 match op with
 | .load t a=>match e.ev a with
  | some x=>∃ v,RdG cx True mC (Instr.loadAt t x) v∧K v
  | none=>False
 | .convert s d x=>match cx.tab.get d with
  | some ⟨.int _,_,_,_⟩=>zcM cx dst op e K
  | _=>match e.ev x with
   | some v=>∃ r,RdG cx True mC (convert s d v) r∧K r
   | none=>False
 | op=>zcM cx dst op e K
def zgw (cx:Cx) (mC:Mem) (ops:List Oper) (i:Nat) (ih:Env→Mem→Prop):Env→Mem→Prop:=fun e m=>match nth ops i with
 | some o=>match gOk ops e o.guard with
  | true=>XOs2 cx mC o.dst o.op e fun v=>ih (e.putD o.dst v) m
  | false=>False
 | none=>False
def zdU (cx:Cx) (mC:Mem) (ops:List Oper) (kp:List PanicEntry→Mem→Prop) (i:Nat) (ih more:Env→Mem→Prop):Env→Mem→Prop:=fun e m=>(match nth ops i with
 | some o=>match gOk ops e o.guard with
  | true=>XO cx o.dst o.op o.type e m (fun v m'=>SubM cx m' mC∧ih (e.putD o.dst v) m') kp
  | false=>False
 | none=>False)∧more e m
noncomputable def XTG (cx:Cx) (mC:Mem) (ops:List Oper) (k:Env→Mem→Prop) (kp:List PanicEntry→Mem→Prop) (t:Tr):Env→Mem→Prop :=
 Tr.rec (motive:=fun _=>Env→Mem→Prop) k (fun _ _=>True) (fun i _ ih=>zgw cx mC ops i ih) (fun i _ _ ih more=>zdU cx mC ops kp i ih more) t
theorem zxp (ht:TabOk cx.P cx.tab) {mC:Mem} {o:Oper} {e:Env} {a:Act} {K:Value→Prop} (he:EnvOk cx.n cx.df e a) (h:XOs2 cx mC o.dst o.op e K):∃ v,(∀ w,MemOk cx.w0 cx.S mC w→(execOp a.eval o).run cx.P w=.ok (.value v) w)∧K v:=by
 have viaPop:zcM cx o.dst o.op e K→∃ v,(∀ w,MemOk cx.w0 cx.S mC w→(execOp a.eval o).run cx.P w=.ok (.value v) w)∧K v:=by
  intro h
  unfold zcM at h
  split at h
  ·rename_i v hv
   exact⟨v,fun w _=>zc2 ht he hv (fun p hp=>by cases hp),h⟩
  ·rename_i v p hv
   exact⟨v,fun w _=>zc2 ht he hv (fun q hq=>by cases hq;exact h.1),h.2⟩
  ·exact h.elim
 unfold XOs2 at h
 split at h
 ·rename_i t x hop
  split at h
  ·rename_i u hu
   obtain ⟨v,hl,hk⟩:=h
   refine⟨v,fun w hw=>?_,hk⟩
   have:=hl trivial w hw
   unfold execOp
   rw [hop]
   simp only [he.ev hu]
   exact zf8 this
  ·exact h.elim
 ·rename_i s d x hop
  split at h
  ·exact viaPop h
  ·split at h
   ·rename_i u hu
    obtain ⟨v,hl,hk⟩:=h
    refine⟨v,fun w hw=>?_,hk⟩
    have:=hl trivial w hw
    unfold execOp
    rw [hop]
    simp only [he.ev hu]
    exact zf8 this
   ·exact h.elim
 ·exact viaPop h
theorem zyp (ht:TabOk cx.P cx.tab) {ops:Array Oper} {mC:Mem} {k:Env→Mem→Prop} {kp:List PanicEntry→Mem→Prop} (hsel:Region.noSelect ops=true) (hds:zbG cx.n ops.toList=true):∀ (t:Tr) (f:Nat) (top:Bool) (listed:Array Bool) (e:Env) (m:Mem) (a:Act) (w:World),
  Tr.chk ops t f top listed=true→EnvOk cx.n cx.df e a→MemOk cx.w0 cx.S m w→MemOk cx.w0 cx.S mC w→XTG cx mC ops.toList k kp t e m →
  (top=true→AnyC cx.P .any ops (MemOk cx.w0 cx.S mC) (QT cx k kp) f listed a w) ∧
  (top=false→∀ i∈t.heads,0<f∧wpOp cx.P ops (QT cx k kp) i (fun a' w'=>MemOk cx.w0 cx.S mC w'∧AnyC cx.P .any ops (MemOk cx.w0 cx.S mC) (QT cx k kp) (f-1) (listed.setIfInBounds i true) a' w') a w):=by
 intro t
 induction t with
 | done =>
  intro f top listed e m a w hc he hm hmC h
  simp only [Tr.chk,Bool.and_eq_true,List.isEmpty_iff] at hc
  refine⟨fun _=>?_,fun h0=>absurd (hc.1.symm.trans h0) (by decide)⟩
  have hq:QT cx k kp .normal a w:=⟨e,m,he,hm,h⟩
  cases f with
  | zero=>exact⟨hc.2,hq⟩
  | succ f=>exact⟨fun _=>hq,fun i hi=>by rw [hc.2] at hi;cases hi⟩
 | stop =>
  intro f top listed e m a w hc he hm hmC h
  simp only [Tr.chk,Bool.not_eq_true'] at hc
  exact⟨fun h0=>absurd (h0.symm.trans hc) (by decide),fun _ i hi=>by cases hi⟩
 | hoist i t ih =>
  intro f top listed e m a w hc he hm hmC h
  simp only [Tr.chk,Bool.and_eq_true,decide_eq_true_eq] at hc
  obtain ⟨⟨⟨⟨htop,hf⟩,hr⟩,hfr⟩,hc⟩:=hc
  refine⟨fun _=>?_,fun h0=>absurd (htop.symm.trans h0) (by decide)⟩
  change zgw cx mC ops.toList i (XTG cx mC ops.toList k kp t) e m at h
  unfold zgw at h
  split at h
  ·rename_i o ho
   have hi:ops[i]?=some o:=by rw [zcr] at ho;simpa using ho
   split at h
   ·rename_i hg
    obtain ⟨v,hy,hk⟩:=zxp ht he h
    obtain ⟨f,rfl⟩:∃ f',f=f'+1:=⟨f-1,by omega⟩
    have hds':=zcY hds ho
    have:=(ih f true (listed.setIfInBounds i true) _ m (a.put o.dst v) w hc (he.put hds' v) hm hmC hk).1 rfl
    exact AnyC.first QT.blind hi (Region.noSelect_spec hsel) f listed a w hmC (Region.free_spec hi hfr) (by simpa using hr) ⟨zvE he hg,hy⟩ this
   ·exact h.elim
  ·exact h.elim
 | alts i t more ih ihm =>
  intro f top listed e m a w hc he hm hmC h
  simp only [Tr.chk,Bool.and_eq_true,decide_eq_true_eq] at hc
  obtain ⟨⟨⟨⟨hcov,hf⟩,hri⟩,hct⟩,hcm⟩:=hc
  change zdU cx mC ops.toList kp i (XTG cx mC ops.toList k kp t) (XTG cx mC ops.toList k kp more) e m at h
  obtain ⟨h1,h2⟩:=h
  have hmore:=(ihm f false listed e m a w hcm he hm hmC h2).2 rfl
  have hhead:wpOp cx.P ops (QT cx k kp) i (fun a' w'=>MemOk cx.w0 cx.S mC w'∧AnyC cx.P .any ops (MemOk cx.w0 cx.S mC) (QT cx k kp) (f-1) (listed.setIfInBounds i true) a' w') a w:=by
   split at h1
   ·rename_i o ho
    have hi:ops[i]?=some o:=by rw [zcr] at ho;simpa using ho
    have hds':=zcY hds ho
    split at h1
    ·rename_i hg
     unfold wpOp
     simp only [hi,zvE he hg,if_true]
     refine .inl (zsP ht he hm h1 (fun v m' w' hm' hk=>?_) (fun ch m' w' hm' hk=>⟨he.nil,m',hm',hk⟩))
     have hmC':=hk.1 w' hm'
     exact⟨hmC',(ih (f-1) true (listed.setIfInBounds i true) _ m' (a.put o.dst v) w' hct (he.put hds' v) hm' hmC' hk.2).1 rfl⟩
    ·exact h1.elim
   ·exact h1.elim
  have hall:∀ j∈(Tr.alts i t more).heads,0<f∧wpOp cx.P ops (QT cx k kp) j (fun a' w'=>MemOk cx.w0 cx.S mC w'∧AnyC cx.P .any ops (MemOk cx.w0 cx.S mC) (QT cx k kp) (f-1) (listed.setIfInBounds j true) a' w') a w:=by
   intro j hj
   rcases List.mem_cons.1 hj with rfl|hj
   ·exact⟨hf,hhead⟩
   ·exact hmore j hj
  refine⟨fun htop=>?_,fun _=>hall⟩
  subst htop
  simp only [Bool.not_true,Bool.false_or,List.all_eq_true,List.contains_iff_mem] at hcov
  obtain ⟨f,rfl⟩:∃ f',f=f'+1:=⟨f-1,by omega⟩
  have hri':i∈Region.ready .any ops listed:=by simpa using hri
  refine⟨fun h0=>(by rw [h0] at hri';cases hri'),fun j hj=>(hall j ?_).2⟩
  have:=hcov j hj
  simpa [Tr.heads] using this
theorem zcd {γ:Type} (t:Tr) (mC:Mem) (ht:TabOk cx.P cx.tab) (hmix:cx.P.follows .mixedOrders=true) {id:Nat} {ops:Array Oper} (hc:(Region.noSelect ops&&Tr.chk ops t ops.size true (Array.replicate ops.size false))=true) (hds:zbG cx.n ops.toList=true) {k:Exit→Env→Mem→Prop} {e:Env} {m:Mem}
  (I:γ→Prop) (E:γ→Env) (M:γ→Mem) (hmC:SubM cx m mC)
  (h:XTG cx mC ops.toList (fun e m=>∃ g,I g∧Env.sub (E g) e∧SubM cx m (M g)) (fun ch m=>k (.panic ch) [] m) t e m)
  (hk:∀ g,I g→k .normal (E g) (M g)):Dr cx id ops k e m:=by
 intro a w he hm
 simp only [Bool.and_eq_true] at hc
 have hm':=hm.same (zeu w (w.drawn+1))
 have:=((zyp ht hc.1 hds t ops.size true _ e m a _ hc.2 he hm' (hmC _ hm') h).1 rfl).any
 refine wp_mono (wp_region_any hmix this) ?_
 intro ex a' w' hq
 cases ex with
 | normal =>
  obtain ⟨e',m',h1,h2,g,h3,h4,h5⟩:=hq
  exact⟨E g,M g,h1.sub h4,h5 _ h2,hk g h3⟩
 | panic ch =>
  obtain ⟨h1,m',h2,h3⟩:=hq
  exact⟨[],m',h1,h2,h3⟩
 | exit id=>exact hq.elim
 | goto l=>exact hq.elim
 | ret=>exact hq.elim
 | outgrown=>exact hq.elim
end anyG
end Go.Proofs.YtlmgelmloddfgaaGreat.Eng
namespace Go.Proofs.YtlmgelmloddfgaaGreat
open Go Go.RowKit Eng
def appR (s:RS):Ev→RS
 | .hold cl k=>{ s with holds:=s.holds++[(cl,k+1)] }
 | .find x=>{ s with finds:=s.finds++[x] }
 | .data=>if s.active then { s with data:=inc s.data } else s
 | .packed=>if s.active then { s with packed:=inc s.packed } else s
 | .zero=>if s.active then { s with zero:=inc s.zero } else s
def zaw (s:RS) (l:List Ev):RS:=l.foldl appR s
theorem zbp (s:RS) (l k:List Ev):zaw s (l++k)=zaw (zaw s l) k:=List.foldl_append
def RS.len (s:RS):Nat:=s.holds.length+s.finds.length
theorem zhD (s:RS) (e:Ev):(appR s e).len≤s.len+1:=by
 cases e<;>simp only [appR,RS.len]
 ·rw [List.length_append,List.length_singleton];omega
 ·rw [List.length_append,List.length_singleton];omega
 all_goals (split<;>exact Nat.le_succ _)
theorem za1:∀ (l:List Ev) (s:RS),(zaw s l).len≤s.len+l.length
 | [],s=>Nat.le_refl _
 | e::l,s=>by
  have h1:=zhD s e
  have h2:=za1 l (appR s e)
  show (zaw (appR s e) l).len≤_
  rw [List.length_cons]
  omega
theorem zm0 {α:Type} (n:Nat) (f:Nat→α):(rng n fun i=>[f i]).length=n:=by
 induction n with
 | zero=>rfl
 | succ n ih=>rw [zbD,List.length_append,ih];rfl
attribute [local irreducible] Br Rn RnU Cl RdG CpG Ld Rd Lp Dr Oth Cut fin Fits Eng.Enters Md NA
theorem zcz:Eng.Enters Tryz.prog 117:=zab fun _ _=>by kernel_rfl
theorem zaY:Eng.Enters Tryz.prog 113:=zab fun _ _=>by kernel_rfl
theorem zfd (p:WP) (s:RS) (g:RG) (k a:Int) (w:World) (hl:s.len≤30000000000) (hm:MemOk w (Foot (rM p s g)) (rM p s g) w) :
  Ctr Tryz.prog 117 [.pointer (some ⟨p.wB,0,none⟩),.int .i64 k,.int .i64 a] (rM p s g) (RwR p (.tuple #[]) (appR s (.find ⟨k,a,0,0⟩))) w:=by
 refine enter (cx:=CXS 18 [] w (Foot (rM p s g))) [(0,.pointer (some ⟨p.wB,0,none⟩)),(1,.int .i64 k),(2,.int .i64 a)] zaa Tryz.func117 rfl rfl rfl rfl hm ?_
 have hl1:s.finds.length≤30000000000:=by unfold RS.len at hl;omega
 refine gGw ?_;(repeat ((first|refine .mk fun Ap capp=>?_|intro _);(conv=>whnf);refine gG0 ?_))
 have el:(s.finds++[(⟨k,a,0,0⟩:Fi)]).flatMap Fi.cs=s.finds.flatMap Fi.cs++Fi.cs ⟨k,a,0,0⟩:=by rw [List.flatMap_append];simp
 have ll:(s.finds++[(⟨k,a,0,0⟩:Fi)]).length=s.finds.length+1:=by simp
 refine fin0 rfl (fun w' hm=>⟨_,⟨rfl,{ g with fA:=Ap,fc:=capp },rfl⟩,?_⟩) (by first|exact .inl rfl|exact .inr rfl)
 unfold appR
 simp only [rM,zif,el,ll]
 exact hm.sl
theorem zbC (p:WP) (s:RS) (g:RG) (a n k t:Int) (w:World) (hp:p.Ok) (hlb:p.bs.length≤1000000) (hb:p.h.bits≤60) (hcb:p.c=clus p.h.bits) (hl:s.len≤20000000000) (ha:-9223372036854775808≤a∧a≤9223372036854775807) (hn:1≤n∧n≤4611686018427387903) (hk:0≤k∧k≤100) (hm:MemOk w (Foot (rM p s g)) (rM p s g) w) :
  Ctr Tryz.prog 113 [.pointer (some ⟨p.wB,0,none⟩),.int .i64 a,.int .i64 n,.int .i64 (k+1),.int .i64 t] (rM p s g) (RwR p (.bool (zay p a n)) (zaw s (tRun p a n t k))) w:=by
 refine enter (cx:=⟨Tryz.prog,49,w,Foot (rM p s g),tab,[],[120],[],[]⟩) [(0,.pointer (some ⟨p.wB,0,none⟩)),(1,.int .i64 a),(2,.int .i64 n),(3,.int .i64 (k+1)),(4,.int .i64 t)] zaa Tryz.func113 rfl rfl rfl rfl hm ?_
 have hc0:=hp.c0
 have hnb:=n_bd hp
 have hub:=zqK (c:=p.c) (by omega) (show 0≤n by omega)
 have d1:=zlt hc0 ha
 have e1:IntKind.i64.wrap (a.tdiv p.c)=a.tdiv p.c:=IntWalk.i64_in _ (by omega)
 refine gGw ?_
 refine⟨zmR,zae _ (fun w' hm'=>zt9 p s g a n w' hp hb hcb ha (by omega) (zdB (r:=[]) hm')) ?_⟩
 rw [zoZ hp hn.1]
 refine gGw ?_
 cases hw:zay p a n with
 | false =>
  refine br_n (br_f rfl ?_)
  refine gGw ?_
  refine⟨zcz,zac (m1:=rM p s g) (by repeat constructor) (fun w' hm'=>zfd p s g 1 t w' (by omega) hm'.part) ?_⟩
  rintro e m' ⟨rfl,g',rfl⟩
  refine gGw ?_
  refine fin1 rfl rfl (fun w' hm=>⟨_,⟨rfl,g',?_⟩,hm⟩)
  unfold tRun
  rw [hw];rfl
 | true =>
  refine br_n (br_t rfl ?_)
  refine gGw ?_
  refine⟨zbr,zae _ (fun w' hm'=>zcJ p s g w' hb hcb (zdB (r:=[]) hm')) ?_⟩
  refine gGw ?_
  have hin:=withinF_iff.1 hw
  have hq0:0≤a.tdiv p.c:=by rw [Int.tdiv_eq_ediv_of_nonneg (by omega)];exact Int.ediv_nonneg (by omega) (by omega)
  have hu:upF' n p.c=((upC p n:Nat):Int):=by
   unfold upC
   rw [zjU (by omega) (by omega),Int.tdiv_eq_ediv_of_nonneg (by omega)]
   have:0≤(n+p.c-1)/p.c:=Int.ediv_nonneg (by omega) (by omega)
   show (n+p.c-1)/p.c=_
   omega
  have hun:(upC p n:Int)≤p.n:=by
   have h4:=hin.2.2.2
   unfold upC
   have:0≤(n+p.c-1).tdiv p.c:=by rw [Int.tdiv_eq_ediv_of_nonneg (by omega)];exact Int.ediv_nonneg (by omega) (by omega)
   omega
  have eT:zaw s (tRun p a n t k)=zaw s (rng (upC p n) fun i=>[.hold (a.tdiv p.c+i) k]):=by unfold tRun;rw [hw];rfl
  rw [eT,e1]
  clear eT
  refine lp zaa (γ:=Nat × RG) (fun q=>q.1≤upC p n) (fun q=>[(12,.int .i64 (a.tdiv p.c+q.1)),(11,.int .i64 p.c),(0,.pointer (some ⟨p.wB,0,none⟩)),(1,.int .i64 a),(2,.int .i64 n),(3,.int .i64 (k+1))])
   (fun q=>rM p (zaw s (rng q.1 fun i=>[.hold (a.tdiv p.c+i) k])) q.2) (fun q=>upC p n-q.1) (0,g) (Nat.zero_le _) ⟨by show _=some (Value.int .i64 (a.tdiv p.c+0));rw [Int.add_zero];rfl,rfl,rfl,rfl,rfl,rfl,trivial⟩ SubM.sl ?_
  rintro ⟨i,g2⟩ hi
  simp only at hi
  have hlen:=za1 (rng i fun i=>[Ev.hold (a.tdiv p.c+i) k]) s
  rw [zm0] at hlen
  have es:zaw s (rng (i+1) fun i=>[.hold (a.tdiv p.c+i) k])=appR (zaw s (rng i fun i=>[.hold (a.tdiv p.c+i) k])) (.hold (a.tdiv p.c+i) k):=by rw [zbD,zbp];rfl
  dsimp only
  generalize hS:zaw s (rng i fun i=>[.hold (a.tdiv p.c+i) k])=s2 at hlen es ⊢
  have hl2:s2.holds.length≤25000000000:=by unfold RS.len at hlen hl;omega
  conv=>whnf
  refine zar zaa mixed (by kernel_rfl) rfl ?_;conv=>whnf
  refine gG0 ?_
  refine⟨_,cpg zfe (fun _ w' hm'=>zkf n p.c w' (by omega) (by omega)),?_⟩
  refine gGw ?_
  rw [e1,hu]
  refine br_d (fun hlt=>?_) (fun hge=>?_)
  ·refine gGw ?_;(repeat ((first|refine .mk fun Ap capp=>?_|intro _);(conv=>whnf);refine gG0 ?_))
   have el:(s2.holds++[(a.tdiv p.c+(i:Int),k+1)]).flatMap hdC=s2.holds.flatMap hdC++hdC (a.tdiv p.c+i,k+1):=by rw [List.flatMap_append];simp
   have ll:(s2.holds++[(a.tdiv p.c+(i:Int),k+1)]).length=s2.holds.length+1:=by simp
   refine⟨(i+1,{ g2 with hA:=Ap,hc:=capp }),by show i+1≤upC p n;omega,by show upC p n-(i+1)<upC p n-i;omega,⟨?_,rfl,rfl,rfl,rfl,rfl,trivial⟩,?_⟩
   ·show some _=some (Value.int .i64 (a.tdiv p.c+((i+1:Nat):Int)))
    refine congrArg (fun x=>some (Value.int .i64 x)) ?_
    push_cast
    omega
   ·show SubM _ _ (rM p (zaw s (rng (i+1) fun i=>[.hold (a.tdiv p.c+i) k])) _)
    rw [es]
    unfold appR
    simp only [rM,zif,el,ll]
    exact SubM.sl
  ·have ei:i=upC p n:=by omega
   refine gGw ?_
   subst ei
   exact fin1 rfl rfl (fun w' hm=>⟨_,⟨rfl,g2,by rw [hS]⟩,hm⟩)
end Go.Proofs.YtlmgelmloddfgaaGreat
namespace Go.Proofs.YtlmgelmloddfgaaGreat
open Go Go.RowKit Eng
def putB (s:RS) (b:List Int):RS:={ s with blocks:=b }
theorem zsL (s:RS) (b:List Int) (e:Ev):appR (putB s b) e=putB (appR s e) b:=by
 cases e<;>cases h:s.active<;>simp [appR,putB,h]
theorem zjO (b:List Int):∀ (l:List Ev) (s:RS),zaw (putB s b) l=putB (zaw s l) b
 | [],_=>rfl
 | e::l,s=>by
  show zaw (appR (putB s b) e) l=_
  rw [zsL]
  exact zjO b l (appR s e)
theorem znJ (s:RS) (e:Ev):(appR s e).blocks=s.blocks:=by
 cases e<;>simp only [appR]
 all_goals (split<;>rfl)
theorem ze9:∀ (l:List Ev) (s:RS),(zaw s l).blocks=s.blocks
 | [],_=>rfl
 | e::l,s=>by
  show (zaw (appR s e) l).blocks=_
  rw [ze9 l,znJ]
theorem zlS (s:RS):putB s s.blocks=s:=rfl
def znI (p:WP) (a:Int):Int:=if zaC p a=0 then 0 else if zay p (za4 (zaC p a)) p.c then za4 (zaC p a) else 0
def zg0 (p:WP) (n:Nat):List Int:=(List.range n).map fun i=>znI p (p.h.counts+8*(i:Nat))
theorem zsE (p:WP) (n:Nat):(zg0 p n).length=n:=by simp [zg0]
theorem zqq (p:WP) (n:Nat):zg0 p (n+1)=zg0 p n++[znI p (p.h.counts+8*(n:Nat))]:=by
 unfold zg0
 rw [List.range_succ,List.map_append];rfl
def zyg (p:WP):List Int:=if zay p p.h.counts (p.h.countsLen*p.c) then zg0 p (p.h.countsLen*p.c/8).toNat else []
theorem zke (p:WP) (s:RS) (g:RG) (a:Int) (w:World) (hp:p.Ok) (hb:BytsIn w p.A p.bs) (ha:0≤a∧a+8≤p.bs.length) (hw:RIn p s g w) :
  Calls Tryz.prog 114 #[.pointer (some ⟨p.wB,0,none⟩),.int .i64 a] w fun e w'=>e=.returned (.int .i64 (IntKind.i64.wrap (zaC p a)))∧Fr (fun _=>False) w w':=by
 obtain ⟨n,rfl⟩:∃ n:Nat,a=(n:Int):=⟨a.toNat,by omega⟩
 exact zre p s g n w hp hb (by omega) hw
theorem zb9 {p:WP} (hp:p.Ok) (a n t k:Int):((tRun p a n t k).length:Int)≤p.n+1:=by
 have hnb:=n_bd hp
 unfold tRun
 split
 ·rename_i h
  rw [zm0]
  have h1:=withinF_iff.1 h
  have hc0:=hp.c0
  unfold upC
  have h2:0≤a.tdiv p.c:=by rw [Int.tdiv_eq_ediv_of_nonneg (by omega)];exact Int.ediv_nonneg (by omega) (by omega)
  omega
 ·simp only [List.length_singleton];omega
theorem zjm {p:WP} (hp:p.Ok) {x:Int} (hx:0≤x∧x<18446744073709551616) (t k:Int):tRun p (IntKind.i64.wrap x) p.c t k=tRun p (za4 x) p.c t k:=by
 obtain ⟨h1,h2⟩:=zeA hp hx
 unfold tRun
 rw [h1]
 split
 ·rename_i h
  rw [h2 h]
 ·rfl
abbrev BInR (p:WP) (s:RS) (g:RG) (w:World):Prop:=Stb (rM p s g) w (fun w=>BytsIn w p.A p.bs)
theorem zpf {p:WP} (hp:p.Ok) (a:Int):((zbz p a).length:Int)≤p.n+1:=by
 have hnb:=n_bd hp
 unfold zbz
 split
 ·simp only [List.length_nil];omega
 ·exact zb9 hp ..
theorem zh9 {α:Type} {f:Nat→List α} {M:Nat}:∀ n:Nat,(∀ i,(f i).length≤M)→(rng n f).length≤n*M
 | 0,_=>by rw [zuh];simp
 | n+1,h=>by
  rw [zbD,List.length_append,Nat.add_mul,Nat.one_mul]
  have:=zh9 n h
  have:=h n
  omega
theorem zkv {cx:Cx} {p:WP} {m:Mem} (S:RS) (x:Int) (g:RG) {m1 r:Mem} (h:Sel m m1 r) (he:m1=[.blk p.wB (.cells ([.slice p.A p.bs.length p.cap,.int .i64 p.h.bits,.int .u64 p.h.flags,.int .i64 p.h.size,.int .i64 p.h.l1,.int .i64 p.h.l1len,.int .i64 p.h.order,.int .i64 p.h.counts,.int .i64 p.h.countsLen,.int .i64 p.h.snaps,.int .i64 p.h.snapsAt,.int .i64 p.h.snapsLen,.int .i64 p.h.bitmaps,.int .i64 p.h.bitmapsAt,.int .i64 p.h.bitmapsLen,.string p.h.backing,.slice g.hA S.holds.length g.hc,.slice g.fA S.finds.length g.fc,.slice none 0 0,.bool false,.int .i64 0,.int .i64 0,.int .i64 S.data,.int .i64 S.packed,.int .i64 S.zero,.bool S.active,.slice g.bA (S.blocks.length+1) g.bc]:List Value).toArray 81),.row g.hA g.hc S.holds.length 83 2 (S.holds.flatMap hdC),.row g.fA g.fc S.finds.length 61 4 (S.finds.flatMap Fi.cs),.row g.bA g.bc (S.blocks.length+1) 2 1 (S.blocks.map (.int .i64)++[.int .i64 x])]):SubM cx m (rM p (putB S (S.blocks++[x])) g):=by
 subst he
 unfold putB
 simp only [rM,zif,List.length_append,List.length_singleton,List.map_append,List.map_cons,List.map_nil]
 exact SubM.sel h
def zce (p:WP) (s:RS):RS:=putB (zaw s (zbd p)) (s.blocks++zyg p)
attribute [local irreducible] Br Rn RnU Cl RdG CpG Ld Rd Lp Dr Oth Cut fin Fits Eng.Enters Md NA
theorem zly:Eng.Enters Tryz.prog 68:=zab fun _ _=>by kernel_rfl
set_option maxHeartbeats 1000000 in
theorem zrf (p:WP) (s:RS) (g:RG) (w:World) (hp:p.Ok) (hlb:p.bs.length≤20000) (hbits:p.h.bits≤60) (hcb:p.c=clus p.h.bits) (hl:s.len≤10000000000) (hbl:s.blocks=[]) (hb:BInR p s g w) (hm:MemOk w (Foot (rM p s g)) (rM p s g) w) :
  Ctr Tryz.prog 68 [.pointer (some ⟨p.wB,0,none⟩)] (rM p s g) (RwR p (.tuple #[]) (zce p s)) w:=by
 refine enter (cx:=⟨Tryz.prog,66,w,Foot (rM p s g),tab,[],[71],[],[]⟩) [(0,.pointer (some ⟨p.wB,0,none⟩))] zaa Tryz.func68 rfl rfl rfl rfl hm ?_
 have hc0:=hp.c0
 have hc1:=hp.c1
 have hc8:=hp.c8
 have hcs:=hp.cs
 have hcl:=hp.cl
 have hlen:=hp.len
 have hnb:0≤p.n∧p.n≤39:=by
  rw [hp.n]
  refine⟨Int.ediv_nonneg (by omega) (by omega),?_⟩
  have h1:=Int.mul_ediv_add_emod (p.bs.length:Int) p.c
  have h2:=Int.emod_nonneg (p.bs.length:Int) (show p.c≠0 by omega)
  have h3:512*((p.bs.length:Int)/p.c)≤p.c*((p.bs.length:Int)/p.c):=Int.mul_le_mul_of_nonneg_right hc0 (Int.ediv_nonneg (by omega) (by omega))
  omega
 obtain ⟨L,hL⟩:∃ L,L=p.h.countsLen*p.c:=⟨_,rfl⟩
 have hL0:512≤L:=by
  rw [hL]
  have h1:1*p.c≤p.h.countsLen*p.c:=Int.mul_le_mul_of_nonneg_right hcl.1 (by omega)
  omega
 have hL1:L≤4294967296:=by
  rw [hL]
  have h1:p.h.countsLen*p.c≤65536*p.c:=Int.mul_le_mul_of_nonneg_right hcl.2 (by omega)
  omega
 have hL8:L%8=0:=by rw [hL,Int.mul_emod,hc8];simp
 conv=>whnf
 refine zar zaa mixed (by kernel_rfl) rfl ?_;conv=>whnf
 refine gG0 ?_
 refine⟨_,cpg zbr (fun _ w' hm'=>zcJ p s g w' hbits hcb (zdB (r:=[]) hm')),?_⟩
 conv=>whnf
 (repeat ((first|refine And.intro (zaf (by rw [← hL];omega)) ?_|refine gG1 ?_|refine .mk fun Ap capp=>?_|intro _);conv=>whnf))
 rw [← hL]
 refine⟨zaY,zac (m1:=rM p s g) (by repeat constructor) (fun w' hm'=>zbC p s g p.h.counts L 0 40 w' hp (by omega) hbits hcb (by omega) (by omega) (by omega) (by omega) hm'.part) ?_⟩
 rintro e m' ⟨rfl,g1,rfl⟩
 unfold zce zbd zyg
 rw [← hL]
 have hln:=za1 (tRun p p.h.counts L 40 0) s
 have htl:=zb9 hp p.h.counts L 40 0
 have hbk:=(ze9 (tRun p p.h.counts L 40 0) s).trans hbl
 rw [zbp]
 generalize zaw s (tRun p p.h.counts L 40 0)=s1 at hln hbk ⊢
 refine gGw ?_
 refine br_n (br (fun hok=>?_) (fun hok=>?_))
 ·have hle:=zaI hp hok
  rw [if_pos hok,if_pos hok,hbl,List.nil_append]
  clear hok
  refine gGw ?_
  have e8:L.tdiv 8=L/8:=Int.tdiv_eq_ediv_of_nonneg (by omega)
  refine lp zaa (γ:=Nat × RG) (fun q=>(q.1:Int)≤L/8)
   (fun q=>[(3,.int .i64 (q.1:Int)),(2,.int .i64 L),(0,.pointer (some ⟨p.wB,0,none⟩))]) (fun q=>rM p (putB (zaw s1 (rng q.1 fun i=>zbz p (p.h.counts+8*(i:Nat)))) (zg0 p q.1)) q.2) (fun q=>(L/8).toNat-q.1) (0,g1) (by simp only;omega) ⟨rfl,rfl,rfl,trivial⟩ ?_ ?_
  ·show SubM _ _ (rM p (putB s1 []) g1)
   rw [← hbk,zlS]
   exact SubM.sl
  rintro ⟨i,g2⟩ hi
  simp only at hi
  have hln2:=za1 (rng i fun i=>zbz p (p.h.counts+8*(i:Nat))) s1
  have hln3:=zh9 (f:=fun i=>zbz p (p.h.counts+8*(i:Nat))) (M:=40) i (fun i=>by have:=zpf hp (p.h.counts+8*(i:Nat));omega)
  obtain ⟨S,hS⟩:∃ S,S=putB (zaw s1 (rng i fun i=>zbz p (p.h.counts+8*(i:Nat)))) (zg0 p i):=⟨_,rfl⟩
  have hSl:S.len≤14000000000:=by rw [hS];show (zaw s1 _).len≤_;omega
  have hSb:S.blocks=zg0 p i:=by rw [hS];rfl
  have hSbl:S.blocks.length≤600000000:=by rw [hSb,zsE];omega
  dsimp only
  have eN:putB (zaw s1 (rng (i+1) fun i=>zbz p (p.h.counts+8*(i:Nat)))) (zg0 p (i+1))=putB (zaw S (zbz p (p.h.counts+8*(i:Nat)))) (S.blocks++[znI p (p.h.counts+8*(i:Nat))]):=by
   rw [zbD,zbp,zqq,hSb,hS,zjO];rfl
  rw [← hS]
  refine gGw ?_
  have ew:IntKind.i64.wrap (L.tdiv 8)=L/8:=by rw [e8];exact IntWalk.i64_in _ (by omega)
  rw [ew]
  refine br_d (fun hlt=>?_) (fun hge=>?_)
  ·refine gGw ?_
   refine⟨zdx,zae _ (fun w' hm'=>zke p S g2 (p.h.counts+8*(i:Int)) w' hp (hb w' hm'.fr) (by omega) (zdB (r:=[]) hm')) ?_⟩
   have hwb:=zee p (p.h.counts+8*(i:Int))
   have hwr:=IntKind.wrap_i64 (zaC p (p.h.counts+8*(i:Int)))
   have hpl:=zjm hp hwb (p.h.counts+8*(i:Int)) 0
   have hpw:=zeA hp hwb
   have hx0:zaC p (p.h.counts+8*(i:Int))≠0→¬ IntKind.i64.wrap (zaC p (p.h.counts+8*(i:Int)))=0:=fun h=>by rw [hwr];omega
   by_cases hz:zaC p (p.h.counts+8*(i:Int))=0
   ·have eC:zbz p (p.h.counts+8*(i:Nat))=[]:=by unfold zbz;rw [if_pos hz]
    have eB:znI p (p.h.counts+8*(i:Nat))=0:=by unfold znI;rw [if_pos hz]
    rw [eC,eB] at eN
    rw [hz] at hwr
    have h0:IntKind.i64.wrap 0=0:=by rw [hwr];rfl
    rw [hz,h0]
    conv=>whnf
    refine zar zaa mixed (by kernel_rfl) rfl ?_;conv=>whnf
    refine gG0 ?_
    refine br_f rfl ?_
    refine gGw ?_
    refine br_f rfl ?_
    refine gGw ?_;(repeat ((first|refine .mk fun Ap capp=>?_|intro _);(conv=>whnf);refine gG0 ?_))
    refine⟨(i+1,{ g2 with bA:=Ap,bc:=capp }),by show ((i+1:Nat):Int)≤L/8;omega,by show (L/8).toNat-(i+1)<(L/8).toNat-i;omega,⟨congrArg (fun x=>some (Value.int .i64 x)) (by push_cast;rfl),rfl,rfl,trivial⟩,?_⟩
    show SubM _ _ (rM p (putB (zaw s1 (rng (i+1) fun i=>zbz p (p.h.counts+8*(i:Nat)))) (zg0 p (i+1))) _)
    rw [eN]
    exact zkv S _ _ (by repeat constructor) rfl
   ·have hx0:=hx0 hz
    conv=>whnf
    refine zcd (γ:=RG) (Tr.hs [0,1,2,3,4,5,7,8,9,10,12,13] (.alts 6 (.sq [11] (.hs [14] (.sq [15] (.hs [16,17] .done)))) (.alts 11 (.hs [14] (.sq [6,15] (.hs [16,17] .done))) .stop))) [] zaa mixed (by kernel_rfl) rfl (fun _=>True)
     (fun _=>[(55,.bool (!zay p (IntKind.i64.wrap (zaC p (p.h.counts+8*(i:Int)))) p.c)),(4,.int .i64 (IntKind.i64.wrap (zaC p (p.h.counts+8*(i:Int))))),(3,.int .i64 (i:Int)),(2,.int .i64 L),(0,.pointer (some ⟨p.wB,0,none⟩))]) (fun g3=>rM p (zaw S (tRun p (IntKind.i64.wrap (zaC p (p.h.counts+8*(i:Int)))) p.c (p.h.counts+8*(i:Int)) 0)) g3) SubM.sl ?_ ?_
    ·refine gGw ?_
     rw [decide_eq_false hx0]
     refine gGw ?_
     refine⟨?_,?_⟩
     ·refine⟨zbr,zae _ (fun w' hm'=>zcJ p S g2 w' hbits hcb (zdB (r:=[]) hm')) ?_⟩
      conv=>whnf
      refine gGs ?_
      refine gGt ?_
      refine⟨zaY,zac (m1:=rM p S g2) (by repeat constructor) (fun w' hm'=>zbC p S g2 _ p.c 0 (p.h.counts+8*(i:Int)) w' hp (by omega) hbits hcb (by omega) (by rw [hwr];omega) (by omega) (by omega) hm'.part) ?_⟩
      rintro e m' ⟨rfl,g3,rfl⟩
      conv=>whnf
      refine gGs ?_
      refine gGw ?_
      exact⟨g3,trivial,⟨rfl,rfl,rfl,rfl,rfl,trivial⟩,SubM.sl⟩
     ·refine⟨?_,trivial⟩
      refine gGt ?_
      refine⟨zbr,zae _ (fun w' hm'=>zcJ p S g2 w' hbits hcb (zdB (r:=[]) hm')) ?_⟩
      conv=>whnf
      refine gGs ?_
      refine gGt ?_
      refine⟨zaY,zac (m1:=rM p S g2) (by repeat constructor) (fun w' hm'=>zbC p S g2 _ p.c 0 (p.h.counts+8*(i:Int)) w' hp (by omega) hbits hcb (by omega) (by rw [hwr];omega) (by omega) (by omega) hm'.part) ?_⟩
      rintro e m' ⟨rfl,g3,rfl⟩
      conv=>whnf
      refine gGs ?_
      refine gGw ?_
      exact⟨g3,trivial,⟨rfl,rfl,rfl,rfl,rfl,trivial⟩,SubM.sl⟩
    ·intro g3 _
     have eC:tRun p (IntKind.i64.wrap (zaC p (p.h.counts+8*(i:Int)))) p.c (p.h.counts+8*(i:Int)) 0=zbz p (p.h.counts+8*(i:Nat)):=by unfold zbz;rw [if_neg hz,hpl]
     rw [eC]
     have eB:znI p (p.h.counts+8*(i:Nat))=if zay p (za4 (zaC p (p.h.counts+8*(i:Int)))) p.c then za4 (zaC p (p.h.counts+8*(i:Int))) else 0:=by unfold znI;rw [if_neg hz]
     rw [eB] at eN
     have hTb:(zaw S (zbz p (p.h.counts+8*(i:Nat)))).blocks=S.blocks:=ze9 _ _
     generalize zaw S (zbz p (p.h.counts+8*(i:Nat)))=S3 at eN hTb ⊢
     rw [← hTb] at eN hSbl
     rw [hpw.1]
     refine gGw ?_
     refine br_n (br (fun hok=>?_) (fun hok=>?_))
     ·rw [if_pos hok] at eN
      rw [hpw.2 hok]
      refine gGw ?_;(repeat ((first|refine .mk fun Ap capp=>?_|intro _);(conv=>whnf);refine gG0 ?_))
      refine⟨(i+1,{ g3 with bA:=Ap,bc:=capp }),by show ((i+1:Nat):Int)≤L/8;omega,by show (L/8).toNat-(i+1)<(L/8).toNat-i;omega,⟨congrArg (fun x=>some (Value.int .i64 x)) (by push_cast;rfl),rfl,rfl,trivial⟩,?_⟩
      show SubM _ _ (rM p (putB (zaw s1 (rng (i+1) fun i=>zbz p (p.h.counts+8*(i:Nat)))) (zg0 p (i+1))) _)
      rw [eN]
      exact zkv S3 _ _ (by repeat constructor) rfl
     ·rw [if_neg (by rw [hok];decide)] at eN
      refine gGw ?_;(repeat ((first|refine .mk fun Ap capp=>?_|intro _);(conv=>whnf);refine gG0 ?_))
      refine⟨(i+1,{ g3 with bA:=Ap,bc:=capp }),by show ((i+1:Nat):Int)≤L/8;omega,by show (L/8).toNat-(i+1)<(L/8).toNat-i;omega,⟨congrArg (fun x=>some (Value.int .i64 x)) (by push_cast;rfl),rfl,rfl,trivial⟩,?_⟩
      show SubM _ _ (rM p (putB (zaw s1 (rng (i+1) fun i=>zbz p (p.h.counts+8*(i:Nat)))) (zg0 p (i+1))) _)
      rw [eN]
      exact zkv S3 _ _ (by repeat constructor) rfl
  ·have ei:i=(L/8).toNat:=by omega
   refine gGw ?_
   refine fin0 rfl (fun w' hm=>⟨_,⟨rfl,g2,?_⟩,hm⟩) (by first|exact .inl rfl|exact .inr rfl)
   rw [hS,ei]
 ·refine gGw ?_
  refine fin0 rfl (fun w' hm=>⟨_,⟨rfl,g1,?_⟩,hm⟩) (by first|exact .inl rfl|exact .inr rfl)
  rw [hok,hbl]
  show rM p s1 g1=rM p (putB s1 []) g1
  rw [← hbk,zlS]
end Go.Proofs.YtlmgelmloddfgaaGreat
namespace Go.Proofs.YtlmgelmloddfgaaGreat
open Go Go.RowKit Eng
def zfq (e:En) (bits:Int):Bool :=
 if bits<9∨16<bits then false
 else if e.kind=0∨e.kind=1 then decide (e.place=0)&&decide (e.len=0)
 else if e.kind=2 then decide (e.len=0)&&plB e.place (clus bits)
 else if e.kind=3 then decide (1≤e.len)&&decide (e.len≤16383)&&decide (e.len<clus bits)&&decide (clus bits≤e.place)&&decide (e.place≤268435456-e.len)&&decide (e.place.tmod (clus bits)+e.len≤clus bits)
 else false
theorem zrg {p l c:Int} (hc:0<c) (hp:0≤p) (hl:1≤l):p.tdiv c=(p+l-1).tdiv c↔p.tmod c+l≤c:=by
 rw [Int.tdiv_eq_ediv_of_nonneg hp,Int.tdiv_eq_ediv_of_nonneg (by omega),Int.tmod_eq_emod_of_nonneg hp]
 have h1:=Int.mul_ediv_add_emod p c
 have h2:=Int.emod_nonneg p (show c≠0 by omega)
 have h3:=Int.emod_lt_of_pos p hc
 generalize p%c=r at h1 h2 h3 ⊢
 generalize hq:p/c=q at h1 ⊢
 have e:p+l-1=(r+l-1)+c*q:=by omega
 rw [e,Int.add_mul_ediv_left _ _ (by omega)]
 constructor
 ·intro h
  have h4:(r+l-1)/c=0:=by omega
  have h5:=Int.mul_ediv_add_emod (r+l-1) c
  have h6:=Int.emod_lt_of_pos (r+l-1) hc
  rw [h4] at h5
  omega
 ·intro h
  rw [Int.ediv_eq_zero_of_lt (by omega) (by omega)];omega
attribute [local irreducible] Br Rn RnU Cl RdG CpG Ld Rd Lp Dr Oth Cut fin Fits Eng.Enters Md NA
theorem zkk:Eng.Enters Tryz.prog 209:=zab fun _ _=>by kernel_rfl
theorem zeN:Eng.Enters Tryz.prog 186:=zab fun _ _=>by kernel_rfl
theorem zbT:Eng.Enters Tryz.prog 187:=zab fun _ _=>by kernel_rfl
theorem zpA (bits:Int) (w:World):Calls Tryz.prog 209 #[.int .i64 bits] w fun e w'=>e=.returned (.bool (decide (9≤bits)&&decide (bits≤16)))∧Fr (fun _=>False) w w':=by
 refine enter (cx:=CX 9 [] w) [(0,.int .i64 bits)] zaa Tryz.func209 rfl rfl rfl rfl (MemOk.nil w _) ?_
 refine gGw ?_
 exact fin1 rfl rfl (fun w' hm=>⟨rfl,hm.fr⟩)
set_option maxHeartbeats 2000000 in
theorem zh6 (e:En) (bits:Int) (w:World) (hl:-4611686018427387904≤e.len∧e.len≤4611686018427387904) (hp:-4611686018427387904≤e.place∧e.place≤9223372036854775807) :
  Calls Tryz.prog 186 #[e.val,.int .i64 bits] w fun e' w'=>e'=.returned (.bool (zfq e bits))∧Fr (fun _=>False) w w':=by
 refine enter (cx:=⟨Tryz.prog,76,w,fun _=>False,tab,[],[73],[],[]⟩) [(0,e.val),(1,.int .i64 bits)] zaa Tryz.func186 rfl rfl rfl rfl (MemOk.nil w _) ?_
 refine gGw ?_;(repeat ((first|refine .mk fun Ap capp=>?_|intro _);(conv=>whnf);refine gG0 ?_))
 refine⟨zkk,zae _ (fun w' _=>zpA bits w') ?_⟩
 refine gGw ?_
 by_cases hb:bits<9∨16<bits
 ·have hno:zfq e bits=false:=if_pos hb
  have hcd:(decide (9≤bits)&&decide (bits≤16))=false:=by
   simp only [Bool.and_eq_false_iff,decide_eq_false_iff_not];omega
  refine br_n (br_f hcd ?_)
  refine gGw ?_
  exact fin1 rfl rfl (fun w' hm=>⟨by rw [hno],hm.fr⟩)
 have hbb:9≤bits∧bits≤16:=by omega
 have hm:zfq e bits=if e.kind=0∨e.kind=1 then decide (e.place=0)&&decide (e.len=0)
  else if e.kind=2 then decide (e.len=0)&&plB e.place (clus bits)
  else if e.kind=3 then decide (1≤e.len)&&decide (e.len≤16383)&&decide (e.len<clus bits)&&decide (clus bits≤e.place)&&decide (e.place≤268435456-e.len)&&decide (e.place.tmod (clus bits)+e.len≤clus bits)
  else false:=if_neg hb
 have hcb:=zc4 hbb
 rw [hm]
 refine br_n (br_t (by rw [decide_eq_true hbb.1,decide_eq_true hbb.2];rfl) ?_)
 refine gGw ?_
 refine⟨zbJ,zae _ (fun w' _=>zcQ bits w' (by omega)) ?_⟩
 refine gGw ?_
 by_cases k0:e.kind=0
 ·rw [if_pos (.inl k0)]
  refine br_t (decide_eq_true k0) ?_
  refine gGw ?_
  refine br_t (decide_eq_true k0) ?_
  refine gGw ?_
  exact fin1 rfl rfl (fun w' hm=>⟨rfl,hm.fr⟩)
 refine br_f (decide_eq_false k0) ?_
 refine gGw ?_
 by_cases k1:e.kind=1
 ·rw [if_pos (.inr k1)]
  refine br_t (decide_eq_true k1) ?_
  refine gGw ?_
  exact fin1 rfl rfl (fun w' hm=>⟨rfl,hm.fr⟩)
 rw [if_neg (by omega)]
 refine br_f (decide_eq_false k1) ?_
 refine gGw ?_
 by_cases k2:e.kind=2
 ·rw [if_pos k2]
  refine br_t (decide_eq_true k2) ?_
  refine gGw ?_
  refine⟨_,cpg zbn (fun _ w' _=>zch e.place bits w' (by omega)),?_⟩
  refine gGw ?_
  exact fin1 rfl rfl (fun w' hm=>⟨rfl,hm.fr⟩)
 rw [if_neg k2]
 refine br_f (decide_eq_false k2) ?_
 refine gGw ?_
 by_cases k3:e.kind=3
 ·rw [if_pos k3]
  refine br_t (decide_eq_true k3) ?_
  refine gGw ?_
  refine zar zaa mixed (by kernel_rfl) rfl ?_;conv=>whnf
  refine gG0 ?_
  refine And.intro (fun hg=>zaf (by
   simp only [Bool.and_eq_true,decide_eq_true_eq] at hg
   rw [Int.tmod_eq_emod_of_nonneg (by omega)]
   have h1:=Int.emod_nonneg e.place (show clus bits≠0 by omega)
   have h2:=Int.emod_lt_of_pos e.place (show 0<clus bits by omega)
   omega)) ?_
  refine gGw ?_
  exact fin1 rfl rfl (fun w' hm=>⟨rfl,hm.fr⟩)
 ·rw [if_neg k3]
  refine br_f (decide_eq_false k3) ?_
  refine gGw ?_
  exact fin1 rfl rfl (fun w' hm=>⟨rfl,hm.fr⟩)
theorem zuF (e:En) (bits:Int) (hk:0≤e.kind∧e.kind≤3):zfq e bits=decide (entE e bits=0):=by
 unfold zfq entE
 by_cases hb:bits<9∨16<bits
 ·rw [if_pos hb,if_pos hb];rfl
 rw [if_neg hb,if_neg hb]
 have hcb:=zc4 (bits:=bits) (by omega)
 have e1:∀ b:Bool,decide ((if b=true then (0:Int) else 2)=0)=b:=fun b=>by cases b<;>rfl
 rw [e1]
 unfold zdT
 split
 ·rfl
 ·split
  ·rw [← zoi]
   simp only [Bool.and_assoc]
  ·split
   ·rw [Bool.eq_iff_iff]
    simp only [Bool.and_eq_true,decide_eq_true_eq]
    constructor
    ·rintro ⟨⟨⟨⟨⟨a1,a2⟩,a3⟩,a4⟩,a5⟩,a6⟩
     refine⟨⟨⟨⟨⟨a1,a3⟩,a2⟩,a4⟩,a5⟩,?_⟩
     exact (zrg (c:=clus bits) (by omega) (by omega) a1).2 a6
    ·rintro ⟨⟨⟨⟨⟨a1,a3⟩,a2⟩,a4⟩,a5⟩,a6⟩
     refine⟨⟨⟨⟨⟨a1,a2⟩,a3⟩,a4⟩,a5⟩,?_⟩
     exact (zrg (c:=clus bits) (by omega) (by omega) a1).1 a6
   ·rfl
end Go.Proofs.YtlmgelmloddfgaaGreat
