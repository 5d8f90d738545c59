/- Joined by a program of this session's: X77, X78, X79, LDC, LDSTO, LH, LTB, LTY, LO, LCB, LST, LSM, LCBS, LSTS, LDLE, LSB, LWO, LWOS, X45, LOB, LLE, LNE, LSTI, LSA, LSST. -/
import Derived.Test.YtofcmhpoebbnoaaG81ed400236
import Derived.Test.YtofcmhpoebbnoaaGf54336cf5f
import Derived.Test.YtofcmhpoebbnoaaGb19ba67d23
import Derived.Test.YtofcmhpoebbnoaaG7afe573715
import Derived.Test.YtofcmhpoebbnoaaG535bd2eacd
import Derived.Test.YtofcmhpoebbnoaaGbadadd49ec
import Derived.Laws.BitsLemmas

namespace Go.Proofs.Ytofcmhpoebbnoaa.X
open Go.RowKit Go.Proofs.YtofcmhpoebbnoaaW.PrintWords Go.Proofs.YtofcmhpoebbnoaaW.PrintLast Go.Proofs.YtofcmhpoebbnoaaW.PrintMore
open Go.Proofs.YtofcmhpoebbnoaaW.PrintWords renaming Aside0.mk → mA, pw_below_drewN → bN, below_drew1 → bD, below_alloc → bA, below_set → bS, blk_alloc → kA, blk_drewN → kN, blk_drew → kD, blk_cell → kC, blk_frozen → kF, below_size → bZ, below_step → bT, Kd.R_alloc → rA, Kd.R_drewN → rN, Kd.R_drew → rD, Kd.R_mono → rM, Kd.R_reads' → rR, Kd.R_far → rF, Kd.R_lt → rL, Kd.R_below → rB, Kd.N_alloc → nA, Kd.N_drewN → nN, Kd.N_drew → nD, Kd.C_alloc → cA, Kd.C_drewN → cN, Kd.C_drew → cD
open List renaming setIfInBounds_toArray → sA, set_cons_zero → sZ, set_cons_succ → sS, length_take → lT, length_drop → lD, map_toArray → mT, map_cons → mC, map_nil → mN
attribute [local go_sem] max2_int min2_int max_two min_two max_three min_three max_four min_four   -- for this text's walks alone
set_option linter.unusedVariables false
set_option linter.unusedSimpArgs false
/-! ### impl_StoryTable: function 43 -/
def impl_StoryTable.f (k:Nat) (a0:Int) (l1:List (S43)):Option (Int):=(impl_StoryOk.f k a0 l1).bind fun t101=>(if t101=true then ((impl_storyTable.f k a0 l1).bind fun t102=>(some t102)) else (some (-1)))
theorem impl_StoryTable.mono : ∀ a0 a1 k,LeO (impl_StoryTable.f k a0 a1) (impl_StoryTable.f (k+1) a0 a1):=by
 intro a0 a1 k
 unfold impl_StoryTable.f
 repeat' first
   | (with_reducible exact impl_StoryOk.mono _ _ _)
   | (with_reducible exact impl_storyTable.mono _ _ _)
   | (with_reducible exact LeO.refl _)
   | (with_reducible exact LeO.none _)
   | (with_reducible refine LeO.ite ?_ ?_)
   | (with_reducible refine LeO.bind ?_ (fun _=>?_))
   | exact impl_StoryOk.mono _ _ _
   | exact impl_storyTable.mono _ _ _
   | exact LeO.none _
   | refine LeO.ite ?_ ?_
   | refine LeO.bind ?_ (fun _=>?_)
set_option maxHeartbeats 8000000 in
set_option maxRecDepth 100000 in
theorem impl_StoryTable.calls (k:Nat) (a0:Int) (A1:Option Addr) (c1:Nat) (l1:List (S43)) (r:Int) (w:World) (hr1:Kd.C k43 w A1 l1.length l1) (hc1:l1.length≤c1) (h:impl_StoryTable.f k a0 l1=some r) :
  Calls Try.prog 43 #[.int .i64 a0,.slice A1 l1.length c1] w fun e w'=>e = .returned (.int .i64 r)∧Below w.heap.size w w':=by
 have HR1:=mA hr1
 have HC1:=mA hc1
 clear hr1 hc1
 have HB:=mA (Below.refl w.heap.size w)
 have H:((impl_StoryOk.f k a0 l1).bind fun t101=>(if t101=true then ((impl_storyTable.f k a0 l1).bind fun t102=>(some t102)) else (some (-1))))=some r:=h
 clear h
 replace H:=Option.bind_eq_some_iff.mp H
 obtain ⟨t101,A30,H⟩:=H
 replace H:(if t101=true then ((impl_storyTable.f k a0 l1).bind fun t102=>(some t102)) else (some (-1)))=some r:=H
 have A3:=mA A30
 clear A30
 by_cases c4:t101=true
 ·subst c4
  have H1:((impl_storyTable.f k a0 l1).bind fun t102=>(some t102))=some r:=by rw [if_pos rfl] at H;exact H
  clear H
  have H:=H1
  clear H1
  replace H:=Option.bind_eq_some_iff.mp H
  obtain ⟨t102,A50,H⟩:=H
  replace H:(some t102)=some r:=H
  have A5:=mA A50
  clear A50
  obtain rfl:=Option.some.inj H
  go_enter Try.func43,Try.ntmps43
  go_wp2_with (first|((with_reducible refine gate_callee (f:=42) rfl ?_);refine goesL_ (some 7) rfl rfl Try.func42 (by kernel_rfl) rfl #[.int .i64 a0,.slice A1 l1.length c1] rfl (by (try simp only [mT,mC,mN]);first|done|rfl|(simp only [lD,lT];rfl)) ?_;(with_reducible refine (impl_StoryOk.calls k a0 _ _ l1 true _ ?side1 ?side2 A3.out).mono ?_);(case side1=>repeat (first|exact HR1.out|(with_reducible refine cA ?_ _)|(with_reducible refine cN ?_ _)|(with_reducible refine cD ?_)));(case side2=>exact HC1.out);rintro e w6 ⟨rfl,hb⟩;refine ⟨_,rfl,?_⟩;have n0_:=mA (bT (by repeat (first|(with_reducible first|exact HB.out|apply bA|apply bN|apply bD)|exact HB.out)) hb);clear HB;have HB:=n0_;clear n0_;(try clear hb);(try clear hb2);(try clear hk);(try clear hi))|((with_reducible refine gate_callee (f:=78) rfl ?_);refine goesL_ (some 11) rfl rfl Try.func78 (by kernel_rfl) rfl #[.int .i64 a0,.slice A1 l1.length c1] rfl (by (try simp only [mT,mC,mN]);first|done|rfl|(simp only [lD,lT];rfl)) ?_;(with_reducible refine (impl_storyTable.calls k a0 _ _ l1 t102 _ ?side1 ?side2 A5.out).mono ?_);(case side1=>repeat (first|exact (Kd.C_below HR1.out HB.out)|(with_reducible refine cA ?_ _)|(with_reducible refine cN ?_ _)|(with_reducible refine cD ?_)));(case side2=>exact HC1.out);rintro e w7 ⟨rfl,hb⟩;refine ⟨_,rfl,?_⟩;have n0_:=mA (bT (by repeat (first|(with_reducible first|exact HB.out|apply bA|apply bN|apply bD)|exact HB.out)) hb);clear HB;have HB:=n0_;clear n0_;(try clear hb);(try clear hb2);(try clear hk);(try clear hi)))
  go_ret
  exact ⟨by first|rfl|(simp [errW_none,errW_some]<;>rfl)|(simp [*, errW_none,errW_some]<;>rfl),by repeat (first|(with_reducible first|exact HB.out|apply bA|apply bN|apply bD)|exact HB.out)⟩
 ·replace c4:=Bool.eq_false_iff.mpr c4
  subst c4
  have H1:(some (-1))=some r:=by rw [if_neg (show ¬ (false=true) by decide)] at H;exact H
  clear H
  have H:=H1
  clear H1
  obtain rfl:=Option.some.inj H
  go_enter Try.func43,Try.ntmps43
  go_wp2_with (first|((with_reducible refine gate_callee (f:=42) rfl ?_);refine goesL_ (some 7) rfl rfl Try.func42 (by kernel_rfl) rfl #[.int .i64 a0,.slice A1 l1.length c1] rfl (by (try simp only [mT,mC,mN]);first|done|rfl|(simp only [lD,lT];rfl)) ?_;(with_reducible refine (impl_StoryOk.calls k a0 _ _ l1 false _ ?side1 ?side2 A3.out).mono ?_);(case side1=>repeat (first|exact HR1.out|(with_reducible refine cA ?_ _)|(with_reducible refine cN ?_ _)|(with_reducible refine cD ?_)));(case side2=>exact HC1.out);rintro e w8 ⟨rfl,hb⟩;refine ⟨_,rfl,?_⟩;have n0_:=mA (bT (by repeat (first|(with_reducible first|exact HB.out|apply bA|apply bN|apply bD)|exact HB.out)) hb);clear HB;have HB:=n0_;clear n0_;(try clear hb);(try clear hb2);(try clear hk);(try clear hi)))
  go_ret
  exact ⟨by first|rfl|(simp [errW_none,errW_some]<;>rfl)|(simp [*, errW_none,errW_some]<;>rfl),by repeat (first|(with_reducible first|exact HB.out|apply bA|apply bN|apply bD)|exact HB.out)⟩
/-! ### impl_NeedlessClaims: function 44 -/
def impl_NeedlessClaims.l0:Nat→Int→List (S43)→List Int→Int→Int→Option (List Int)
 | 0,_,_,_,_,_=>none
 | k+1,x0,x1,x5,x13,x14=>if x14<x13 then ((impl_without.f x1 x14).bind fun t105=>((impl_storyTable.f k x0 t105).bind fun t108=>((impl_storyTable.f k x0 x1).bind fun t109=>(if t108=t109 then (if x5.length<17592186044416 then (impl_NeedlessClaims.l0 k x0 x1 (x5++[x14]) x13 (wrap64 (x14+1))) else (none)) else (impl_NeedlessClaims.l0 k x0 x1 x5 x13 (wrap64 (x14+1))))))) else (some x5)
def impl_NeedlessClaims.f (k:Nat) (a0:Int) (l1:List (S43)):Option (List Int):=(impl_StoryOk.f k a0 l1).bind fun t101=>(if t101=true then (impl_NeedlessClaims.l0 k a0 l1 (([]:List Int)) (l1.length:Int) 0) else (some ([]:List Int)))
theorem impl_NeedlessClaims.mono_l : ∀ k,(∀ y0 y1 y2 y3 y4,LeO (impl_NeedlessClaims.l0 k y0 y1 y2 y3 y4) (impl_NeedlessClaims.l0 (k+1) y0 y1 y2 y3 y4))
 | 0=>fun _ _ _ _ _ r h=>by simp [impl_NeedlessClaims.l0] at h
 | k+1=>by
  have ih0:=impl_NeedlessClaims.mono_l k
  ·intro y0 y1 y2 y3 y4
   unfold impl_NeedlessClaims.l0
   repeat' first
   | (with_reducible exact ih0 _ _ _ _ _)
   | (with_reducible exact impl_StoryOk.mono _ _ _)
   | (with_reducible exact impl_storyTable.mono _ _ _)
   | (with_reducible exact LeO.refl _)
   | (with_reducible exact LeO.none _)
   | (with_reducible refine LeO.ite ?_ ?_)
   | (with_reducible refine LeO.bind ?_ (fun _=>?_))
   | exact ih0 _ _ _ _ _
   | exact impl_StoryOk.mono _ _ _
   | exact impl_storyTable.mono _ _ _
   | exact LeO.none _
   | refine LeO.ite ?_ ?_
   | refine LeO.bind ?_ (fun _=>?_)
theorem impl_NeedlessClaims.mono : ∀ a0 a1 k,LeO (impl_NeedlessClaims.f k a0 a1) (impl_NeedlessClaims.f (k+1) a0 a1):=by
 intro a0 a1 k
 have ih0:=impl_NeedlessClaims.mono_l k
 unfold impl_NeedlessClaims.f
 repeat' first
   | (with_reducible exact ih0 _ _ _ _ _)
   | (with_reducible exact impl_StoryOk.mono _ _ _)
   | (with_reducible exact impl_storyTable.mono _ _ _)
   | (with_reducible exact LeO.refl _)
   | (with_reducible exact LeO.none _)
   | (with_reducible refine LeO.ite ?_ ?_)
   | (with_reducible refine LeO.bind ?_ (fun _=>?_))
   | exact ih0 _ _ _ _ _
   | exact impl_StoryOk.mono _ _ _
   | exact impl_storyTable.mono _ _ _
   | exact LeO.none _
   | refine LeO.ite ?_ ?_
   | refine LeO.bind ?_ (fun _=>?_)
set_option maxHeartbeats 8000000 in
set_option maxRecDepth 100000 in
theorem impl_NeedlessClaims.calls (k:Nat) (a0:Int) (A1:Option Addr) (c1:Nat) (l1:List (S43)) (r:List Int) (w:World) (hr1:Kd.C k43 w A1 l1.length l1) (hc1:l1.length≤c1) (h:impl_NeedlessClaims.f k a0 l1=some r) :
  Calls Try.prog 44 #[.int .i64 a0,.slice A1 l1.length c1] w fun e w'=>∃ v0_:Value,e = .returned (v0_)∧Kd.R (Kd.int .i64) 3 w' w.heap.size (fun _=>True) v0_ r∧Below w.heap.size w w':=by
 have HR1:=mA hr1
 have HC1:=mA hc1
 clear hr1 hc1
 have HB:=mA (Below.refl w.heap.size w)
 have H:((impl_StoryOk.f k a0 l1).bind fun t101=>(if t101=true then (impl_NeedlessClaims.l0 k a0 l1 (([]:List Int)) (l1.length:Int) 0) else (some ([]:List Int))))=some r:=h
 clear h
 replace H:=Option.bind_eq_some_iff.mp H
 obtain ⟨t101,A30,H⟩:=H
 replace H:(if t101=true then (impl_NeedlessClaims.l0 k a0 l1 (([]:List Int)) (l1.length:Int) 0) else (some ([]:List Int)))=some r:=H
 have A3:=mA A30
 clear A30
 by_cases c4:t101=true
 ·subst c4
  have H1:(impl_NeedlessClaims.l0 k a0 l1 (([]:List Int)) (l1.length:Int) 0)=some r:=by rw [if_pos rfl] at H;exact H
  clear H
  have H:=H1
  clear H1
  obtain ⟨y102,hy102⟩ : ∃ y_:List Int,y_=(([]:List Int)):=⟨_,rfl⟩
  replace H:(impl_NeedlessClaims.l0 k a0 l1 y102 (l1.length:Int) 0)=some r:=by first|(rw [hy102];with_reducible exact H)|(have H2_:=(Option.bind_some _ _).symm.trans H;rw [hy102];with_reducible exact H2_)|(have H2_:=(Option.bind_some _ _).symm.trans H;with_reducible exact H2_)|with_reducible exact H|(rw [hy102];exact H)|exact H
  have Ny102:=mA hy102
  clear hy102
  have H':=mA H
  clear H
  go_enter Try.func44,Try.ntmps44
  go_wp2_with (first|((with_reducible refine gate_callee (f:=42) rfl ?_);refine goesL_ (some 9) rfl rfl Try.func42 (by kernel_rfl) rfl #[.int .i64 a0,.slice A1 l1.length c1] rfl (by (try simp only [mT,mC,mN]);first|done|rfl|(simp only [lD,lT];rfl)) ?_;(with_reducible refine (impl_StoryOk.calls k a0 _ _ l1 true _ ?side1 ?side2 A3.out).mono ?_);(case side1=>repeat (first|exact HR1.out|(with_reducible refine cA ?_ _)|(with_reducible refine cN ?_ _)|(with_reducible refine cD ?_)));(case side2=>exact HC1.out);rintro e w5 ⟨rfl,hb⟩;refine ⟨_,rfl,?_⟩;have n0_:=mA (bT (by repeat (first|(with_reducible first|exact HB.out|apply bA|apply bN|apply bD)|exact HB.out)) hb);clear HB;have HB:=n0_;clear n0_;(try clear hb);(try clear hb2);(try clear hk);(try clear hi))|((with_reducible refine gate_dst (N:=11) rfl ?_);refine Kd.R_lit (Kd.int .i64) _ 3 ?hg (N:=11) ?hd (xs:=([]:List Int)) (inner:=[]) (ok:=fun _=>True) (okp:=fun _=>True) ?hr ?hp (fun _ hk=>hk) trivial (Below.refl _ _) (Nat.le_refl _) (by simp) ?_;(case hd=>rfl);(case hg=>rfl);(case hr=>first|(go_simp;done)|(go_simp;rfl));(case hp=>exact (Reps.none _ _));intro v103 w6 ho7 hb hg_ hnew_;clear hg_ hnew_;(first|rw [←Ny102.out] at ho7|(simp only [Int.reduceToNat] at ho7;rw [←Ny102.out] at ho7));have n0_:=mA (Kd.R_lower ho7 (bZ (by repeat (first|(with_reducible first|exact HB.out|apply bA|apply bN|apply bD)|exact HB.out))));have n1_:=mA (bT (by repeat (first|(with_reducible first|exact HB.out|apply bA|apply bN|apply bD)|exact HB.out)) hb);clear HB;have HO104:=n0_;have HB:=n1_;clear n0_ n1_ hb ho7))
  go_loopg [5,14] k (fun kq v5 v14 w'=>∃ (x5_1:List Int) (x14_1:Int),v14 = .int .i64 x14_1∧Aside0 (impl_NeedlessClaims.l0 kq a0 l1 x5_1 (l1.length:Int) x14_1=some r)∧Aside0 (kq≤k)∧Aside0 (Kd.R (Kd.int .i64) 3 w' w.heap.size (fun _=>True) v5 x5_1)∧Aside0 (Below w.heap.size w w'))
  case atStart=>exact ⟨(y102),(0),(by first|rfl|(simp;done)|(simp [*];done)),H',⟨Nat.le_refl _⟩,⟨by (with_reducible repeat (first|apply rA|apply rN|apply rD));exact HO104.out⟩,⟨by repeat (first|(with_reducible first|exact HB.out|apply bA|apply bN|apply bD)|exact HB.out)⟩⟩
  case round =>
   clear H'
   try clear c1
   try clear p2
   try clear c4
   obtain ⟨x5_1,x14_1,rfl,HA,HK1,HO_5,HB⟩:=hrel
   cases gk with
   | zero=>exact absurd HA.out (by simp [impl_NeedlessClaims.l0])
   | succ k1 =>
    have H:=HA.out
    clear HA
    simp only [impl_NeedlessClaims.l0] at H
    by_cases c8:x14_1<(l1.length:Int)
    ·rw [if_pos c8] at H
     have c8b0:decide (x14_1<(l1.length:Int))=true:=decide_eq_true c8
     clear c8
     replace H:=Option.bind_eq_some_iff.mp H
     obtain ⟨t105,A90,H⟩:=H
     replace H:((impl_storyTable.f k1 a0 t105).bind fun t108=>((impl_storyTable.f k1 a0 l1).bind fun t109=>(if t108=t109 then (if x5_1.length<17592186044416 then (impl_NeedlessClaims.l0 k1 a0 l1 (x5_1++[x14_1]) (l1.length:Int) (wrap64 (x14_1+1))) else (none)) else (impl_NeedlessClaims.l0 k1 a0 l1 x5_1 (l1.length:Int) (wrap64 (x14_1+1))))))=some r:=H
     have A9:=mA A90
     clear A90
     replace H:=Option.bind_eq_some_iff.mp H
     obtain ⟨t108,A100,H⟩:=H
     replace H:((impl_storyTable.f k1 a0 l1).bind fun t109=>(if t108=t109 then (if x5_1.length<17592186044416 then (impl_NeedlessClaims.l0 k1 a0 l1 (x5_1++[x14_1]) (l1.length:Int) (wrap64 (x14_1+1))) else (none)) else (impl_NeedlessClaims.l0 k1 a0 l1 x5_1 (l1.length:Int) (wrap64 (x14_1+1)))))=some r:=H
     have A10:=mA A100
     clear A100
     replace H:=Option.bind_eq_some_iff.mp H
     obtain ⟨t109,A110,H⟩:=H
     replace H:(if t108=t109 then (if x5_1.length<17592186044416 then (impl_NeedlessClaims.l0 k1 a0 l1 (x5_1++[x14_1]) (l1.length:Int) (wrap64 (x14_1+1))) else (none)) else (impl_NeedlessClaims.l0 k1 a0 l1 x5_1 (l1.length:Int) (wrap64 (x14_1+1))))=some r:=H
     have A11:=mA A110
     clear A110
     by_cases c12:t108=t109
     ·rw [if_pos c12] at H
      have c12b0:(t108==t109)=true:=beq_iff_eq.mpr c12
      have c12b1:(t108 != t109)=false:=bne_eq_false_iff_eq.mpr c12
      clear c12
      by_cases c13:x5_1.length<17592186044416
      ·rw [if_pos c13] at H
       have LMc13:=mA c13
       clear c13
       obtain ⟨y110,hy110⟩ : ∃ y_:List Int,y_=(x5_1++[x14_1]):=⟨_,rfl⟩
       replace H:(impl_NeedlessClaims.l0 k1 a0 l1 y110 (l1.length:Int) (wrap64 (x14_1+1)))=some r:=by first|(rw [hy110];with_reducible exact H)|(have H2_:=(Option.bind_some _ _).symm.trans H;rw [hy110];with_reducible exact H2_)|(have H2_:=(Option.bind_some _ _).symm.trans H;with_reducible exact H2_)|with_reducible exact H|(rw [hy110];exact H)|exact H
       have Ny110:=mA hy110
       clear hy110
       have H':=mA H
       clear H
       go_wp2_with (first|((with_reducible refine gate_callee (f:=77) rfl ?_);refine goesL_ (some 20) rfl rfl Try.func77 (by kernel_rfl) rfl #[.slice A1 l1.length c1,.int .i64 x14_1] rfl (by (try simp only [mT,mC,mN]);first|done|rfl|(simp only [lD,lT];rfl)) ?_;(with_reducible refine (impl_without.calls (fun k_=>k_<w.heap.size) _ _ l1 x14_1 t105 _ ?side1 A9.out).mono ?_);(case side1=>exact Kd.V_mk HC1.out (Kd.F_below (Kd.C_F k43_heap HR1.out) (by repeat (first|(with_reducible first|exact HB.out|apply bA|apply bN|apply bD)|exact HB.out))));rintro e w14 ⟨v106,rfl,ho0,hb⟩;refine ⟨_,rfl,?_⟩;have n0_:=mA (rB (by (with_reducible repeat (first|apply rA|apply rN|apply rD));exact HO_5.out) hb);have n1_:=mA (Kd.N_lower (Kd.N_mono (ok':=fun k_=>some k_≠(u5:Value).ownBlock) ho0 (fun k_ hk_=>Or.elim hk_ (fun hs_=>fun e_=>Nat.not_le.2 hs_ (Kd.R_base HO_5.out k_ e_.symm)) (fun hn_=>(Kd.fresh' (rL (by (with_reducible repeat (first|apply rA|apply rN|apply rD));exact HO_5.out)) k_ hn_)))) (bZ (by repeat (first|(with_reducible first|exact HB.out|apply bA|apply bN|apply bD)|exact HB.out))));have n2_:=mA (bT (by repeat (first|(with_reducible first|exact HB.out|apply bA|apply bN|apply bD)|exact HB.out)) hb);clear HO_5 HB;have HO_5:=n0_;have HO107:=n1_;have HB:=n2_;clear n0_ n1_ n2_;(try clear hb);(try clear hb2);(try clear hk);(try clear hi);(try clear ho0);obtain ⟨Ao15,co15,eo15⟩:=Kd.N_slice HO107.out;subst eo15)|((with_reducible refine gate_callee (f:=78) rfl ?_);refine goesL_ (some 21) rfl rfl Try.func78 (by kernel_rfl) rfl #[.int .i64 a0,.slice Ao15 t105.length co15] rfl (by (try simp only [mT,mC,mN]);first|done|rfl|(simp only [lD,lT];rfl)) ?_;(with_reducible refine (impl_storyTable.calls k1 a0 _ _ t105 t108 _ ?side1 ?side2 A10.out).mono ?_);(case side1=>repeat (first|exact (Kd.N_reads' HO107.out).2.2|(with_reducible refine cA ?_ _)|(with_reducible refine cN ?_ _)|(with_reducible refine cD ?_)));(case side2=>exact (Kd.N_reads' HO107.out).2.1);rintro e w16 ⟨rfl,hb⟩;refine ⟨_,rfl,?_⟩;have n0_:=mA (rB (by (with_reducible repeat (first|apply rA|apply rN|apply rD));exact HO_5.out) hb);have n1_:=mA (Kd.N_below (by (with_reducible repeat (first|apply nA|apply nN|apply nD));exact HO107.out) hb);have n2_:=mA (bT (by repeat (first|(with_reducible first|exact HB.out|apply bA|apply bN|apply bD)|exact HB.out)) hb);clear HO_5 HO107 HB;have HO_5:=n0_;have HO107:=n1_;have HB:=n2_;clear n0_ n1_ n2_;(try clear hb);(try clear hb2);(try clear hk);(try clear hi))|((with_reducible refine gate_callee (f:=78) rfl ?_);refine goesL_ (some 24) rfl rfl Try.func78 (by kernel_rfl) rfl #[.int .i64 a0,.slice A1 l1.length c1] rfl (by (try simp only [mT,mC,mN]);first|done|rfl|(simp only [lD,lT];rfl)) ?_;(with_reducible refine (impl_storyTable.calls k1 a0 _ _ l1 t109 _ ?side1 ?side2 A11.out).mono ?_);(case side1=>repeat (first|exact (Kd.C_below HR1.out HB.out)|(with_reducible refine cA ?_ _)|(with_reducible refine cN ?_ _)|(with_reducible refine cD ?_)));(case side2=>exact HC1.out);rintro e w17 ⟨rfl,hb⟩;refine ⟨_,rfl,?_⟩;have n0_:=mA (rB (by (with_reducible repeat (first|apply rA|apply rN|apply rD));exact HO_5.out) hb);have n1_:=mA (Kd.N_below (by (with_reducible repeat (first|apply nA|apply nN|apply nD));exact HO107.out) hb);have n2_:=mA (bT (by repeat (first|(with_reducible first|exact HB.out|apply bA|apply bN|apply bD)|exact HB.out)) hb);clear HO_5 HO107 HB;have HO_5:=n0_;have HO107:=n1_;have HB:=n2_;clear n0_ n1_ n2_;(try clear hb);(try clear hb2);(try clear hk);(try clear hi))|((with_reducible refine gate_builtin (b:=.append) (xs:=#[.tmp 26,.tmp 28]) rfl ?_);at_builtin;refine Kd.R_append (Kd.int .i64) (w0:=w) w.heap.size rfl (.tmp 26) (.tmp 28) 22 3 (.int .i64 0) 8 rfl Try.underlying22 info3 rfl (by decide) (by omega) u5 x5_1 x14_1 [.int .i64 x14_1] (fun _=>True) (fun _=>False) rfl rfl ?aP (fun _ hk=>hk.elim) ?aF ?aO ?aB ?aS ?aL ?_;(case aP=>exact rfl);(case aB=>exact (by repeat (first|(with_reducible first|exact HB.out|apply bA|apply bN|apply bD)|exact HB.out)));(case aF=>exact (fun _ _=>trivial));(case aO=>exact (by (with_reducible repeat (first|apply rA|apply rN|apply rD));exact HO_5.out));(case aS=>exact (bZ (by repeat (first|(with_reducible first|exact HB.out|apply bA|apply bN|apply bD)|exact HB.out))));(case aL=>have:=LMc13.out;omega);intro v111 w18 ho hb hg hat;rw [←Ny110.out] at ho;have n0_:=mA (Kd.N_afterv (ok:=(fun _=>True)) (by (with_reducible repeat (first|apply nA|apply nN|apply nD));exact Kd.N_mono HO107.out (fun _ hk=>⟨trivial,hk⟩)) hg hat);have n1_:=mA (hb);have n2_:=mA (ho);clear HO107 HB HO_5;have HO107:=n0_;have HB:=n1_;have HO112:=n2_;clear n0_ n1_ n2_ ho hb hg hat))
       go_roundg k1
       case measure=>have:=HK1.out;omega
       case rel=>exact ⟨(y110),(wrap64 (x14_1+1)),(by first|rfl|(simp;done)|(simp [*];done)),H',⟨by have:=HK1.out;omega⟩,⟨by (with_reducible repeat (first|apply rA|apply rN|apply rD));exact HO112.out⟩,⟨by repeat (first|(with_reducible first|exact HB.out|apply bA|apply bN|apply bD)|exact HB.out)⟩⟩
      ·rw [if_neg c13] at H
       exact absurd H (by simp)
     ·rw [if_neg c12] at H
      have c12b0:(t108==t109)=false:=beq_eq_false_iff_ne.mpr c12
      have c12b1:(t108 != t109)=true:=bne_iff_ne.mpr c12
      have H':=mA H
      clear H
      go_wp2_with (first|((with_reducible refine gate_callee (f:=77) rfl ?_);refine goesL_ (some 20) rfl rfl Try.func77 (by kernel_rfl) rfl #[.slice A1 l1.length c1,.int .i64 x14_1] rfl (by (try simp only [mT,mC,mN]);first|done|rfl|(simp only [lD,lT];rfl)) ?_;(with_reducible refine (impl_without.calls (fun k_=>k_<w.heap.size) _ _ l1 x14_1 t105 _ ?side1 A9.out).mono ?_);(case side1=>exact Kd.V_mk HC1.out (Kd.F_below (Kd.C_F k43_heap HR1.out) (by repeat (first|(with_reducible first|exact HB.out|apply bA|apply bN|apply bD)|exact HB.out))));rintro e w19 ⟨v106,rfl,ho0,hb⟩;refine ⟨_,rfl,?_⟩;have n0_:=mA (rB (by (with_reducible repeat (first|apply rA|apply rN|apply rD));exact HO_5.out) hb);have n1_:=mA (Kd.N_lower (Kd.N_mono (ok':=fun k_=>some k_≠(u5:Value).ownBlock) ho0 (fun k_ hk_=>Or.elim hk_ (fun hs_=>fun e_=>Nat.not_le.2 hs_ (Kd.R_base HO_5.out k_ e_.symm)) (fun hn_=>(Kd.fresh' (rL (by (with_reducible repeat (first|apply rA|apply rN|apply rD));exact HO_5.out)) k_ hn_)))) (bZ (by repeat (first|(with_reducible first|exact HB.out|apply bA|apply bN|apply bD)|exact HB.out))));have n2_:=mA (bT (by repeat (first|(with_reducible first|exact HB.out|apply bA|apply bN|apply bD)|exact HB.out)) hb);clear HO_5 HB;have HO_5:=n0_;have HO107:=n1_;have HB:=n2_;clear n0_ n1_ n2_;(try clear hb);(try clear hb2);(try clear hk);(try clear hi);(try clear ho0);obtain ⟨Ao20,co20,eo20⟩:=Kd.N_slice HO107.out;subst eo20)|((with_reducible refine gate_callee (f:=78) rfl ?_);refine goesL_ (some 21) rfl rfl Try.func78 (by kernel_rfl) rfl #[.int .i64 a0,.slice Ao20 t105.length co20] rfl (by (try simp only [mT,mC,mN]);first|done|rfl|(simp only [lD,lT];rfl)) ?_;(with_reducible refine (impl_storyTable.calls k1 a0 _ _ t105 t108 _ ?side1 ?side2 A10.out).mono ?_);(case side1=>repeat (first|exact (Kd.N_reads' HO107.out).2.2|(with_reducible refine cA ?_ _)|(with_reducible refine cN ?_ _)|(with_reducible refine cD ?_)));(case side2=>exact (Kd.N_reads' HO107.out).2.1);rintro e w21 ⟨rfl,hb⟩;refine ⟨_,rfl,?_⟩;have n0_:=mA (rB (by (with_reducible repeat (first|apply rA|apply rN|apply rD));exact HO_5.out) hb);have n1_:=mA (Kd.N_below (by (with_reducible repeat (first|apply nA|apply nN|apply nD));exact HO107.out) hb);have n2_:=mA (bT (by repeat (first|(with_reducible first|exact HB.out|apply bA|apply bN|apply bD)|exact HB.out)) hb);clear HO_5 HO107 HB;have HO_5:=n0_;have HO107:=n1_;have HB:=n2_;clear n0_ n1_ n2_;(try clear hb);(try clear hb2);(try clear hk);(try clear hi))|((with_reducible refine gate_callee (f:=78) rfl ?_);refine goesL_ (some 24) rfl rfl Try.func78 (by kernel_rfl) rfl #[.int .i64 a0,.slice A1 l1.length c1] rfl (by (try simp only [mT,mC,mN]);first|done|rfl|(simp only [lD,lT];rfl)) ?_;(with_reducible refine (impl_storyTable.calls k1 a0 _ _ l1 t109 _ ?side1 ?side2 A11.out).mono ?_);(case side1=>repeat (first|exact (Kd.C_below HR1.out HB.out)|(with_reducible refine cA ?_ _)|(with_reducible refine cN ?_ _)|(with_reducible refine cD ?_)));(case side2=>exact HC1.out);rintro e w22 ⟨rfl,hb⟩;refine ⟨_,rfl,?_⟩;have n0_:=mA (rB (by (with_reducible repeat (first|apply rA|apply rN|apply rD));exact HO_5.out) hb);have n1_:=mA (Kd.N_below (by (with_reducible repeat (first|apply nA|apply nN|apply nD));exact HO107.out) hb);have n2_:=mA (bT (by repeat (first|(with_reducible first|exact HB.out|apply bA|apply bN|apply bD)|exact HB.out)) hb);clear HO_5 HO107 HB;have HO_5:=n0_;have HO107:=n1_;have HB:=n2_;clear n0_ n1_ n2_;(try clear hb);(try clear hb2);(try clear hk);(try clear hi)))
      go_roundg k1
      case measure=>have:=HK1.out;omega
      case rel=>exact ⟨(x5_1),(wrap64 (x14_1+1)),(by first|rfl|(simp;done)|(simp [*];done)),H',⟨by have:=HK1.out;omega⟩,⟨by (with_reducible repeat (first|apply rA|apply rN|apply rD));exact HO_5.out⟩,⟨by repeat (first|(with_reducible first|exact HB.out|apply bA|apply bN|apply bD)|exact HB.out)⟩⟩
    ·rw [if_neg c8] at H
     have c8b0:decide (x14_1<(l1.length:Int))=false:=decide_eq_false c8
     clear c8
     obtain rfl:=Option.some.inj H
     go_wp2
     go_ret
     exact ⟨_,by first|rfl|(simp [errW_none,errW_some]<;>rfl)|(simp [*, errW_none,errW_some]<;>rfl),by (with_reducible repeat (first|apply rA|apply rN|apply rD));exact HO_5.out,by repeat (first|(with_reducible first|exact HB.out|apply bA|apply bN|apply bD)|exact HB.out)⟩
 ·replace c4:=Bool.eq_false_iff.mpr c4
  subst c4
  have H1:(some ([]:List Int))=some r:=by rw [if_neg (show ¬ (false=true) by decide)] at H;exact H
  clear H
  have H:=H1
  clear H1
  obtain rfl:=Option.some.inj H
  go_enter Try.func44,Try.ntmps44
  go_wp2_with (first|((with_reducible refine gate_callee (f:=42) rfl ?_);refine goesL_ (some 9) rfl rfl Try.func42 (by kernel_rfl) rfl #[.int .i64 a0,.slice A1 l1.length c1] rfl (by (try simp only [mT,mC,mN]);first|done|rfl|(simp only [lD,lT];rfl)) ?_;(with_reducible refine (impl_StoryOk.calls k a0 _ _ l1 false _ ?side1 ?side2 A3.out).mono ?_);(case side1=>repeat (first|exact HR1.out|(with_reducible refine cA ?_ _)|(with_reducible refine cN ?_ _)|(with_reducible refine cD ?_)));(case side2=>exact HC1.out);rintro e w23 ⟨rfl,hb⟩;refine ⟨_,rfl,?_⟩;have n0_:=mA (bT (by repeat (first|(with_reducible first|exact HB.out|apply bA|apply bN|apply bD)|exact HB.out)) hb);clear HB;have HB:=n0_;clear n0_;(try clear hb);(try clear hb2);(try clear hk);(try clear hi)))
  go_ret
  exact ⟨_,by first|rfl|(simp [errW_none,errW_some]<;>rfl)|(simp [*, errW_none,errW_some]<;>rfl),by first|exact Kd.R_nil _ _ _ _ _|exact Kd.N_nil _ _ _ _ _|exact Kd.V_nil _ _ _ _ _|exact Kd.Q_nil _ _ _ _ _|exact Kd.S_nil _ _ _ _ _,by repeat (first|(with_reducible first|exact HB.out|apply bA|apply bN|apply bD)|exact HB.out)⟩
/-! ### laws_FnLeastStory: function 9 -/
def laws_FnLeastStory.j0:Nat→Int→List (S43)→List (S43)→Bool→Bool→Option (Bool)
 | 0,_,_,_,_,_=>none
 | k+1,x3,x4,x5,x6,x39=>if x39=true then (some false) else (if x6=true then ((impl_LeastStory.f k x3 x5).bind fun bt116=>((impl_StoryTable.f k x3 x5).bind fun t120=>((impl_StoryTable.f k x3 x4).bind fun t121=>(if t120=t121 then ((impl_NeedlessClaims.f k x3 x5).bind fun t122=>(if (t122.length:Int)=0 then (if bt116.2=true then ((laws_sameStory.f k bt116.1 x5).bind fun t125=>(if t125=true then ((impl_StoryTable.f k x3 x5).bind fun t126=>(some (decide (t126≥0)))) else (some false))) else (some false)) else (some false))) else (some false))))) else (if (x5.length:Int)=0 then ((impl_StoryOk.f k x3 x4).bind fun t114=>(if t114=true then (some false) else ((laws_alive.f).bind fun t115=>(some t115)))) else (some false)))
def laws_FnLeastStory.f (k:Nat) (l0:List Int):Option (Bool):=if (l0.length:Int)>1048576 then (some true) else ((spec_DrawLeastStory.f k l0).bind fun bt101=>((impl_LeastStory.f k bt101.1 bt101.2).bind fun bt105=>((spec_LeastStory.f k bt101.1 bt101.2).bind fun bt109=>((laws_sameStory.f k bt105.1 bt109.1).bind fun t113=>(if t113=true then (laws_FnLeastStory.j0 k bt101.1 bt101.2 bt105.1 bt105.2 (bt105.2 != bt109.2)) else (laws_FnLeastStory.j0 k bt101.1 bt101.2 bt105.1 bt105.2 true))))))
theorem laws_FnLeastStory.mono_l : ∀ k,(∀ y0 y1 y2 y3 y4,LeO (laws_FnLeastStory.j0 k y0 y1 y2 y3 y4) (laws_FnLeastStory.j0 (k+1) y0 y1 y2 y3 y4))
 | 0=>fun _ _ _ _ _ r h=>by simp [laws_FnLeastStory.j0] at h
 | k+1=>by
  have ih0:=laws_FnLeastStory.mono_l k
  ·intro y0 y1 y2 y3 y4
   unfold laws_FnLeastStory.j0
   repeat' first
   | (with_reducible exact ih0 _ _ _ _ _)
   | (with_reducible exact impl_LeastStory.mono _ _ _)
   | (with_reducible exact impl_NeedlessClaims.mono _ _ _)
   | (with_reducible exact impl_StoryOk.mono _ _ _)
   | (with_reducible exact impl_StoryTable.mono _ _ _)
   | (with_reducible exact laws_sameStory.mono _ _ _)
   | (with_reducible exact spec_DrawLeastStory.mono _ _)
   | (with_reducible exact spec_LeastStory.mono _ _ _)
   | (with_reducible exact LeO.refl _)
   | (with_reducible exact LeO.none _)
   | (with_reducible refine LeO.ite ?_ ?_)
   | (with_reducible refine LeO.bind ?_ (fun _=>?_))
   | exact ih0 _ _ _ _ _
   | exact impl_LeastStory.mono _ _ _
   | exact impl_NeedlessClaims.mono _ _ _
   | exact impl_StoryOk.mono _ _ _
   | exact impl_StoryTable.mono _ _ _
   | exact laws_sameStory.mono _ _ _
   | exact spec_DrawLeastStory.mono _ _
   | exact spec_LeastStory.mono _ _ _
   | exact LeO.none _
   | refine LeO.ite ?_ ?_
   | refine LeO.bind ?_ (fun _=>?_)
theorem laws_FnLeastStory.mono : ∀ a0 k,LeO (laws_FnLeastStory.f k a0) (laws_FnLeastStory.f (k+1) a0):=by
 intro a0 k
 have ih0:=laws_FnLeastStory.mono_l k
 unfold laws_FnLeastStory.f
 repeat' first
   | (with_reducible exact ih0 _ _ _ _ _)
   | (with_reducible exact impl_LeastStory.mono _ _ _)
   | (with_reducible exact impl_NeedlessClaims.mono _ _ _)
   | (with_reducible exact impl_StoryOk.mono _ _ _)
   | (with_reducible exact impl_StoryTable.mono _ _ _)
   | (with_reducible exact laws_sameStory.mono _ _ _)
   | (with_reducible exact spec_DrawLeastStory.mono _ _)
   | (with_reducible exact spec_LeastStory.mono _ _ _)
   | (with_reducible exact LeO.refl _)
   | (with_reducible exact LeO.none _)
   | (with_reducible refine LeO.ite ?_ ?_)
   | (with_reducible refine LeO.bind ?_ (fun _=>?_))
   | exact ih0 _ _ _ _ _
   | exact impl_LeastStory.mono _ _ _
   | exact impl_NeedlessClaims.mono _ _ _
   | exact impl_StoryOk.mono _ _ _
   | exact impl_StoryTable.mono _ _ _
   | exact laws_sameStory.mono _ _ _
   | exact spec_DrawLeastStory.mono _ _
   | exact spec_LeastStory.mono _ _ _
   | exact LeO.none _
   | refine LeO.ite ?_ ?_
   | refine LeO.bind ?_ (fun _=>?_)
set_option maxHeartbeats 8000000 in
set_option maxRecDepth 100000 in
theorem laws_FnLeastStory.calls (k:Nat) (A0:Option Addr) (c0:Nat) (l0:List Int) (r:Bool) (w:World) (hr0:Kd.C (Kd.int .u8) w A0 l0.length l0) (hc0:l0.length≤c0) (hr_:Aside0 (r=true)) (h:laws_FnLeastStory.f k l0=some r) :
  Calls Try.prog 9 #[.slice A0 l0.length c0] w fun e w'=>e = .returned (.bool r)∧Below w.heap.size w w':=by
 have HR0:=mA hr0
 have HC0:=mA hc0
 clear hr0 hc0
 have HB:=mA (Below.refl w.heap.size w)
 have H:(if (l0.length:Int)>1048576 then (some true) else ((spec_DrawLeastStory.f k l0).bind fun bt101=>((impl_LeastStory.f k bt101.1 bt101.2).bind fun bt105=>((spec_LeastStory.f k bt101.1 bt101.2).bind fun bt109=>((laws_sameStory.f k bt105.1 bt109.1).bind fun t113=>(if t113=true then (laws_FnLeastStory.j0 k bt101.1 bt101.2 bt105.1 bt105.2 (bt105.2 != bt109.2)) else (laws_FnLeastStory.j0 k bt101.1 bt101.2 bt105.1 bt105.2 true)))))))=some r:=h
 clear h
 by_cases c2:(l0.length:Int)>1048576
 ·rw [if_pos c2] at H
  have c2b0:decide (1048576<(l0.length:Int))=true:=decide_eq_true c2
  have c2b1:decide (1048576<l0.length)=true:=decide_eq_true (by omega)
  clear c2
  obtain rfl:=Option.some.inj H
  go_enter Try.func9,Try.ntmps9
  go_wp2
  go_ret
  exact ⟨by first|rfl|(simp [errW_none,errW_some]<;>rfl)|(simp [*, errW_none,errW_some]<;>rfl),by repeat (first|(with_reducible first|exact HB.out|apply bA|apply bN|apply bD)|exact HB.out)⟩
 ·rw [if_neg c2] at H
  have c2b0:decide (1048576<(l0.length:Int))=false:=decide_eq_false c2
  have c2b1:decide (1048576<l0.length)=false:=decide_eq_false (by omega)
  clear c2
  replace H:=Option.bind_eq_some_iff.mp H
  obtain ⟨⟨t101,t102⟩,A30,H⟩:=H
  replace H:((impl_LeastStory.f k t101 t102).bind fun bt105=>((spec_LeastStory.f k t101 t102).bind fun bt109=>((laws_sameStory.f k bt105.1 bt109.1).bind fun t113=>(if t113=true then (laws_FnLeastStory.j0 k t101 t102 bt105.1 bt105.2 (bt105.2 != bt109.2)) else (laws_FnLeastStory.j0 k t101 t102 bt105.1 bt105.2 true)))))=some r:=H
  have A3:=mA A30
  clear A30
  replace H:=Option.bind_eq_some_iff.mp H
  obtain ⟨⟨t105,t108⟩,A40,H⟩:=H
  replace H:((spec_LeastStory.f k t101 t102).bind fun bt109=>((laws_sameStory.f k t105 bt109.1).bind fun t113=>(if t113=true then (laws_FnLeastStory.j0 k t101 t102 t105 t108 (t108 != bt109.2)) else (laws_FnLeastStory.j0 k t101 t102 t105 t108 true))))=some r:=H
  have A4:=mA A40
  clear A40
  replace H:=Option.bind_eq_some_iff.mp H
  obtain ⟨⟨t109,t112⟩,A50,H⟩:=H
  replace H:((laws_sameStory.f k t105 t109).bind fun t113=>(if t113=true then (laws_FnLeastStory.j0 k t101 t102 t105 t108 (t108 != t112)) else (laws_FnLeastStory.j0 k t101 t102 t105 t108 true)))=some r:=H
  have A5:=mA A50
  clear A50
  have HC6:=mA H
  clear H
  go_enter Try.func9,Try.ntmps9
  go_upto_region 6 with (first|((with_reducible refine gate_callee (f:=38) rfl ?_);refine goesL_ (some 16) rfl rfl Try.func38 (by kernel_rfl) rfl #[.slice A0 l0.length c0] rfl (by (try simp only [mT,mC,mN]);first|done|rfl|(simp only [lD,lT];rfl)) ?_;(with_reducible refine (spec_DrawLeastStory.calls k _ _ l0 t101 t102 _ ?side1 ?side2 A3.out).mono ?_);(case side1=>repeat (first|exact HR0.out|(with_reducible refine cA ?_ _)|(with_reducible refine cN ?_ _)|(with_reducible refine cD ?_)));(case side2=>exact HC0.out);rintro e w7 ⟨v103,rfl,ho0,hb⟩;refine ⟨_,rfl,?_⟩;have n0_:=mA (Kd.N_lower (Kd.N_mono (ok':=fun k_=>True) (Kd.S_N (Kd.S_bound ho0)) (fun k_ hk_=>trivial)) (bZ (by repeat (first|(with_reducible first|exact HB.out|apply bA|apply bN|apply bD)|exact HB.out))));have n1_:=mA (bT (by repeat (first|(with_reducible first|exact HB.out|apply bA|apply bN|apply bD)|exact HB.out)) hb);clear HB;have HO104:=n0_;have HB:=n1_;clear n0_ n1_;(try clear hb);(try clear hb2);(try clear hk);(try clear hi);(try clear ho0);obtain ⟨Ao8,co8,eo8⟩:=Kd.N_slice HO104.out;subst eo8)|((with_reducible refine gate_callee (f:=39) rfl ?_);refine goesL_ (some 22) rfl rfl Try.func39 (by kernel_rfl) rfl #[.int .i64 t101,.slice Ao8 t102.length co8] rfl (by (try simp only [mT,mC,mN]);first|done|rfl|(simp only [lD,lT];rfl)) ?_;(with_reducible refine (impl_LeastStory.calls k t101 _ _ t102 t105 t108 _ ?side1 ?side2 A4.out).mono ?_);(case side1=>repeat (first|exact (Kd.N_reads' HO104.out).2.2|(with_reducible refine cA ?_ _)|(with_reducible refine cN ?_ _)|(with_reducible refine cD ?_)));(case side2=>exact (Kd.N_reads' HO104.out).2.1);rintro e w9 ⟨v106,rfl,ho0,hb⟩;refine ⟨_,rfl,?_⟩;have n0_:=mA (Kd.N_elder' (by (with_reducible repeat (first|apply nA|apply nN|apply nD));exact HO104.out) (Kd.N_base ho0) hb);have n1_:=mA (Kd.N_lower (Kd.N_mono (ok':=fun k_=>some k_≠(.slice Ao8 t102.length co8:Value).ownBlock) ho0 (fun k_ hk_=>(Kd.fresh' (Kd.N_lt (by (with_reducible repeat (first|apply nA|apply nN|apply nD));exact HO104.out)) k_ hk_))) (bZ (by repeat (first|(with_reducible first|exact HB.out|apply bA|apply bN|apply bD)|exact HB.out))));have n2_:=mA (bT (by repeat (first|(with_reducible first|exact HB.out|apply bA|apply bN|apply bD)|exact HB.out)) hb);clear HO104 HB;have HO104:=n0_;have HO107:=n1_;have HB:=n2_;clear n0_ n1_ n2_;(try clear hb);(try clear hb2);(try clear hk);(try clear hi);(try clear ho0))|((with_reducible refine gate_callee (f:=40) rfl ?_);refine goesL_ (some 28) rfl rfl Try.func40 (by kernel_rfl) rfl #[.int .i64 t101,.slice Ao8 t102.length co8] rfl (by (try simp only [mT,mC,mN]);first|done|rfl|(simp only [lD,lT];rfl)) ?_;(with_reducible refine (spec_LeastStory.calls k t101 _ _ t102 t109 t112 _ ?side1 ?side2 A5.out).mono ?_);(case side1=>repeat (first|exact (Kd.N_reads' HO104.out).2.2|(with_reducible refine cA ?_ _)|(with_reducible refine cN ?_ _)|(with_reducible refine cD ?_)));(case side2=>exact (Kd.N_reads' HO104.out).2.1);rintro e w10 ⟨v110,rfl,ho0,hb⟩;refine ⟨_,rfl,?_⟩;have n0_:=mA (Kd.N_elder' (by (with_reducible repeat (first|apply nA|apply nN|apply nD));exact HO104.out) (Kd.N_base ho0) hb);have n1_:=mA (Kd.N_elder' (by (with_reducible repeat (first|apply nA|apply nN|apply nD));exact HO107.out) (Kd.N_base ho0) hb);have n2_:=mA (Kd.N_lower (Kd.N_mono (ok':=fun k_=>some k_≠(.slice Ao8 t102.length co8:Value).ownBlock∧some k_≠(v106:Value).ownBlock) ho0 (fun k_ hk_=>⟨(Kd.fresh' (Kd.N_lt (by (with_reducible repeat (first|apply nA|apply nN|apply nD));exact HO104.out)) k_ hk_),(Kd.fresh' (Kd.N_lt (by (with_reducible repeat (first|apply nA|apply nN|apply nD));exact HO107.out)) k_ hk_)⟩)) (bZ (by repeat (first|(with_reducible first|exact HB.out|apply bA|apply bN|apply bD)|exact HB.out))));have n3_:=mA (bT (by repeat (first|(with_reducible first|exact HB.out|apply bA|apply bN|apply bD)|exact HB.out)) hb);clear HO104 HO107 HB;have HO104:=n0_;have HO107:=n1_;have HO111:=n2_;have HB:=n3_;clear n0_ n1_ n2_ n3_;(try clear hb);(try clear hb2);(try clear hk);(try clear hi);(try clear ho0)))
  (try simp only [Act.put,sA,sZ,sS])
  go_cut [39] (fun v39 wc=>∃ (kq:Nat) (x39_5:Bool),v39 = .bool x39_5∧Aside0 (laws_FnLeastStory.j0 kq t101 t102 t105 t108 x39_5=some r)∧Aside0 (kq≤k)∧Aside0 (Kd.N k43 43 wc w.heap.size (fun k_=>some k_≠(v106:Value).ownBlock) (.slice Ao8 t102.length co8) t102)∧Aside0 (Kd.N k43 43 wc w.heap.size (fun k_=>some k_≠((.slice Ao8 t102.length co8):Value).ownBlock) v106 t105)∧Aside0 (Below w.heap.size w wc))
  case first =>
   have H:=HC6.out
   clear HC6
   replace H:=Option.bind_eq_some_iff.mp H
   obtain ⟨t113,A110,H⟩:=H
   replace H:(if t113=true then (laws_FnLeastStory.j0 k t101 t102 t105 t108 (t108 != t112)) else (laws_FnLeastStory.j0 k t101 t102 t105 t108 true))=some r:=H
   have A11:=mA A110
   clear A110
   by_cases c12:t113=true
   ·subst c12
    have H1:(laws_FnLeastStory.j0 k t101 t102 t105 t108 (t108 != t112))=some r:=by rw [if_pos rfl] at H;exact H
    clear H
    have H:=H1
    clear H1
    have H':=mA H
    clear H
    obtain ⟨Ao13,co13,eo13⟩:=Kd.N_slice HO107.out
    subst eo13
    obtain ⟨Ao14,co14,eo14⟩:=Kd.N_slice HO111.out
    subst eo14
    go_wp2_with (first|((with_reducible refine gate_callee (f:=41) rfl ?_);refine goesL_ (some 33) rfl rfl Try.func41 (by kernel_rfl) rfl #[.slice Ao13 t105.length co13,.slice Ao14 t109.length co14] rfl (by (try simp only [mT,mC,mN]);first|done|rfl|(simp only [lD,lT];rfl)) ?_;(with_reducible refine (laws_sameStory.calls k _ _ t105 _ _ t109 true _ ?side1 ?side2 ?side3 ?side4 A11.out).mono ?_);(case side1=>repeat (first|exact (Kd.N_reads' HO107.out).2.2|(with_reducible refine cA ?_ _)|(with_reducible refine cN ?_ _)|(with_reducible refine cD ?_)));(case side2=>exact (Kd.N_reads' HO107.out).2.1);(case side3=>repeat (first|exact (Kd.N_reads' HO111.out).2.2|(with_reducible refine cA ?_ _)|(with_reducible refine cN ?_ _)|(with_reducible refine cD ?_)));(case side4=>exact (Kd.N_reads' HO111.out).2.1);rintro e w15 ⟨rfl,hb⟩;refine ⟨_,rfl,?_⟩;have n0_:=mA (Kd.N_below (by (with_reducible repeat (first|apply nA|apply nN|apply nD));exact HO104.out) hb);have n1_:=mA (Kd.N_below (by (with_reducible repeat (first|apply nA|apply nN|apply nD));exact HO107.out) hb);have n2_:=mA (Kd.N_below (by (with_reducible repeat (first|apply nA|apply nN|apply nD));exact HO111.out) hb);have n3_:=mA (bT (by repeat (first|(with_reducible first|exact HB.out|apply bA|apply bN|apply bD)|exact HB.out)) hb);clear HO104 HO107 HO111 HB;have HO104:=n0_;have HO107:=n1_;have HO111:=n2_;have HB:=n3_;clear n0_ n1_ n2_ n3_;(try clear hb);(try clear hb2);(try clear hk);(try clear hi)))
    go_meet
    case rel=>exact ⟨_,((t108 != t112)),(by first|rfl|(simp;done)|(simp [*];done)),H',⟨by first|omega|exact Nat.le_refl _⟩,⟨by (with_reducible repeat (first|apply nA|apply nN|apply nD));exact Kd.N_mono HO104.out (fun _ hk=>hk.1.2)⟩,⟨by (with_reducible repeat (first|apply nA|apply nN|apply nD));exact Kd.N_mono HO107.out (fun _ hk=>hk.1)⟩,⟨by repeat (first|(with_reducible first|exact HB.out|apply bA|apply bN|apply bD)|exact HB.out)⟩⟩
   ·replace c12:=Bool.eq_false_iff.mpr c12
    subst c12
    have H1:(laws_FnLeastStory.j0 k t101 t102 t105 t108 true)=some r:=by rw [if_neg (show ¬ (false=true) by decide)] at H;exact H
    clear H
    have H:=H1
    clear H1
    have H':=mA H
    clear H
    obtain ⟨Ao16,co16,eo16⟩:=Kd.N_slice HO107.out
    subst eo16
    obtain ⟨Ao17,co17,eo17⟩:=Kd.N_slice HO111.out
    subst eo17
    go_wp2_with (first|((with_reducible refine gate_callee (f:=41) rfl ?_);refine goesL_ (some 33) rfl rfl Try.func41 (by kernel_rfl) rfl #[.slice Ao16 t105.length co16,.slice Ao17 t109.length co17] rfl (by (try simp only [mT,mC,mN]);first|done|rfl|(simp only [lD,lT];rfl)) ?_;(with_reducible refine (laws_sameStory.calls k _ _ t105 _ _ t109 false _ ?side1 ?side2 ?side3 ?side4 A11.out).mono ?_);(case side1=>repeat (first|exact (Kd.N_reads' HO107.out).2.2|(with_reducible refine cA ?_ _)|(with_reducible refine cN ?_ _)|(with_reducible refine cD ?_)));(case side2=>exact (Kd.N_reads' HO107.out).2.1);(case side3=>repeat (first|exact (Kd.N_reads' HO111.out).2.2|(with_reducible refine cA ?_ _)|(with_reducible refine cN ?_ _)|(with_reducible refine cD ?_)));(case side4=>exact (Kd.N_reads' HO111.out).2.1);rintro e w18 ⟨rfl,hb⟩;refine ⟨_,rfl,?_⟩;have n0_:=mA (Kd.N_below (by (with_reducible repeat (first|apply nA|apply nN|apply nD));exact HO104.out) hb);have n1_:=mA (Kd.N_below (by (with_reducible repeat (first|apply nA|apply nN|apply nD));exact HO107.out) hb);have n2_:=mA (Kd.N_below (by (with_reducible repeat (first|apply nA|apply nN|apply nD));exact HO111.out) hb);have n3_:=mA (bT (by repeat (first|(with_reducible first|exact HB.out|apply bA|apply bN|apply bD)|exact HB.out)) hb);clear HO104 HO107 HO111 HB;have HO104:=n0_;have HO107:=n1_;have HO111:=n2_;have HB:=n3_;clear n0_ n1_ n2_ n3_;(try clear hb);(try clear hb2);(try clear hk);(try clear hi)))
    go_meet
    case rel=>exact ⟨_,(true),(by first|rfl|(simp;done)|(simp [*];done)),H',⟨by first|omega|exact Nat.le_refl _⟩,⟨by (with_reducible repeat (first|apply nA|apply nN|apply nD));exact Kd.N_mono HO104.out (fun _ hk=>hk.1.2)⟩,⟨by (with_reducible repeat (first|apply nA|apply nN|apply nD));exact Kd.N_mono HO107.out (fun _ hk=>hk.1)⟩,⟨by repeat (first|(with_reducible first|exact HB.out|apply bA|apply bN|apply bD)|exact HB.out)⟩⟩
  case rest =>
   clear HC6
   try clear c1
   try clear c2
   try clear c2b0
   try clear c2b1
   try clear p2
   try clear c3
   try clear c4
   try clear c9
   try clear c12
   obtain ⟨kq,x39_5,rfl,HA,HJ5,HO_4,HO_5,HB⟩:=hcut
   cases kq with
   | zero=>exact absurd HA.out (by simp [laws_FnLeastStory.j0])
   | succ kj5 =>
    have H:=HA.out
    clear HA
    simp only [laws_FnLeastStory.j0] at H
    by_cases c19:x39_5=true
    ·subst c19
     have H1:(some false)=some r:=by rw [if_pos rfl] at H;exact H
     clear H
     have H:=H1
     clear H1
     exact absurd ((Option.some.inj H).trans hr_.out) (by decide)
    ·replace c19:=Bool.eq_false_iff.mpr c19
     subst c19
     have H1:(if t108=true then ((impl_LeastStory.f kj5 t101 t105).bind fun bt116=>((impl_StoryTable.f kj5 t101 t105).bind fun t120=>((impl_StoryTable.f kj5 t101 t102).bind fun t121=>(if t120=t121 then ((impl_NeedlessClaims.f kj5 t101 t105).bind fun t122=>(if (t122.length:Int)=0 then (if bt116.2=true then ((laws_sameStory.f kj5 bt116.1 t105).bind fun t125=>(if t125=true then ((impl_StoryTable.f kj5 t101 t105).bind fun t126=>(some (decide (t126≥0)))) else (some false))) else (some false)) else (some false))) else (some false))))) else (if (t105.length:Int)=0 then ((impl_StoryOk.f kj5 t101 t102).bind fun t114=>(if t114=true then (some false) else ((laws_alive.f).bind fun t115=>(some t115)))) else (some false)))=some r:=by rw [if_neg (show ¬ (false=true) by decide)] at H;exact H
     clear H
     have H:=H1
     clear H1
     by_cases c20:t108=true
     ·subst c20
      have H1:((impl_LeastStory.f kj5 t101 t105).bind fun bt116=>((impl_StoryTable.f kj5 t101 t105).bind fun t120=>((impl_StoryTable.f kj5 t101 t102).bind fun t121=>(if t120=t121 then ((impl_NeedlessClaims.f kj5 t101 t105).bind fun t122=>(if (t122.length:Int)=0 then (if bt116.2=true then ((laws_sameStory.f kj5 bt116.1 t105).bind fun t125=>(if t125=true then ((impl_StoryTable.f kj5 t101 t105).bind fun t126=>(some (decide (t126≥0)))) else (some false))) else (some false)) else (some false))) else (some false)))))=some r:=by rw [if_pos rfl] at H;exact H
      clear H
      have H:=H1
      clear H1
      replace H:=Option.bind_eq_some_iff.mp H
      obtain ⟨⟨t116,t119⟩,A210,H⟩:=H
      replace H:((impl_StoryTable.f kj5 t101 t105).bind fun t120=>((impl_StoryTable.f kj5 t101 t102).bind fun t121=>(if t120=t121 then ((impl_NeedlessClaims.f kj5 t101 t105).bind fun t122=>(if (t122.length:Int)=0 then (if t119=true then ((laws_sameStory.f kj5 t116 t105).bind fun t125=>(if t125=true then ((impl_StoryTable.f kj5 t101 t105).bind fun t126=>(some (decide (t126≥0)))) else (some false))) else (some false)) else (some false))) else (some false))))=some r:=H
      have A21:=mA A210
      clear A210
      replace H:=Option.bind_eq_some_iff.mp H
      obtain ⟨t120,A220,H⟩:=H
      replace H:((impl_StoryTable.f kj5 t101 t102).bind fun t121=>(if t120=t121 then ((impl_NeedlessClaims.f kj5 t101 t105).bind fun t122=>(if (t122.length:Int)=0 then (if t119=true then ((laws_sameStory.f kj5 t116 t105).bind fun t125=>(if t125=true then ((impl_StoryTable.f kj5 t101 t105).bind fun t126=>(some (decide (t126≥0)))) else (some false))) else (some false)) else (some false))) else (some false)))=some r:=H
      have A22:=mA A220
      clear A220
      replace H:=Option.bind_eq_some_iff.mp H
      obtain ⟨t121,A230,H⟩:=H
      replace H:(if t120=t121 then ((impl_NeedlessClaims.f kj5 t101 t105).bind fun t122=>(if (t122.length:Int)=0 then (if t119=true then ((laws_sameStory.f kj5 t116 t105).bind fun t125=>(if t125=true then ((impl_StoryTable.f kj5 t101 t105).bind fun t126=>(some (decide (t126≥0)))) else (some false))) else (some false)) else (some false))) else (some false))=some r:=H
      have A23:=mA A230
      clear A230
      by_cases c24:t120=t121
      ·rw [if_pos c24] at H
       have c24b0:(t120==t121)=true:=beq_iff_eq.mpr c24
       have c24b1:(t120 != t121)=false:=bne_eq_false_iff_eq.mpr c24
       clear c24
       replace H:=Option.bind_eq_some_iff.mp H
       obtain ⟨t122,A250,H⟩:=H
       replace H:(if (t122.length:Int)=0 then (if t119=true then ((laws_sameStory.f kj5 t116 t105).bind fun t125=>(if t125=true then ((impl_StoryTable.f kj5 t101 t105).bind fun t126=>(some (decide (t126≥0)))) else (some false))) else (some false)) else (some false))=some r:=H
       have A25:=mA A250
       clear A250
       by_cases c26:(t122.length:Int)=0
       ·rw [if_pos c26] at H
        have c26b0:((t122.length:Int)==0)=true:=beq_iff_eq.mpr c26
        have c26b1:((t122.length:Int) != 0)=false:=bne_eq_false_iff_eq.mpr c26
        clear c26
        by_cases c27:t119=true
        ·subst c27
         have H1:((laws_sameStory.f kj5 t116 t105).bind fun t125=>(if t125=true then ((impl_StoryTable.f kj5 t101 t105).bind fun t126=>(some (decide (t126≥0)))) else (some false)))=some r:=by rw [if_pos rfl] at H;exact H
         clear H
         have H:=H1
         clear H1
         replace H:=Option.bind_eq_some_iff.mp H
         obtain ⟨t125,A280,H⟩:=H
         replace H:(if t125=true then ((impl_StoryTable.f kj5 t101 t105).bind fun t126=>(some (decide (t126≥0)))) else (some false))=some r:=H
         have A28:=mA A280
         clear A280
         by_cases c29:t125=true
         ·subst c29
          have H1:((impl_StoryTable.f kj5 t101 t105).bind fun t126=>(some (decide (t126≥0))))=some r:=by rw [if_pos rfl] at H;exact H
          clear H
          have H:=H1
          clear H1
          replace H:=Option.bind_eq_some_iff.mp H
          obtain ⟨t126,A300,H⟩:=H
          replace H:(some (decide (t126≥0)))=some r:=H
          have A30:=mA A300
          clear A300
          obtain rfl:=Option.some.inj H
          obtain ⟨Ao31,co31,eo31⟩:=Kd.N_slice HO_5.out
          subst eo31
          go_wp2_with (first|((with_reducible refine gate_callee (f:=39) rfl ?_);refine goesL_ (some 57) rfl rfl Try.func39 (by kernel_rfl) rfl #[.int .i64 t101,.slice Ao31 t105.length co31] rfl (by (try simp only [mT,mC,mN]);first|done|rfl|(simp only [lD,lT];rfl)) ?_;(with_reducible refine (impl_LeastStory.calls kj5 t101 _ _ t105 t116 true _ ?side1 ?side2 A21.out).mono ?_);(case side1=>repeat (first|exact (Kd.N_reads' HO_5.out).2.2|(with_reducible refine cA ?_ _)|(with_reducible refine cN ?_ _)|(with_reducible refine cD ?_)));(case side2=>exact (Kd.N_reads' HO_5.out).2.1);rintro e w32 ⟨v117,rfl,ho0,hb⟩;refine ⟨_,rfl,?_⟩;have n0_:=mA (Kd.N_elder' (by (with_reducible repeat (first|apply nA|apply nN|apply nD));exact HO_4.out) (Kd.N_base ho0) hb);have n1_:=mA (Kd.N_elder' (by (with_reducible repeat (first|apply nA|apply nN|apply nD));exact HO_5.out) (Kd.N_base ho0) hb);have n2_:=mA (Kd.N_lower (Kd.N_mono (ok':=fun k_=>some k_≠(.slice Ao8 t102.length co8:Value).ownBlock∧some k_≠(.slice Ao31 t105.length co31:Value).ownBlock) ho0 (fun k_ hk_=>⟨(Kd.fresh' (Kd.N_lt (by (with_reducible repeat (first|apply nA|apply nN|apply nD));exact HO_4.out)) k_ hk_),(Kd.fresh' (Kd.N_lt (by (with_reducible repeat (first|apply nA|apply nN|apply nD));exact HO_5.out)) k_ hk_)⟩)) (bZ (by repeat (first|(with_reducible first|exact HB.out|apply bA|apply bN|apply bD)|exact HB.out))));have n3_:=mA (bT (by repeat (first|(with_reducible first|exact HB.out|apply bA|apply bN|apply bD)|exact HB.out)) hb);clear HO_4 HO_5 HB;have HO_4:=n0_;have HO_5:=n1_;have HO118:=n2_;have HB:=n3_;clear n0_ n1_ n2_ n3_;(try clear hb);(try clear hb2);(try clear hk);(try clear hi);(try clear ho0))|((with_reducible refine gate_callee (f:=43) rfl ?_);refine goesL_ (some 62) rfl rfl Try.func43 (by kernel_rfl) rfl #[.int .i64 t101,.slice Ao31 t105.length co31] rfl (by (try simp only [mT,mC,mN]);first|done|rfl|(simp only [lD,lT];rfl)) ?_;(with_reducible refine (impl_StoryTable.calls kj5 t101 _ _ t105 t120 _ ?side1 ?side2 A22.out).mono ?_);(case side1=>repeat (first|exact (Kd.N_reads' HO_5.out).2.2|(with_reducible refine cA ?_ _)|(with_reducible refine cN ?_ _)|(with_reducible refine cD ?_)));(case side2=>exact (Kd.N_reads' HO_5.out).2.1);rintro e w33 ⟨rfl,hb⟩;refine ⟨_,rfl,?_⟩;have n0_:=mA (Kd.N_below (by (with_reducible repeat (first|apply nA|apply nN|apply nD));exact HO_4.out) hb);have n1_:=mA (Kd.N_below (by (with_reducible repeat (first|apply nA|apply nN|apply nD));exact HO_5.out) hb);have n2_:=mA (Kd.N_below (by (with_reducible repeat (first|apply nA|apply nN|apply nD));exact HO118.out) hb);have n3_:=mA (bT (by repeat (first|(with_reducible first|exact HB.out|apply bA|apply bN|apply bD)|exact HB.out)) hb);clear HO_4 HO_5 HO118 HB;have HO_4:=n0_;have HO_5:=n1_;have HO118:=n2_;have HB:=n3_;clear n0_ n1_ n2_ n3_;(try clear hb);(try clear hb2);(try clear hk);(try clear hi))|((with_reducible refine gate_callee (f:=43) rfl ?_);refine goesL_ (some 65) rfl rfl Try.func43 (by kernel_rfl) rfl #[.int .i64 t101,.slice Ao8 t102.length co8] rfl (by (try simp only [mT,mC,mN]);first|done|rfl|(simp only [lD,lT];rfl)) ?_;(with_reducible refine (impl_StoryTable.calls kj5 t101 _ _ t102 t121 _ ?side1 ?side2 A23.out).mono ?_);(case side1=>repeat (first|exact (Kd.N_reads' HO_4.out).2.2|(with_reducible refine cA ?_ _)|(with_reducible refine cN ?_ _)|(with_reducible refine cD ?_)));(case side2=>exact (Kd.N_reads' HO_4.out).2.1);rintro e w34 ⟨rfl,hb⟩;refine ⟨_,rfl,?_⟩;have n0_:=mA (Kd.N_below (by (with_reducible repeat (first|apply nA|apply nN|apply nD));exact HO_4.out) hb);have n1_:=mA (Kd.N_below (by (with_reducible repeat (first|apply nA|apply nN|apply nD));exact HO_5.out) hb);have n2_:=mA (Kd.N_below (by (with_reducible repeat (first|apply nA|apply nN|apply nD));exact HO118.out) hb);have n3_:=mA (bT (by repeat (first|(with_reducible first|exact HB.out|apply bA|apply bN|apply bD)|exact HB.out)) hb);clear HO_4 HO_5 HO118 HB;have HO_4:=n0_;have HO_5:=n1_;have HO118:=n2_;have HB:=n3_;clear n0_ n1_ n2_ n3_;(try clear hb);(try clear hb2);(try clear hk);(try clear hi))|(go_at_call 44;(with_reducible refine (impl_NeedlessClaims.calls kj5 t101 _ _ t105 t122 _ ?side1 ?side2 A25.out).mono ?_);(case side1=>repeat (first|exact (Kd.N_reads' HO_5.out).2.2|(with_reducible refine cA ?_ _)|(with_reducible refine cN ?_ _)|(with_reducible refine cD ?_)));(case side2=>exact (Kd.N_reads' HO_5.out).2.1);rintro e w35 ⟨v123,rfl,ho0,hb⟩;have n0_:=mA (Kd.N_elder' (by (with_reducible repeat (first|apply nA|apply nN|apply nD));exact HO_4.out) (Kd.R_base ho0) hb);have n1_:=mA (Kd.N_elder' (by (with_reducible repeat (first|apply nA|apply nN|apply nD));exact HO_5.out) (Kd.R_base ho0) hb);have n2_:=mA (Kd.N_elder' (by (with_reducible repeat (first|apply nA|apply nN|apply nD));exact HO118.out) (Kd.R_base ho0) hb);have n3_:=mA (Kd.R_lower ho0 (bZ (by repeat (first|(with_reducible first|exact HB.out|apply bA|apply bN|apply bD)|exact HB.out))));have n4_:=mA (bT (by repeat (first|(with_reducible first|exact HB.out|apply bA|apply bN|apply bD)|exact HB.out)) hb);clear HO_4 HO_5 HO118 HB;have HO_4:=n0_;have HO_5:=n1_;have HO118:=n2_;have HO124:=n3_;have HB:=n4_;clear n0_ n1_ n2_ n3_ n4_;(try clear hb);(try clear hb2);(try clear hk);(try clear hi);(try clear ho0);obtain ⟨Ao36,co36,eo36⟩:=Kd.R_slice HO124.out;subst eo36;obtain ⟨Ao37,co37,eo37⟩:=Kd.N_slice HO118.out;subst eo37)|(go_at_call 41;(with_reducible refine (laws_sameStory.calls kj5 _ _ t116 _ _ t105 true _ ?side1 ?side2 ?side3 ?side4 A28.out).mono ?_);(case side1=>repeat (first|exact (Kd.N_reads' HO118.out).2.2|(with_reducible refine cA ?_ _)|(with_reducible refine cN ?_ _)|(with_reducible refine cD ?_)));(case side2=>exact (Kd.N_reads' HO118.out).2.1);(case side3=>repeat (first|exact (Kd.N_reads' HO_5.out).2.2|(with_reducible refine cA ?_ _)|(with_reducible refine cN ?_ _)|(with_reducible refine cD ?_)));(case side4=>exact (Kd.N_reads' HO_5.out).2.1);rintro e w38 ⟨rfl,hb⟩;have n0_:=mA (Kd.N_below (by (with_reducible repeat (first|apply nA|apply nN|apply nD));exact HO_4.out) hb);have n1_:=mA (Kd.N_below (by (with_reducible repeat (first|apply nA|apply nN|apply nD));exact HO_5.out) hb);have n2_:=mA (Kd.N_below (by (with_reducible repeat (first|apply nA|apply nN|apply nD));exact HO118.out) hb);have n3_:=mA (rB (by (with_reducible repeat (first|apply rA|apply rN|apply rD));exact HO124.out) hb);have n4_:=mA (bT (by repeat (first|(with_reducible first|exact HB.out|apply bA|apply bN|apply bD)|exact HB.out)) hb);clear HO_4 HO_5 HO118 HO124 HB;have HO_4:=n0_;have HO_5:=n1_;have HO118:=n2_;have HO124:=n3_;have HB:=n4_;clear n0_ n1_ n2_ n3_ n4_;(try clear hb);(try clear hb2);(try clear hk);(try clear hi))|(go_at_call 43;(with_reducible refine (impl_StoryTable.calls kj5 t101 _ _ t105 t126 _ ?side1 ?side2 A30.out).mono ?_);(case side1=>repeat (first|exact (Kd.N_reads' HO_5.out).2.2|(with_reducible refine cA ?_ _)|(with_reducible refine cN ?_ _)|(with_reducible refine cD ?_)));(case side2=>exact (Kd.N_reads' HO_5.out).2.1);rintro e w39 ⟨rfl,hb⟩;have n0_:=mA (Kd.N_below (by (with_reducible repeat (first|apply nA|apply nN|apply nD));exact HO_4.out) hb);have n1_:=mA (Kd.N_below (by (with_reducible repeat (first|apply nA|apply nN|apply nD));exact HO_5.out) hb);have n2_:=mA (Kd.N_below (by (with_reducible repeat (first|apply nA|apply nN|apply nD));exact HO118.out) hb);have n3_:=mA (rB (by (with_reducible repeat (first|apply rA|apply rN|apply rD));exact HO124.out) hb);have n4_:=mA (bT (by repeat (first|(with_reducible first|exact HB.out|apply bA|apply bN|apply bD)|exact HB.out)) hb);clear HO_4 HO_5 HO118 HO124 HB;have HO_4:=n0_;have HO_5:=n1_;have HO118:=n2_;have HO124:=n3_;have HB:=n4_;clear n0_ n1_ n2_ n3_ n4_;(try clear hb);(try clear hb2);(try clear hk);(try clear hi)))
          go_ret
          exact ⟨by first|rfl|(simp [errW_none,errW_some]<;>rfl)|(simp [*, errW_none,errW_some]<;>rfl),by repeat (first|(with_reducible first|exact HB.out|apply bA|apply bN|apply bD)|exact HB.out)⟩
         ·replace c29:=Bool.eq_false_iff.mpr c29
          subst c29
          have H1:(some false)=some r:=by rw [if_neg (show ¬ (false=true) by decide)] at H;exact H
          clear H
          have H:=H1
          clear H1
          exact absurd ((Option.some.inj H).trans hr_.out) (by decide)
        ·replace c27:=Bool.eq_false_iff.mpr c27
         subst c27
         have H1:(some false)=some r:=by rw [if_neg (show ¬ (false=true) by decide)] at H;exact H
         clear H
         have H:=H1
         clear H1
         exact absurd ((Option.some.inj H).trans hr_.out) (by decide)
       ·rw [if_neg c26] at H
        have c26b0:((t122.length:Int)==0)=false:=beq_eq_false_iff_ne.mpr c26
        have c26b1:((t122.length:Int) != 0)=true:=bne_iff_ne.mpr c26
        have c26b2 : ¬ (t122=[]):=fun h_=>c26 (by rw [h_];rfl)
        exact absurd ((Option.some.inj H).trans hr_.out) (by decide)
      ·rw [if_neg c24] at H
       have c24b0:(t120==t121)=false:=beq_eq_false_iff_ne.mpr c24
       have c24b1:(t120 != t121)=true:=bne_iff_ne.mpr c24
       exact absurd ((Option.some.inj H).trans hr_.out) (by decide)
     ·replace c20:=Bool.eq_false_iff.mpr c20
      subst c20
      have H1:(if (t105.length:Int)=0 then ((impl_StoryOk.f kj5 t101 t102).bind fun t114=>(if t114=true then (some false) else ((laws_alive.f).bind fun t115=>(some t115)))) else (some false))=some r:=by rw [if_neg (show ¬ (false=true) by decide)] at H;exact H
      clear H
      have H:=H1
      clear H1
      by_cases c40:(t105.length:Int)=0
      ·rw [if_pos c40] at H
       have c40b0:((t105.length:Int)==0)=true:=beq_iff_eq.mpr c40
       have c40b1:((t105.length:Int) != 0)=false:=bne_eq_false_iff_eq.mpr c40
       clear c40
       replace H:=Option.bind_eq_some_iff.mp H
       obtain ⟨t114,A410,H⟩:=H
       replace H:(if t114=true then (some false) else ((laws_alive.f).bind fun t115=>(some t115)))=some r:=H
       have A41:=mA A410
       clear A410
       by_cases c42:t114=true
       ·subst c42
        have H1:(some false)=some r:=by rw [if_pos rfl] at H;exact H
        clear H
        have H:=H1
        clear H1
        exact absurd ((Option.some.inj H).trans hr_.out) (by decide)
       ·replace c42:=Bool.eq_false_iff.mpr c42
        subst c42
        have H1:((laws_alive.f).bind fun t115=>(some t115))=some r:=by rw [if_neg (show ¬ (false=true) by decide)] at H;exact H
        clear H
        have H:=H1
        clear H1
        replace H:=Option.bind_eq_some_iff.mp H
        obtain ⟨t115,A430,H⟩:=H
        replace H:(some t115)=some r:=H
        have A43:=mA A430
        clear A430
        obtain rfl:=Option.some.inj H
        obtain ⟨Ao44,co44,eo44⟩:=Kd.N_slice HO_5.out
        subst eo44
        go_wp2_with (first|(go_at_call 42;(with_reducible refine (impl_StoryOk.calls kj5 t101 _ _ t102 false _ ?side1 ?side2 A41.out).mono ?_);(case side1=>repeat (first|exact (Kd.N_reads' HO_4.out).2.2|(with_reducible refine cA ?_ _)|(with_reducible refine cN ?_ _)|(with_reducible refine cD ?_)));(case side2=>exact (Kd.N_reads' HO_4.out).2.1);rintro e w45 ⟨rfl,hb⟩;have n0_:=mA (Kd.N_below (by (with_reducible repeat (first|apply nA|apply nN|apply nD));exact HO_4.out) hb);have n1_:=mA (Kd.N_below (by (with_reducible repeat (first|apply nA|apply nN|apply nD));exact HO_5.out) hb);have n2_:=mA (bT (by repeat (first|(with_reducible first|exact HB.out|apply bA|apply bN|apply bD)|exact HB.out)) hb);clear HO_4 HO_5 HB;have HO_4:=n0_;have HO_5:=n1_;have HB:=n2_;clear n0_ n1_ n2_;(try clear hb);(try clear hb2);(try clear hk);(try clear hi))|(go_at_call 23;(with_reducible refine (laws_alive.calls  t115 _ A43.out).mono ?_);rintro e w' ⟨rfl,⟨nd,rfl⟩⟩))
        go_ret
        exact ⟨by first|rfl|(simp [errW_none,errW_some]<;>rfl)|(simp [*, errW_none,errW_some]<;>rfl),by repeat (first|(with_reducible first|exact HB.out|apply bA|apply bN|apply bD)|exact HB.out)⟩
      ·rw [if_neg c40] at H
       have c40b0:((t105.length:Int)==0)=false:=beq_eq_false_iff_ne.mpr c40
       have c40b1:((t105.length:Int) != 0)=true:=bne_iff_ne.mpr c40
       have c40b2 : ¬ (t105=[]):=fun h_=>c40 (by rw [h_];rfl)
       exact absurd ((Option.some.inj H).trans hr_.out) (by decide)

/-- THE ONE PURE STATEMENT of laws_FnLeastStory: yours. -/
def laws_FnLeastStory.Pure:Prop:=∀ (l0:List Int),l0.length≤maxLen→l0.length*1≤140737488351232→(∀ x∈l0,(Lit.int .u8 x).wf=true) → ∃ k,laws_FnLeastStory.f k l0=some true
theorem laws_FnLeastStory.walk (P:laws_FnLeastStory.Pure) (a0:Option Addr) (len0 cap0:Nat) (z0:List Int) (w:World) (w0:(a0=none∧len0=0∧cap0=0∧z0=[]) ∨ ∃ x,a0=some x∧len0≤cap0∧cap0≤maxLen∧z0.length=cap0∧(∀ i,i<z0.length→w.cell? (x.add i)=some (.int .u8 (z0.getD i 0))) ∧ ∀ n∈z0,(Lit.int .u8 n).wf=true) (y0:len0*1≤140737488351232) :
  Calls Try.prog 9 #[.slice a0 len0 cap0] w fun e w'=>e = .returned (.bool true)∧Below w.heap.size w w':=by
 obtain ⟨l0,rfl,hr0,hm0,hw0,hc0⟩:=ReadsInt.ofRowC w0
 obtain ⟨k,h⟩:=P l0 hm0 y0 hw0
 refine (laws_FnLeastStory.calls k _ _ l0 true w (Kd.C_of_reads (d:=(0:Int)) (h1:=fun _=>rfl) hr0) hc0 ⟨rfl⟩ h).mono ?_
 rintro e w' ⟨rfl,hd⟩
 exact ⟨rfl,hd⟩
end Go.Proofs.Ytofcmhpoebbnoaa.X
/- Drawn claims. -/
namespace Go.Proofs.Ytofcmhpoebbnoaa.L
open Go.RowKit Go.Proofs.Ytofcmhpoebbnoaa.X Go.Proofs.YtofcmhpoebbnoaaW.PrintWords Go.Proofs.YtofcmhpoebbnoaaW.PrintLast Go.Proofs.YtofcmhpoebbnoaaW.PrintMore
open Go.Proofs.YtofcmhpoebbnoaaW.PrintWords renaming Aside0.mk → mA, pw_below_drewN → bN, below_drew1 → bD, below_alloc → bA, below_set → bS, blk_alloc → kA, blk_drewN → kN, blk_drew → kD, blk_cell → kC, blk_frozen → kF, below_size → bZ, below_step → bT, Kd.R_alloc → rA, Kd.R_drewN → rN, Kd.R_drew → rD, Kd.R_mono → rM, Kd.R_reads' → rR, Kd.R_far → rF, Kd.R_lt → rL, Kd.R_below → rB, Kd.N_alloc → nA, Kd.N_drewN → nN, Kd.N_drew → nD, Kd.C_alloc → cA, Kd.C_drewN → cN, Kd.C_drew → cD
open List renaming setIfInBounds_toArray → sA, set_cons_zero → sZ, set_cons_succ → sS, length_take → lT, length_drop → lD, map_toArray → mT, map_cons → mC, map_nil → mN
theorem l20Claim_ev {s:List Int} (hs:Rd s) {n:Int} (h0:0≤n) (h1:n≤500000) (P m:Int) (hP:P≤1000) (hm0 : -1000≤m) (hm:m≤400) :
  ∃ (i:Int) (t:List M) (n':Int),Ev (fun k=>spec_l20Claim.f k s n P m) (i,t,n') ∧ -1≤i∧i≤1000∧t.length≤16∧Sm t∧n≤n'∧n'≤n+100:=by
 have hmx:1≤mx P 1∧mx P 1≤1000:=by unfold mx;split<;>omega
 obtain ⟨a,ha,ha0,ha1⟩:=pick_ev hs (p:=n) (by omega) (by omega) (mx P 1) (by omega)
 have ha2:=ha1 (by omega)
 obtain ⟨t,p',ht,h2,h3,h4,h5⟩:=l20Term_ev hs (p:=n+1) (by omega) (by omega) P (m*2) (by omega)
 obtain ⟨b,p2,hb,hb0,hb1⟩:=odd_ev hs (p:=p') (by omega) (by omega) m (by omega)
 cases b with
 | false =>
  refine ⟨a,t,p2,?_,by omega,by omega,h2,h3,by omega,by omega⟩
  unfold spec_l20Claim.f
  simp only [w64 (x:=m*2) (by omega) (by omega)]
  exact Ev.bind ha (Ev.bind ht (Ev.bind hb (Ev.no (by simp) (Ev.some _))))
 | true =>
  obtain ⟨c,hc,hc0,hc1⟩:=pick_ev hs (p:=p2) (by omega) (by omega) 2 (by omega)
  have hc2:=hc1 (by omega)
  refine ⟨rd [-1,4] c,t,p2+1,?_,?_,?_,h2,h3,by omega,by omega⟩
  ·unfold spec_l20Claim.f
   simp only [w64 (x:=m*2) (by omega) (by omega),Option.bind_some]
   exact Ev.bind ha (Ev.bind ht (Ev.bind hb (Ev.yes rfl (Ev.bind hc (Ev.yes hc0 (Ev.yes (by simpa using hc2) (Ev.some _)))))))
  ·obtain rfl|rfl:c=0∨c=1:=by omega
   ·decide
   ·decide
  ·obtain rfl|rfl:c=0∨c=1:=by omega
   ·decide
   ·decide
/-- Claims with small terms. -/
def SmC (l:List S43):Prop:=∀ c∈l,c.f1.length≤16∧Sm c.f1
theorem SmC.snoc {l:List S43} {c:S43} (h:SmC l) (h1:c.f1.length≤16) (h2:Sm c.f1):SmC (l++[c]):=by
 intro x hx
 rcases List.mem_append.1 hx with hx|hx
 ·exact h x hx
 ·rw [List.mem_singleton.1 hx];exact ⟨h1,h2⟩
theorem story_l1 {s:List Int} (P n:Int) : ∀ (d:Nat) (l:List S43),l.length+d=7→SmC l → ∃ l':List S43,Ev (fun k=>spec_l20Story.l1 k P l s n) (P,l',n)∧l'.length≤7∧SmC l':=by
 intro d
 induction d with
 | zero =>
  intro l hl hs
  exact ⟨l,Ev.step (fun k=>by simp only [spec_l20Story.l1];rfl) (Ev.no (by omega) (Ev.some _)),by omega,hs⟩
 | succ d ih =>
  intro l hl hs
  obtain ⟨l',h1,h2,h3⟩:=ih (l++[⟨0,[⟨0,0⟩]⟩]) (by simp;omega) (hs.snoc (by simp) (Sm.one (by simp)))
  exact ⟨l',Ev.step (fun k=>by simp only [spec_l20Story.l1];rfl) (Ev.yes (by omega) (Ev.yes (by omega) h1)),h2,h3⟩
theorem story_l0 {s:List Int} (hs:Rd s) (m P:Int) (hm0:0≤m) (hm:m≤100) (hP:P≤1000) : ∀ (d:Nat) (l:List S43) (n:Int),l.length+d≤6→SmC l→0≤n→n≤10000-200*d →
  ∃ (l':List S43) (n':Int),Ev (fun k=>spec_l20Story.l0 k m P l (d:Int) s n) (P,l',n')∧l'.length≤7∧SmC l'∧0≤n'∧n'≤20000:=by
 intro d
 induction d with
 | zero =>
  intro l n hl hsm h0 h1
  obtain ⟨b,p1,hb,hp1,hp2⟩:=odd_ev hs h0 (by omega) m (by omega)
  cases b with
  | false=>exact ⟨l,p1,Ev.step (fun k=>by simp only [spec_l20Story.l0];rfl) (Ev.no (by omega) (Ev.bind hb (Ev.no Bool.false_ne_true (Ev.some _)))),by omega,hsm,by omega,by omega⟩
  | true =>
   obtain ⟨l',h1',h2,h3⟩:=story_l1 (s:=s) P p1 (7-l.length) l (by omega) hsm
   exact ⟨l',p1,Ev.step (fun k=>by simp only [spec_l20Story.l0];rfl) (Ev.no (by omega) (Ev.bind hb (Ev.yes rfl h1'))),h2,h3,by omega,by omega⟩
 | succ d ih =>
  intro l n hl hsm h0 h1
  obtain ⟨i,t,n',hc,hi0,hi1,ht,hst,hn0,hn1⟩:=l20Claim_ev hs (n:=n) h0 (by omega) P (m*3) hP (by omega) (by omega)
  obtain ⟨l',n2,h1',h2,h3,h4,h5⟩:=ih (l++[⟨i,t⟩]) n' (by simp;omega) (hsm.snoc ht hst) (by omega) (by omega)
  refine ⟨l',n2,Ev.step (fun k=>by simp only [spec_l20Story.l0];rfl) ?_,h2,h3,h4,h5⟩
  rw [w64 (x:=m*3) (by omega) (by omega),w64 (by omega) (by omega),show (((d+1:Nat):Int)-1)=(d:Int) by omega]
  exact Ev.yes (by omega) (Ev.bind hc (Ev.yes (by omega) h1'))
theorem l20Story_ev {s:List Int} (hs:Rd s) (m:Int) (hm0:0≤m) (hm:m≤100) : ∃ (p:Int) (l:List S43) (n:Int),Ev (fun k=>spec_l20Story.f k s 0 m) (p,l,n)∧1≤p∧p≤4∧l.length≤7∧SmC l∧0≤n∧n≤20000:=by
 obtain ⟨a,ha,ha0,ha1⟩:=pick_ev hs (p:=0) (by omega) (by omega) 4 (by omega)
 have ha2:=ha1 (by omega)
 obtain ⟨b,hb,hb0,hb1⟩:=pick_ev hs (p:=0+1) (by omega) (by omega) 5 (by omega)
 have hb2:=hb1 (by omega)
 obtain ⟨d,rfl⟩:=Int.eq_ofNat_of_zero_le hb0
 obtain ⟨l,n,h1,h2,h3,h4,h5⟩:=story_l0 hs m (1+a) hm0 hm (by omega) d [] (0+1+1) (by simp;omega) (fun c hc=>by cases hc) (by omega) (by omega)
 refine ⟨1+a,l,n,?_,by omega,by omega,h2,h3,h4,h5⟩
 unfold spec_l20Story.f
 refine Ev.bind ha (Ev.bind hb ?_)
 simp only [w64 (x:=1+a) (by omega) (by omega)]
 exact h1
theorem Tm.good_four {p:Int} (hp:p≤4) : ∀ a:Tm,a.good p→a.good 4
 | .tell i,h=>by have h':(i:Int)<p:=h;show (i:Int)<4;omega
 | .cnt n,h=>by have h':(n:Int)≤p+1:=h;show (n:Int)≤4+1;omega
 | .neg a,h=>good_four hp a h
 | .bin o a b,h=>⟨h.1,good_four hp a h.2.1,good_four hp b h.2.2⟩
open Classical in
/-- The tree of a row of marks. -/
noncomputable def tree (t:List M):Tm:=if h : ∃ a:Tm,a.good 4∧t=a.post then Classical.choose h else .tell 0
theorem tree_post {a:Tm} (h:a.good 4):(tree a.post).good 4∧a.post=(tree a.post).post:=by
 have h' : ∃ b:Tm,b.good 4∧a.post=b.post:=⟨a,h,rfl⟩
 unfold tree
 rw [dif_pos h']
 exact Classical.choose_spec h'
/-- Whether a row of marks holds in a world. -/
noncomputable def hv (t:List M) (w:Nat):Bool:=(tree t).ev w
theorem hv_post {a:Tm} (h:a.good 4) (hl:a.post.length≤500) {w:Nat} (hw:w<16):hv a.post w=a.ev w:=by
 obtain ⟨h1,h2⟩:=tree_post h
 have e1:=impl_holds_ev (by decide) hw h hl
 have e2:=impl_holds_ev (by decide) hw h1 (by rw [←h2];exact hl)
 rw [←h2] at e2
 exact Ev.uniq e2 e1
theorem tok_tree {p:Int} {t:List M} (h:tok p t=true) : ∃ a:Tm,a.good p∧t=a.post∧a.good 4∧t.length≤15:=by
 obtain ⟨a,h1,h2⟩:=parse h
 obtain ⟨_,h3,_,h4,_⟩:=tok_iff.1 h
 exact ⟨a,h1,h2,a.good_four h3 h1,h4⟩
theorem impl_holds_hv {p:Int} {t:List M} (h:tok p t=true) {w:Nat} (hw:w<16):Ev (fun k=>impl_holds.f k t (w:Int)) (hv t w):=by
 obtain ⟨a,_,rfl,h4,hl⟩:=tok_tree h
 rw [hv_post h4 (by omega) hw]
 exact impl_holds_ev (by decide) hw h4 (by omega)
theorem spec_holds_hv {p:Int} {t:List M} (h:tok p t=true) {w:Nat} (hw:w<16):Ev (fun k=>spec_l3Holds.f k t (w:Int)) (hv t w):=by
 obtain ⟨a,_,rfl,h4,hl⟩:=tok_tree h
 rw [hv_post h4 (by omega) hw]
 exact l3Holds_ev (by decide) hw a h4 (by omega)
/-- Whether a claim may be made in a world. -/
noncomputable def may (i:Int) (t:List M) (w:Nat):Bool:=hv t w==w.testBit i.toNat
/-- The worlds below n in which P holds, as bits. -/
def tabL (P:Nat→Bool):Nat→Nat
 | 0=>0
 | n+1=>tabL P n ||| (if P n=true then 2^n else 0)
theorem tabL_bit (P:Nat→Bool) : ∀ n w,(tabL P n).testBit w=(decide (w<n)&&P w)
 | 0,w=>by simp [tabL]
 | n+1,w=>by
  rw [tabL,Nat.testBit_or,tabL_bit P n w]
  by_cases e:w=n
  ·subst e
   by_cases h:P w=true
   ·rw [if_pos h,Nat.testBit_two_pow_self,h];simp
   ·rw [if_neg h,Nat.zero_testBit];simp at h;simp [h]
  ·have h1:(if P n=true then 2^n else 0).testBit w=false:=by
    by_cases h:P n=true
    ·rw [if_pos h,Nat.testBit_two_pow];simp;omega
    ·rw [if_neg h,Nat.zero_testBit]
   rw [h1,Bool.or_false]
   congr 1
   exact decide_eq_decide.mpr (by omega)
theorem lt_of_bits {x n:Nat} (h : ∀ w,n≤w→x.testBit w=false):x<2^n:=Nat.lt_pow_two_of_testBit x (fun w hw=>h w hw)
theorem tabL_lt (P:Nat→Bool) (n:Nat):tabL P n<2^n:=lt_of_bits (fun w hw=>by rw [tabL_bit];simp;omega)
theorem tabL_congr {P Q:Nat→Bool} {n:Nat} (h : ∀ w,w<n→P w=Q w):tabL P n=tabL Q n:=by
 apply Nat.eq_of_testBit_eq
 intro w
 rw [tabL_bit,tabL_bit]
 by_cases hw:w<n
 ·rw [h w hw]
 ·simp [hw]
theorem tabL_inj {P Q:Nat→Bool} {n:Nat} (h:tabL P n=tabL Q n) : ∀ w,w<n→P w=Q w:=by
 intro w hw
 have:=tabL_bit P n w
 rw [h,tabL_bit] at this
 simpa [hw] using this.symm
theorem tabL_mono {P:Nat→Bool} {n:Nat} (hn:n≤16):tabL P n<65536:=by
 have:=tabL_lt P n
 have h:(2:Nat)^n≤2^16:=Nat.pow_le_pow_right (by decide) hn
 omega
theorem wrap_i64_small (n:Int) (h0:0≤n) (h1:n<2^32):IntKind.i64.wrap n=n:=by rw [IntKind.wrap_i64];omega
theorem or_nat {a b:Nat} (ha:a<2^32) (hb:b<2^32):Go.bits .or .i64 (a:Int) (b:Int)=((a ||| b:Nat):Int):=(bits_nat .i64 32 (by decide) wrap_i64_small a b ha hb).2
theorem and_nat {a b:Nat} (ha:a<2^32) (hb:b<2^32):Go.bits .and .i64 (a:Int) (b:Int)=((a &&& b:Nat):Int):=(bits_nat .i64 32 (by decide) wrap_i64_small a b ha hb).1
theorem shl_fin : ∀ i:Fin 31,shl .i64 1 ((i.val:Nat):Int)=((2^i.val:Nat):Int):=by decide +kernel
theorem shl_nat {i:Nat} (hi:i<31):shl .i64 1 (i:Int)=((2^i:Nat):Int):=shl_fin ⟨i,hi⟩
theorem or_step {P:Nat→Bool} {i:Nat} (hi:i<16) (h:P i=true):Go.bits .or .i64 ((tabL P i:Nat):Int) (shl .i64 1 (i:Int))=((tabL P (i+1):Nat):Int):=by
 have h1:=tabL_lt P i
 have h2:(2:Nat)^i<2^16:=Nat.pow_lt_pow_right (by decide) hi
 rw [shl_nat (by omega),or_nat (by omega) (by omega),tabL,if_pos h]
theorem not_step {P:Nat→Bool} {i:Nat} (h : ¬ P i=true):tabL P (i+1)=tabL P i:=by rw [tabL,if_neg h,Nat.or_zero]
theorem people_nat {p:Int} (h0:1≤p) (h1:p≤4) : ∃ q:Nat,p=(q:Int)∧1≤q∧q≤4∧2^q≤16∧p.toNat=q:=by
 obtain ⟨q,rfl⟩:=Int.eq_ofNat_of_zero_le (show 0≤p by omega)
 refine ⟨q,rfl,by omega,by omega,?_,by simp⟩
 have:(2:Nat)^q≤2^4:=Nat.pow_le_pow_right (by decide) (by omega)
 omega
theorem tableBy_l0 {F:Nat→Int→Option Bool} {P:Nat→Bool} {n:Nat} (hn:n≤16) (hF : ∀ w:Nat,w<n→Ev (fun k=>F k (w:Int)) (P w)) : ∀ d i,d+i=n →
  Ev (fun k=>impl_tableBy.l0 F k ((tabL P i:Nat):Int) (n:Int) (i:Int)) ((tabL P n:Nat):Int):=by
 intro d
 induction d with
 | zero =>
  intro i hi
  rw [Nat.zero_add] at hi
  subst hi
  exact Ev.step (fun k=>by simp only [impl_tableBy.l0];rfl) (Ev.no (by omega) (Ev.some _))
 | succ d ih =>
  intro i hi
  refine Ev.step (fun k=>by simp only [impl_tableBy.l0];rfl) ?_
  refine Ev.yes (by omega) (Ev.bind (hF i (by omega)) ?_)
  rw [w64 (by omega) (by omega),show ((i:Int)+1)=((i+1:Nat):Int) by omega]
  by_cases h:P i=true
  ·refine Ev.yes h (Ev.yes (by omega) ?_)
   rw [or_step (by omega) h]
   exact ih (i+1) (by omega)
  ·refine Ev.no h ?_
   have:=ih (i+1) (by omega)
   rwa [not_step h] at this
theorem tableBy_ev {F:Nat→Int→Option Bool} {P:Nat→Bool} {q:Nat} (hq:q≤4) (hF : ∀ w:Nat,w<2^q→Ev (fun k=>F k (w:Int)) (P w)):Ev (fun k=>impl_tableBy.f F k (q:Int)) ((tabL P (2^q):Nat):Int):=by
 unfold impl_tableBy.f
 refine Ev.yes (by omega) ?_
 rw [shl_nat (by omega)]
 have h16:(2:Nat)^q≤2^4:=Nat.pow_le_pow_right (by decide) hq
 exact tableBy_l0 (by omega) hF (2^q) 0 (by omega)
/-- A claim by one of so many people. -/
def clok (p i:Int) (t:List M):Bool:=decide (0≤i∧i<p)&&(tok p t&&decide (t.length≤13))
theorem clok_iff {p i:Int} {t:List M}:clok p i t=true ↔ 0≤i∧i<p∧tok p t=true∧t.length≤13:=by
 unfold clok
 simp only [Bool.and_eq_true,decide_eq_true_eq]
 exact ⟨fun h=>⟨h.1.1,h.1.2,h.2.1,h.2.2⟩,fun h=>⟨⟨h.1,h.2.1⟩,h.2.2.1,h.2.2.2⟩⟩
theorem clok_false {p i:Int} {t:List M} (h : ¬ (0≤i∧i<p∧tok p t=true∧t.length≤13)):false=clok p i t:=by
 cases e:clok p i t with
 | false=>rfl
 | true=>exact absurd (clok_iff.1 e) h
theorem impl_ClaimOk_ev (p i:Int) (t:List M):Ev (fun k=>impl_ClaimOk.f k p i t) (clok p i t):=by
 unfold impl_ClaimOk.f
 simp only [peopleOk_eq,Option.bind_some]
 by_cases h0:1≤p∧p≤4
 ·refine Ev.yes (decide_eq_true h0) ?_
  by_cases h1:i≥0
  ·refine Ev.yes h1 ?_
   by_cases h2:i<p
   ·refine Ev.yes h2 (Ev.bind (impl_TermOk_ev p t) ?_)
    by_cases h3:tok p t=true
    ·refine Ev.yes h3 (Ev.cast (Ev.some _) ?_)
     by_cases h4:t.length≤13
     ·rw [clok_iff.2 ⟨h1,h2,h3,h4⟩];exact decide_eq_true (by omega)
     ·rw [←clok_false (fun h=>h4 h.2.2.2)];exact decide_eq_false (by omega)
    ·exact Ev.no h3 (Ev.cast (Ev.some _) (clok_false (fun h=>h3 h.2.2.1)))
   ·exact Ev.no h2 (Ev.cast (Ev.some _) (clok_false (fun h=>h2 h.2.1)))
  ·exact Ev.no h1 (Ev.cast (Ev.some _) (clok_false (fun h=>h1 h.1)))
 ·refine Ev.no (by simpa using h0) (Ev.cast (Ev.some _) (clok_false (fun h=>h0 ?_)))
  have:=tok_iff.1 h.2.2.1
  omega
theorem spec_ClaimOk_ev (p i:Int) (t:List M) (hl:t.length≤4611686018427387904) (hw : ∀ m∈t,m.f1≤9223372036854775807):Ev (fun k=>spec_ClaimOk.f k p i t) (clok p i t):=by
 unfold spec_ClaimOk.f
 by_cases h1:i≥0
 ·refine Ev.yes h1 ?_
  by_cases h2:i<p
  ·refine Ev.yes h2 (Ev.bind (spec_TermOk_ev p t hl hw) ?_)
   by_cases h3:tok p t=true
   ·refine Ev.yes h3 (Ev.cast (Ev.some _) ?_)
    by_cases h4:t.length≤13
    ·rw [clok_iff.2 ⟨h1,h2,h3,h4⟩];exact decide_eq_true (by omega)
    ·rw [←clok_false (fun h=>h4 h.2.2.2)];exact decide_eq_false (by omega)
   ·exact Ev.no h3 (Ev.cast (Ev.some _) (clok_false (fun h=>h3 h.2.2.1)))
  ·exact Ev.no h2 (Ev.cast (Ev.some _) (clok_false (fun h=>h2 h.2.1)))
 ·exact Ev.no h1 (Ev.cast (Ev.some _) (clok_false (fun h=>h1 h.1)))
theorem impl_maySay_ev {p i:Int} {t:List M} (h:clok p i t=true) {w:Nat} (hw:w<16):Ev (fun k=>impl_maySay.f k i t (w:Int)) (may i t w):=by
 obtain ⟨h0,h1,h2,_⟩:=clok_iff.1 h
 have h4:=(tok_iff.1 h2).2.1
 obtain ⟨j,rfl⟩:=Int.eq_ofNat_of_zero_le h0
 unfold impl_maySay.f
 refine Ev.bind (impl_holds_hv h2 hw) (Ev.yes h0 (Ev.cast (Ev.some _) ?_))
 rw [bit_and' hw (show j<4 by omega)]
 rfl
/-- The table of a claim. -/
noncomputable def ctab (p i:Int) (t:List M):Nat:=tabL (may i t) (2^p.toNat)
theorem impl_ClaimTable_ev (p i:Int) (t:List M):Ev (fun k=>impl_ClaimTable.f k p i t) (if clok p i t=true then ((ctab p i t:Nat):Int) else -1):=by
 unfold impl_ClaimTable.f
 refine Ev.bind (impl_ClaimOk_ev p i t) ?_
 by_cases h:clok p i t=true
 ·rw [if_pos h]
  refine Ev.yes h ?_
  obtain ⟨hp0,hp1,_⟩:=tok_iff.1 (clok_iff.1 h).2.2.1
  obtain ⟨q,rfl,_,hq,hq2,_⟩:=people_nat hp0 hp1
  exact tableBy_ev hq (fun w hw=>impl_maySay_ev h (by omega))
 ·rw [if_neg h]
  exact Ev.no h (Ev.some _)
abbrev C:=S43
theorem rdC_at (pre:List C) (c:C) (suf:List C):rd_T43 (pre++c :: suf) ((pre.length:Nat):Int)=c:=by
 unfold rd_T43
 simp [List.getD]
/-- A story of so many people. -/
def sok (p:Int) (l:List C):Bool:=l.all (fun c=>clok p c.f0 c.f1)&&decide (1≤p∧p≤4∧l.length≤6)
theorem sok_iff {p:Int} {l:List C}:sok p l=true ↔ (∀ c∈l,clok p c.f0 c.f1=true)∧1≤p∧p≤4∧l.length≤6:=by
 unfold sok
 rw [Bool.and_eq_true,List.all_eq_true,decide_eq_true_eq]
theorem impl_StoryOk_l0 {p:Int} {l:List C} (hl:l.length≤4611686018427387904) : ∀ (suf pre:List C),l=pre++suf →
  Ev (fun k=>impl_StoryOk.l0 k p l l ((l.length:Nat):Int) ((pre.length:Nat):Int)) (suf.all (fun c=>clok p c.f0 c.f1)&&decide (1≤p∧p≤4∧l.length≤6)):=by
 intro suf
 induction suf with
 | nil =>
  intro pre he
  have hle:l.length=pre.length:=by rw [he];simp
  refine Ev.step (fun k=>by simp only [impl_StoryOk.l0];rfl) ?_
  refine Ev.no (by omega) ?_
  simp only [peopleOk_eq,Option.bind_some,List.all_nil,Bool.true_and]
  by_cases h:1≤p∧p≤4
  ·refine Ev.yes (decide_eq_true h) (Ev.cast (Ev.some _) ?_)
   exact decide_eq_decide.mpr (by omega)
  ·refine Ev.no (by simpa using h) (Ev.cast (Ev.some _) ?_)
   exact (decide_eq_false (fun hh=>h ⟨hh.1,hh.2.1⟩)).symm
 | cons c t ih =>
  intro pre he
  have hle:l.length=pre.length+(t.length+1):=by rw [he];simp
  have hc:rd_T43 l ((pre.length:Nat):Int)=c:=by rw [he];exact rdC_at pre c t
  refine Ev.step (fun k=>by simp only [impl_StoryOk.l0];rfl) ?_
  rw [hc,w64 (by omega) (by omega),show (((pre.length:Nat):Int)+1)=(((pre++[c]).length:Nat):Int) by simp]
  refine Ev.yes (by omega) (Ev.yes (by omega) (Ev.yes (by omega) (Ev.bind (impl_ClaimOk_ev p c.f0 c.f1) ?_)))
  by_cases h:clok p c.f0 c.f1=true
  ·exact Ev.yes h (Ev.cast (ih (pre++[c]) (by rw [he];simp)) (by rw [List.all_cons,h,Bool.true_and]))
  ·rw [Bool.not_eq_true] at h
   rw [h]
   exact Ev.no (by simp) (Ev.cast (Ev.some _) (by rw [List.all_cons,h];simp))
theorem impl_StoryOk_ev (p:Int) (l:List C) (hl:l.length≤4611686018427387904):Ev (fun k=>impl_StoryOk.f k p l) (sok p l):=by
 unfold impl_StoryOk.f
 exact impl_StoryOk_l0 hl l [] rfl
/-- All worlds, as bits. -/
def fullT (q:Nat):Nat:=2^(2^q)-1
theorem full_eq {q:Nat} (h1:1≤q) (h4:q≤4):wrap64 (shl .i64 1 (shl .u64 1 (q:Int))-1)=((fullT q:Nat):Int):=by
 have : ∀ q:Fin 5,1≤q.val→wrap64 (shl .i64 1 (shl .u64 1 ((q.val:Nat):Int))-1)=((fullT q.val:Nat):Int):=by decide +kernel
 exact this ⟨q,by omega⟩ h1
theorem full_lt {q:Nat} (h4:q≤4):fullT q<65536:=by
 have:(2:Nat)^q≤2^4:=Nat.pow_le_pow_right (by decide) h4
 have h2:(2:Nat)^(2^q)≤2^16:=Nat.pow_le_pow_right (by decide) (by omega)
 unfold fullT
 omega
/-- The table of a story, from some worlds on. -/
noncomputable def stabFrom (p:Int):Nat→List C→Nat
 | a,[]=>a
 | a,c :: l=>stabFrom p (a &&& ctab p c.f0 c.f1) l
noncomputable def stab (p:Int) (l:List C):Nat:=stabFrom p (fullT p.toNat) l
theorem and_lt {a b n:Nat} (h:a<n):a &&& b<n:=Nat.lt_of_le_of_lt Nat.and_le_left h
theorem ctab_lt' {p i:Int} {t:List M} (h:clok p i t=true):ctab p i t<65536:=by
 obtain ⟨hp0,hp1,_⟩:=tok_iff.1 (clok_iff.1 h).2.2.1
 obtain ⟨q,rfl,_,hq,hq2,e⟩:=people_nat hp0 hp1
 unfold ctab
 rw [e]
 exact tabL_mono hq2
theorem impl_storyTable_l0 {p:Int} {l:List C} (hl:l.length≤4611686018427387904) : ∀ (suf pre:List C) (a:Nat),l=pre++suf→(∀ c∈suf,clok p c.f0 c.f1=true)→a<65536 →
  Ev (fun k=>impl_storyTable.l0 k p (a:Int) l ((l.length:Nat):Int) ((pre.length:Nat):Int)) ((stabFrom p a suf:Nat):Int):=by
 intro suf
 induction suf with
 | nil =>
  intro pre a he _ _
  have hle:l.length=pre.length:=by rw [he];simp
  exact Ev.step (fun k=>by simp only [impl_storyTable.l0];rfl) (Ev.no (by omega) (Ev.some _))
 | cons c t ih =>
  intro pre a he hc0 ha
  have hle:l.length=pre.length+(t.length+1):=by rw [he];simp
  have hc:rd_T43 l ((pre.length:Nat):Int)=c:=by rw [he];exact rdC_at pre c t
  have hk:=hc0 c (by simp)
  refine Ev.step (fun k=>by simp only [impl_storyTable.l0];rfl) ?_
  rw [hc,w64 (by omega) (by omega),show (((pre.length:Nat):Int)+1)=(((pre++[c]).length:Nat):Int) by simp]
  refine Ev.yes (by omega) (Ev.yes (by omega) (Ev.yes (by omega) (Ev.bind (impl_ClaimTable_ev p c.f0 c.f1) ?_)))
  rw [if_pos hk]
  have hb:=ctab_lt' hk
  rw [and_nat (by omega) (by omega)]
  exact ih (pre++[c]) _ (by rw [he];simp) (fun x hx=>hc0 x (List.mem_cons_of_mem _ hx)) (and_lt ha)
theorem impl_storyTable_ev {p:Int} {l:List C} (h:sok p l=true):Ev (fun k=>impl_storyTable.f k p l) ((stab p l:Nat):Int):=by
 obtain ⟨h1,hp0,hp1,h6⟩:=sok_iff.1 h
 obtain ⟨q,rfl,hq1,hq,hq2,e⟩:=people_nat hp0 hp1
 unfold impl_storyTable.f stab
 rw [full_eq hq1 hq,e]
 exact Ev.yes (by omega) (impl_storyTable_l0 (by omega) l [] _ rfl h1 (full_lt hq))
theorem spec_may_ev {p i:Int} {t:List M} (h2:tok p t=true) (h0:0≤i) (h1:i<p) {w:Nat} (hw:w<16):Ev (fun k=>spec_l4May.f k i t (w:Int)) (may i t w):=by
 have h4:=(tok_iff.1 h2).2.1
 obtain ⟨j,rfl⟩:=Int.eq_ofNat_of_zero_le h0
 unfold spec_l4May.f
 refine Ev.yes h0 (Ev.bind (spec_holds_hv h2 hw) (Ev.cast (Ev.some _) ?_))
 rw [bit_mod' hw (show j<4 by omega)]
 unfold may
 exact Bool.beq_comm
theorem spec_l4May_ev {p i:Int} {t:List M} (h:clok p i t=true) {w:Nat} (hw:w<16):Ev (fun k=>spec_l4May.f k i t (w:Int)) (may i t w):=by
 obtain ⟨h0,h1,h2,_⟩:=clok_iff.1 h
 exact spec_may_ev h2 h0 h1 hw
theorem l4Table_l0 {q:Nat} {i:Int} {t:List M} (hq:q≤4) (hq2:2^q≤16) (h:clok (q:Int) i t=true) : ∀ d j,d+j=2^q →
  Ev (fun k=>spec_l4Table.l0 k (q:Int) ((tabL (may i t) j:Nat):Int) (j:Int) i t) ((tabL (may i t) (2^q):Nat):Int):=by
 intro d
 induction d with
 | zero =>
  intro j hj
  rw [Nat.zero_add] at hj
  refine Ev.step (fun k=>by simp only [spec_l4Table.l0];rfl) ?_
  rw [shl_nat (by omega)]
  refine Ev.yes (by omega) (Ev.no (by omega) (Ev.cast (Ev.some _) ?_))
  rw [hj]
 | succ d ih =>
  intro j hj
  refine Ev.step (fun k=>by simp only [spec_l4Table.l0];rfl) ?_
  rw [shl_nat (by omega)]
  refine Ev.yes (by omega) (Ev.yes (by omega) (Ev.bind (spec_l4May_ev h (by omega)) ?_))
  rw [w64 (by omega) (by omega),show ((j:Int)+1)=((j+1:Nat):Int) by omega]
  by_cases hb:may i t j=true
  ·refine Ev.yes hb (Ev.yes (by omega) ?_)
   rw [or_step (by omega) hb]
   exact ih (j+1) (by omega)
  ·refine Ev.no hb ?_
   have:=ih (j+1) (by omega)
   rwa [not_step hb] at this
theorem spec_l4Table_ev {p i:Int} {t:List M} (h:clok p i t=true):Ev (fun k=>spec_l4Table.f k p i t) ((ctab p i t:Nat):Int):=by
 unfold spec_l4Table.f
 obtain ⟨hp0,hp1,_⟩:=tok_iff.1 (clok_iff.1 h).2.2.1
 obtain ⟨q,rfl,_,hq,hq2,_⟩:=people_nat hp0 hp1
 exact l4Table_l0 hq hq2 h (2^q) 0 (by omega)
/-- Small enough for the reference's tests. -/
def Fit (l:List C):Prop:=∀ c∈l,c.f1.length≤4611686018427387904 ∧ ∀ m∈c.f1,m.f1≤9223372036854775807
theorem spec_StoryOk_l0 {p:Int} {l:List C} (hl:l.length≤4611686018427387904) : ∀ (suf pre:List C),l=pre++suf→Fit suf →
  Ev (fun k=>spec_StoryOk.l0 k p l ((pre.length:Nat):Int)) (suf.all (fun c=>clok p c.f0 c.f1)&&decide (1≤p∧p≤4∧l.length≤6)):=by
 intro suf
 induction suf with
 | nil =>
  intro pre he _
  have hle:l.length=pre.length:=by rw [he];simp
  refine Ev.step (fun k=>by simp only [spec_StoryOk.l0];rfl) ?_
  refine Ev.no (by omega) ?_
  simp only [l1In_eq,Option.bind_some,List.all_nil,Bool.true_and]
  by_cases h:1≤p∧p≤4
  ·refine Ev.yes (decide_eq_true h) (Ev.cast (Ev.some _) ?_)
   exact decide_eq_decide.mpr (by omega)
  ·refine Ev.no (by simpa using h) (Ev.cast (Ev.some _) ?_)
   exact (decide_eq_false (fun hh=>h ⟨hh.1,hh.2.1⟩)).symm
 | cons c t ih =>
  intro pre he hf
  have hle:l.length=pre.length+(t.length+1):=by rw [he];simp
  have hc:rd_T43 l ((pre.length:Nat):Int)=c:=by rw [he];exact rdC_at pre c t
  have hfc:=hf c (by simp)
  refine Ev.step (fun k=>by simp only [spec_StoryOk.l0];rfl) ?_
  rw [hc,w64 (by omega) (by omega),show (((pre.length:Nat):Int)+1)=(((pre++[c]).length:Nat):Int) by simp]
  refine Ev.yes (by omega) (Ev.yes (by omega) (Ev.bind (spec_ClaimOk_ev p c.f0 c.f1 hfc.1 hfc.2) ?_))
  by_cases h:clok p c.f0 c.f1=true
  ·exact Ev.yes h (Ev.cast (ih (pre++[c]) (by rw [he];simp) (fun x hx=>hf x (List.mem_cons_of_mem _ hx))) (by rw [List.all_cons,h,Bool.true_and]))
  ·rw [Bool.not_eq_true] at h
   rw [h]
   exact Ev.no (by simp) (Ev.cast (Ev.some _) (by rw [List.all_cons,h];simp))
theorem spec_StoryOk_ev (p:Int) (l:List C) (hl:l.length≤4611686018427387904) (hf:Fit l):Ev (fun k=>spec_StoryOk.f k p l) (sok p l):=by
 unfold spec_StoryOk.f
 exact spec_StoryOk_l0 hl l [] rfl hf
theorem spec_l4Story_l0 {p:Int} {l:List C} (hl:l.length≤4611686018427387904) : ∀ (suf pre:List C) (a:Nat),l=pre++suf→(∀ c∈suf,clok p c.f0 c.f1=true)→a<65536 →
  Ev (fun k=>spec_l4Story.l0 k p l (a:Int) ((pre.length:Nat):Int)) ((stabFrom p a suf:Nat):Int):=by
 intro suf
 induction suf with
 | nil =>
  intro pre a he _ _
  have hle:l.length=pre.length:=by rw [he];simp
  exact Ev.step (fun k=>by simp only [spec_l4Story.l0];rfl) (Ev.no (by omega) (Ev.some _))
 | cons c t ih =>
  intro pre a he hc0 ha
  have hle:l.length=pre.length+(t.length+1):=by rw [he];simp
  have hc:rd_T43 l ((pre.length:Nat):Int)=c:=by rw [he];exact rdC_at pre c t
  have hk:=hc0 c (by simp)
  refine Ev.step (fun k=>by simp only [spec_l4Story.l0];rfl) ?_
  rw [hc,w64 (by omega) (by omega),show (((pre.length:Nat):Int)+1)=(((pre++[c]).length:Nat):Int) by simp]
  refine Ev.yes (by omega) (Ev.yes (by omega) (Ev.bind (spec_l4Table_ev hk) ?_))
  have hb:=ctab_lt' hk
  rw [and_nat (by omega) (by omega)]
  exact ih (pre++[c]) _ (by rw [he];simp) (fun x hx=>hc0 x (List.mem_cons_of_mem _ hx)) (and_lt ha)
theorem spec_l4Story_ev {p:Int} {l:List C} (h:sok p l=true):Ev (fun k=>spec_l4Story.f k p l) ((stab p l:Nat):Int):=by
 obtain ⟨h1,hp0,hp1,h6⟩:=sok_iff.1 h
 obtain ⟨q,rfl,hq1,hq,hq2,e⟩:=people_nat hp0 hp1
 unfold spec_l4Story.f stab
 rw [full_eq hq1 hq,e]
 exact Ev.yes (by omega) (spec_l4Story_l0 (by omega) l [] _ rfl h1 (full_lt hq))
theorem DrawLeastStory_ev {l:List Int} (hw : ∀ x∈l,(Lit.int .u8 x).wf=true) : ∃ (p:Int) (c:List S43),Ev (fun k=>spec_DrawLeastStory.f k l) (p,c)∧1≤p∧p≤4∧c.length≤7∧SmC c:=by
 obtain ⟨s,hs,ho⟩:=open_eq hw
 obtain ⟨p,c,n,h,h1,h2,h3,h4,_⟩:=l20Story_ev hs 12 (by omega) (by omega)
 refine ⟨p,c,?_,h1,h2,h3,h4⟩
 unfold spec_DrawLeastStory.f
 rw [ho]
 simp only [Option.bind_some]
 exact Ev.bind h (Ev.some _)
theorem SmC.fitL {c:List S43} (h:SmC c):Fit c:=fun x hx=>⟨by have:=(h x hx).1;omega,(h x hx).2.wf⟩
/-- All claims may be made in a world. -/
noncomputable def allMay (l:List C) (w:Nat):Bool:=l.all (fun c=>may c.f0 c.f1 w)
theorem allMay_sub {a b:List C} {w:Nat} (h : ∀ x∈a,x∈b) (hb:allMay b w=true):allMay a w=true:=by
 unfold allMay at hb ⊢
 rw [List.all_eq_true] at hb ⊢
 exact fun x hx=>hb x (h x hx)
theorem full_bit (q w:Nat):(fullT q).testBit w=decide (w<2^q):=by unfold fullT;rw [Nat.testBit_two_pow_sub_one]
theorem stabFrom_bits {p:Int} : ∀ (l:List C) (a w:Nat),(stabFrom p a l).testBit w=(a.testBit w&&l.all (fun c=>(ctab p c.f0 c.f1).testBit w))
 | [],a,w=>by simp [stabFrom]
 | c :: l,a,w=>by rw [stabFrom,stabFrom_bits l,Nat.testBit_and,List.all_cons,Bool.and_assoc]
theorem stab_tab (p:Int) (l:List C):stab p l=tabL (allMay l) (2^p.toNat):=by
 apply Nat.eq_of_testBit_eq
 intro w
 rw [stab,stabFrom_bits,full_bit,tabL_bit]
 by_cases h:w<2^p.toNat
 ·rw [decide_eq_true h,Bool.true_and,Bool.true_and]
  unfold allMay
  induction l with
  | nil=>rfl
  | cons c l ih=>rw [List.all_cons,List.all_cons,ih,ctab,tabL_bit,decide_eq_true h,Bool.true_and]
 ·rw [decide_eq_false h,Bool.false_and,Bool.false_and]
theorem stab_eq {p:Int} {a b:List C}:stab p a=stab p b ↔ ∀ w,w<2^p.toNat→allMay a w=allMay b w:=by
 rw [stab_tab,stab_tab]
 exact ⟨tabL_inj,tabL_congr⟩
/-- A story without the claim at a place. -/
def dropAt (l:List C) (i:Nat):List C:=l.take i++l.drop (i+1)
theorem dropAt_length {l:List C} {i:Nat} (h:i<l.length):(dropAt l i).length+1=l.length:=by
 unfold dropAt
 rw [List.length_append,lT,lD]
 omega
theorem dropAt_sub (l:List C) (i:Nat) : ∀ x∈dropAt l i,x∈l:=by
 intro x hx
 rcases List.mem_append.1 hx with hx|hx
 ·exact List.mem_of_mem_take hx
 ·exact List.mem_of_mem_drop hx
theorem dropAt_two {l:List C} {i j:Nat} (h:j<i) (hi:i<l.length) : ∀ x∈dropAt (dropAt l i) j,x∈dropAt l j:=by
 intro x hx
 have ht:(dropAt l i).take j=l.take j:=by
  unfold dropAt
  rw [List.take_append_of_le_length (by rw [lT];omega),List.take_take,Nat.min_eq_left (by omega)]
 have hd:(dropAt l i).drop (j+1)=(l.take i).drop (j+1)++l.drop (i+1):=by
  unfold dropAt
  rw [List.drop_append_of_le_length (by rw [lT];omega)]
 rw [dropAt,ht,hd] at hx
 rcases List.mem_append.1 hx with hx|hx
 ·exact List.mem_append_left _ hx
 ·refine List.mem_append_right _ ?_
  rcases List.mem_append.1 hx with hx|hx
  ·rw [List.drop_take] at hx
   exact List.mem_of_mem_take hx
  ·rw [show i+1=(j+1)+(i-j) by omega, ←List.drop_drop] at hx
   exact List.mem_of_mem_drop hx
theorem sok_sub {p:Int} {a b:List C} (h : ∀ x∈a,x∈b) (hl:a.length≤b.length) (hb:sok p b=true):sok p a=true:=by
 obtain ⟨h1,h2,h3,h4⟩:=sok_iff.1 hb
 exact sok_iff.2 ⟨fun c hc=>h1 c (h c hc),h2,h3,by omega⟩
theorem sok_dropAt {p:Int} {l:List C} {i:Nat} (hs:sok p l=true):sok p (dropAt l i)=true :=
 sok_sub (dropAt_sub l i) (by unfold dropAt;rw [List.length_append,lT,lD];omega) hs
/-- Leaving out more leaves more worlds. -/
theorem stab_mid {p:Int} {a b c:List C} (hab : ∀ x∈a,x∈b) (hbc : ∀ x∈b,x∈c) (h:stab p a=stab p c):stab p b=stab p c:=by
 rw [stab_eq] at h ⊢
 intro w hw
 have h1:=h w hw
 cases hc:allMay c w with
 | true=>exact allMay_sub hbc hc
 | false =>
  cases hb:allMay b w with
  | false=>rfl
  | true=>rw [allMay_sub hab hb,hc] at h1;cases h1
/-- What is left if each claim is left out that is needless then. -/
noncomputable def leastFrom (p:Int):Nat→Nat→List C→List C
 | 0,_,l=>l
 | d+1,i,l=>if stab p (dropAt l i)=stab p l then leastFrom p d i (dropAt l i) else leastFrom p d (i+1) l
theorem least_stab (p:Int) : ∀ (d i:Nat) (l:List C),stab p (leastFrom p d i l)=stab p l
 | 0,_,_=>rfl
 | d+1,i,l=>by
  rw [leastFrom]
  by_cases h:stab p (dropAt l i)=stab p l
  ·rw [if_pos h,least_stab p d,h]
  ·rw [if_neg h,least_stab p d]
theorem least_sub (p:Int) : ∀ (d i:Nat) (l:List C),(∀ x∈leastFrom p d i l,x∈l)∧(leastFrom p d i l).length≤l.length
 | 0,_,_=>⟨fun _ h=>h,Nat.le_refl _⟩
 | d+1,i,l=>by
  rw [leastFrom]
  by_cases h:stab p (dropAt l i)=stab p l
  ·rw [if_pos h]
   have ih:=least_sub p d i (dropAt l i)
   refine ⟨fun x hx=>dropAt_sub l i x (ih.1 x hx),Nat.le_trans ih.2 ?_⟩
   unfold dropAt
   rw [List.length_append,lT,lD]
   omega
  ·rw [if_neg h]
   exact least_sub p d (i+1) l
theorem least_needs (p:Int) : ∀ (d i:Nat) (l:List C),d+i=l.length→(∀ j,j<i→stab p (dropAt l j)≠stab p l) →
  ∀ j,j<(leastFrom p d i l).length→stab p (dropAt (leastFrom p d i l) j)≠stab p (leastFrom p d i l)
 | 0,i,l,hd,hj=>fun j hjl=>hj j (by rw [leastFrom] at hjl;omega)
 | d+1,i,l,hd,hj=>by
  rw [leastFrom]
  by_cases h:stab p (dropAt l i)=stab p l
  ·rw [if_pos h]
   have hlen:=dropAt_length (l:=l) (i:=i) (by omega)
   refine least_needs p d i (dropAt l i) (by omega) (fun j hji he=>hj j hji ?_)
   rw [h] at he
   exact stab_mid (dropAt_two hji (by omega)) (dropAt_sub l j) he
  ·rw [if_neg h]
   refine least_needs p d (i+1) l (by omega) (fun j hji=>?_)
   by_cases e:j=i
   ·subst e;exact h
   ·exact hj j (by omega)
theorem least_stays (p:Int) : ∀ (d i:Nat) (l:List C),d+i=l.length→(∀ j,j<l.length→stab p (dropAt l j)≠stab p l)→leastFrom p d i l=l
 | 0,_,_,_,_=>rfl
 | d+1,i,l,hd,hj=>by
  rw [leastFrom,if_neg (hj i (by omega))]
  exact least_stays p d (i+1) l (by omega) hj
noncomputable def lstOf (p:Int) (l:List C):List C:=leastFrom p l.length 0 l
/-- The places of the needless claims. -/
noncomputable def needFrom (p:Int) (l:List C):Nat→Nat→List Int→List Int
 | 0,_,acc=>acc
 | d+1,i,acc=>needFrom p l d (i+1) (if stab p (dropAt l i)=stab p l then acc++[(i:Int)] else acc)
theorem needFrom_none (p:Int) (l:List C) (h : ∀ j,j<l.length→stab p (dropAt l j)≠stab p l) : ∀ (d i:Nat) (acc:List Int),d+i=l.length→needFrom p l d i acc=acc
 | 0,_,_,_=>rfl
 | d+1,i,acc,hd=>by
  rw [needFrom,if_neg (h i (by omega))]
  exact needFrom_none p l h d (i+1) acc (by omega)
noncomputable def needOf (p:Int) (l:List C):List Int:=if sok p l=true then needFrom p l l.length 0 [] else []
theorem cloneC_eq (u:List C) (h:u.length≤1000000):impl_Claim.f u=some u:=by
 unfold impl_Claim.f
 simp only [Option.bind_some,List.length_nil,List.nil_append]
 rw [if_pos (by omega)]
theorem impl_without_eq (l:List C) {i:Nat} (hi:i<l.length) (hl:l.length≤1000000):impl_without.f l (i:Int)=some (dropAt l i):=by
 unfold impl_without.f
 have h1:(0:Int)≤(i:Int):=by omega
 have h2:(i:Int)≤(l.length:Int):=by omega
 have h3:wrap64 ((i:Int)+1)=(i:Int)+1:=w64 (by omega) (by omega)
 have h4:(0:Int)≤(i:Int)+1:=by omega
 have h5:(i:Int)+1≤(l.length:Int):=by omega
 have h6:((i:Int)+1).toNat=i+1:=by omega
 have h7:(l.take i).length+(l.drop (i+1)).length<4398046511104:=by rw [lT,lD];omega
 have h8:impl_Claim.f (l.take i)=some (l.take i):=cloneC_eq _ (by rw [lT];omega)
 simp only [h3,h6,Int.toNat_natCast,if_pos h1,if_pos h2,if_pos h4,if_pos h5,h8,Option.bind_some,if_pos h7]
 rfl
theorem spec_without_eq (l:List C) {i:Nat} (hi:i<l.length) (hl:l.length≤1000000):spec_l5Without.f l (i:Int)=some (dropAt l i):=by
 unfold spec_l5Without.f
 have h1:(0:Int)≤(i:Int):=by omega
 have h2:(i:Int)≤(l.length:Int):=by omega
 have h3:wrap64 ((i:Int)+1)=(i:Int)+1:=w64 (by omega) (by omega)
 have h4:(0:Int)≤(i:Int)+1:=by omega
 have h5:(i:Int)+1≤(l.length:Int):=by omega
 have h6:((i:Int)+1).toNat=i+1:=by omega
 have h7:(l.take i).length+(l.drop (i+1)).length<4398046511104:=by rw [lT,lD];omega
 have h8:0+(l.take i).length<4398046511104:=by rw [lT];omega
 simp only [h3,h6,Int.toNat_natCast,Option.bind_some,List.length_nil,List.nil_append,if_pos h1,if_pos h2,if_pos h4,if_pos h5,if_pos h8,if_pos h7]
 rfl
end Go.Proofs.Ytofcmhpoebbnoaa.L
namespace Go.Proofs.Ytofcmhpoebbnoaa.X
open Go.RowKit Go.Proofs.YtofcmhpoebbnoaaW.PrintWords Go.Proofs.YtofcmhpoebbnoaaW.PrintLast Go.Proofs.YtofcmhpoebbnoaaW.PrintMore
open Go.Proofs.YtofcmhpoebbnoaaW.PrintWords renaming Aside0.mk → mA, pw_below_drewN → bN, below_drew1 → bD, below_alloc → bA, below_set → bS, blk_alloc → kA, blk_drewN → kN, blk_drew → kD, blk_cell → kC, blk_frozen → kF, below_size → bZ, below_step → bT, Kd.R_alloc → rA, Kd.R_drewN → rN, Kd.R_drew → rD, Kd.R_mono → rM, Kd.R_reads' → rR, Kd.R_far → rF, Kd.R_lt → rL, Kd.R_below → rB, Kd.N_alloc → nA, Kd.N_drewN → nN, Kd.N_drew → nD, Kd.C_alloc → cA, Kd.C_drewN → cN, Kd.C_drew → cD
open List renaming setIfInBounds_toArray → sA, set_cons_zero → sZ, set_cons_succ → sS, length_take → lT, length_drop → lD, map_toArray → mT, map_cons → mC, map_nil → mN
attribute [local go_sem] max2_int min2_int max_two min_two max_three min_three max_four min_four   -- for this text's walks alone
set_option linter.unusedVariables false
set_option linter.unusedSimpArgs false
/-! ### impl_claimBy: function 74 -/
def impl_claimBy.f (k:Nat) (a0:Int) (a1:Int) (l2:List (S83)):Option (Int×(List (S83))×Bool):=(impl_Mark.f l2).bind fun t102=>((impl_ClaimOk.f k a0 a1 t102).bind fun t106=>(if t106=true then (some (a1,t102,true)) else (some (0,([]:List (S83)),false))))
theorem impl_claimBy.mono : ∀ a0 a1 a2 k,LeO (impl_claimBy.f k a0 a1 a2) (impl_claimBy.f (k+1) a0 a1 a2):=by
 intro a0 a1 a2 k
 unfold impl_claimBy.f
 repeat' first
   | (with_reducible exact impl_ClaimOk.mono _ _ _ _)
   | (with_reducible exact LeO.refl _)
   | (with_reducible exact LeO.none _)
   | (with_reducible refine LeO.ite ?_ ?_)
   | (with_reducible refine LeO.bind ?_ (fun _=>?_))
   | exact impl_ClaimOk.mono _ _ _ _
   | exact LeO.none _
   | refine LeO.ite ?_ ?_
   | refine LeO.bind ?_ (fun _=>?_)
set_option maxHeartbeats 8000000 in
set_option maxRecDepth 100000 in
theorem impl_claimBy.calls (k:Nat) (a0:Int) (a1:Int) (A2:Option Addr) (c2:Nat) (l2:List (S83)) (r1:Int) (r2:List (S83)) (r3:Bool) (w:World) (hr2:Kd.C k83 w A2 l2.length l2) (hc2:l2.length≤c2) (h:impl_claimBy.f k a0 a1 l2=some (r1,r2,r3)) :
  Calls Try.prog 74 #[.int .i64 a0,.int .i64 a1,.slice A2 l2.length c2] w fun e w'=>∃ v1_:Value,e = .returned (.tuple #[.agg #[.int .i64 r1,v1_],.bool r3])∧Kd.R k83 83 w' w.heap.size (fun _=>True) v1_ r2∧Below w.heap.size w w':=by
 have hu43:=Try.underlying43
 have HR2:=mA hr2
 have HC2:=mA hc2
 clear hr2 hc2
 have HB:=mA (Below.refl w.heap.size w)
 have H:((impl_Mark.f l2).bind fun t102=>((impl_ClaimOk.f k a0 a1 t102).bind fun t106=>(if t106=true then (some (a1,t102,true)) else (some (0,([]:List (S83)),false)))))=some (r1,r2,r3):=h
 clear h
 replace H:=Option.bind_eq_some_iff.mp H
 obtain ⟨t102,A40,H⟩:=H
 replace H:((impl_ClaimOk.f k a0 a1 t102).bind fun t106=>(if t106=true then (some (a1,t102,true)) else (some (0,([]:List (S83)),false))))=some (r1,r2,r3):=H
 have A4:=mA A40
 clear A40
 replace H:=Option.bind_eq_some_iff.mp H
 obtain ⟨t106,A50,H⟩:=H
 replace H:(if t106=true then (some (a1,t102,true)) else (some (0,([]:List (S83)),false)))=some (r1,r2,r3):=H
 have A5:=mA A50
 clear A50
 by_cases c6:t106=true
 ·subst c6
  have H1:(some (a1,t102,true))=some (r1,r2,r3):=by rw [if_pos rfl] at H;exact H
  clear H
  have H:=H1
  clear H1
  simp only [Option.some.injEq,Prod.mk.injEq] at H
  obtain ⟨rfl,rfl,rfl⟩:=H
  go_enter Try.func74,Try.ntmps74
  go_wp2_with (first|((with_reducible refine gate_dst (N:=6) rfl ?_);refine box_event ?hg (N:=6) ?hd (cs:=#[.int .i64 0,.slice none 0 0]) (t:=43) ?hr ?_;(case hd=>rfl);(case hg=>rfl);(case hr=>first|(go_simp;done)|(go_simp;rfl));intro gb101 hg w7 hbox hb;have n0_:=mA (bT (by repeat (first|(with_reducible first|exact HB.out|apply bA|apply bN|apply bD)|exact HB.out)) hb);have n1_:=mA (hbox);have n2_:=mA ((by rw [hg];exact (bZ (by repeat (first|(with_reducible first|exact HB.out|apply bA|apply bN|apply bD)|exact HB.out))):w.heap.size≤gb101));have n3_:=mA ((by rw [hg];exact (bZ (by repeat (first|(with_reducible first|exact HB.out|apply bA|apply bN|apply bD)|exact HB.out))):w.heap.size≤gb101));clear HB;have HB:=n0_;have BK101:=n1_;have GW101:=n2_;have GE101:=n3_;clear n0_ n1_ n2_ n3_ hb hbox hg)|((with_reducible refine gate_callee (f:=83) rfl ?_);refine goesL_ (some 11) rfl rfl Try.func83 (by kernel_rfl) rfl #[.slice A2 l2.length c2] rfl (by (try simp only [mT,mC,mN]);first|done|rfl|(simp only [lD,lT];rfl)) ?_;(with_reducible refine (impl_Mark.calls _ _ l2 t102 _ ?side1 ?side2 A4.out).mono ?_);(case side1=>repeat (first|exact (Kd.C_below HR2.out HB.out)|(with_reducible refine cA ?_ _)|(with_reducible refine cN ?_ _)|(with_reducible refine cD ?_)));(case side2=>exact HC2.out);rintro e w8 ⟨v103,rfl,ho0,hb⟩;refine ⟨_,rfl,?_⟩;have n0_:=mA (Kd.R_lower ho0 (bZ (by repeat (first|(with_reducible first|exact HB.out|apply bA|apply bN|apply bD|refine bS ?_ GE101.out)|exact HB.out))));have n1_:=mA (blk_below (g:=gb101) (o:=.cells #[.int .i64 0,.slice none 0 0] 43 (0,0)) (by (with_reducible repeat (first|refine kN ?_ _|refine kD ?_|refine kA ?_ _));exact BK101.out) hb);have n2_:=mA (bT (by repeat (first|(with_reducible first|exact HB.out|apply bA|apply bN|apply bD|refine bS ?_ GE101.out)|exact HB.out)) hb);clear BK101 HB;have HO104:=n0_;have BK101:=n1_;have HB:=n2_;clear n0_ n1_ n2_;(try clear hb);(try clear hb2);(try clear hk);(try clear hi);(try clear ho0);obtain ⟨Ao9,co9,eo9⟩:=Kd.R_slice HO104.out;subst eo9)|((with_reducible refine gate_dst (N:=8) rfl ?_);refine box_event ?hg (N:=8) ?hd (cs:=#[.int .i64 0,.slice none 0 0]) (t:=43) ?hr ?_;(case hd=>rfl);(case hg=>rfl);(case hr=>first|(go_simp;done)|(go_simp;rfl));intro gb105 hg w10 hbox hb;have n0_:=mA (rB (by (with_reducible repeat (first|apply rA|apply rN|apply rD));exact HO104.out) hb);have n1_:=mA (blk_below (g:=gb101) (o:=.cells #[.int .i64 0,.slice none 0 0] 43 (0,0)) (by (with_reducible repeat (first|refine kN ?_ _|refine kD ?_|refine kA ?_ _));exact BK101.out) hb);have n2_:=mA (bT (by repeat (first|(with_reducible first|exact HB.out|apply bA|apply bN|apply bD|refine bS ?_ GE101.out)|exact HB.out)) hb);have n3_:=mA (hbox);have n4_:=mA ((by rw [hg];exact (bZ (by repeat (first|(with_reducible first|exact HB.out|apply bA|apply bN|apply bD|refine bS ?_ GE101.out)|exact HB.out))):w.heap.size≤gb105));have n5_:=mA ((by rw [hg];exact (bZ (by repeat (first|(with_reducible first|exact HB.out|apply bA|apply bN|apply bD|refine bS ?_ GE101.out)|exact HB.out))):w.heap.size≤gb105));have n6_:=mA ((by rw [hg];exact Nat.ne_of_lt (blk_lt (g:=gb101) (o:=.cells #[.int .i64 0,.slice none 0 0] 43 (0,0)) (by (with_reducible repeat (first|refine kN ?_ _|refine kD ?_|refine kA ?_ _));exact BK101.out)):gb101≠gb105));have n7_:=mA ((by rw [hg];exact Nat.ne_of_gt (blk_lt (g:=gb101) (o:=.cells #[.int .i64 0,.slice none 0 0] 43 (0,0)) (by (with_reducible repeat (first|refine kN ?_ _|refine kD ?_|refine kA ?_ _));exact BK101.out)):gb105≠gb101));clear HO104 BK101 HB;have HO104:=n0_;have BK101:=n1_;have HB:=n2_;have BK105:=n3_;have GW105:=n4_;have GE105:=n5_;have NB101_105:=n6_;have NB105_101:=n7_;clear n0_ n1_ n2_ n3_ n4_ n5_ n6_ n7_ hb hbox hg;have hnb11:=NB105_101.out;have hnc11:=NB101_105.out;have hcz12_0:w10.cell? ⟨gb105,0,none⟩=some (.int .i64 0):=(kC BK105.out 0).trans rfl;have hcz12_1:w10.cell? ⟨gb105,1,none⟩=some (.slice none 0 0):=(kC BK105.out 1).trans rfl;have hfz12_0:=kF BK105.out 0;have hfz12_1:=kF BK105.out 1)|((with_reducible refine gate_callee (f:=82) rfl ?_);refine goesL_ (some 15) rfl rfl Try.func82 (by kernel_rfl) rfl #[.int .i64 a0,.agg #[.int .i64 a1,.slice Ao9 t102.length co9]] rfl (by (try simp only [mT,mC,mN]);first|done|rfl|(simp only [lD,lT];rfl)) ?_;(with_reducible refine (impl_ClaimOk.calls k a0 a1 _ _ t102 true _ ?side1 ?side2 A5.out).mono ?_);(case side1=>refine (rR (e:=83) (base:=w.heap.size) (ok:=fun k_=>True) (n:=t102.length) (c:=co9) ?_).2.2;exact (by (with_reducible repeat (first|apply rA|apply rN|apply rD));exact (rM (rF (p:=⟨gb105,1,none⟩) (rF (p:=⟨gb105,0,none⟩) (Kd.R_types HO104.out BK105.out (by decide)) (fun _ hk=>hk.2) (.int .i64 a1)) (fun _ hk=>hk.2) (.slice Ao9 t102.length co9)) (fun _ h_=>h_.1))));(case side2=>exact (rR HO104.out).2.1);rintro e w13 ⟨rfl,hb⟩;refine ⟨_,rfl,?_⟩;have n0_:=mA (rB (by (with_reducible repeat (first|apply rA|apply rN|apply rD));exact (rM (rF (p:=⟨gb105,1,none⟩) (rF (p:=⟨gb105,0,none⟩) (Kd.R_types HO104.out BK105.out (by decide)) (fun _ hk=>hk.2) (.int .i64 a1)) (fun _ hk=>hk.2) (.slice Ao9 t102.length co9)) (fun _ h_=>h_.1))) hb);have n1_:=mA (blk_below (g:=gb101) (o:=.cells #[.int .i64 0,.slice none 0 0] 43 (0,0)) (by (with_reducible repeat (first|refine kN ?_ _|refine kD ?_|refine kA ?_ _));refine blk_far ?_ NB101_105.out _;(with_reducible repeat (first|refine kN ?_ _|refine kD ?_|refine kA ?_ _));refine blk_far ?_ NB101_105.out _;(with_reducible repeat (first|refine kN ?_ _|refine kD ?_|refine kA ?_ _));exact BK101.out) hb);have n2_:=mA (blk_below (g:=gb105) (o:=.cells #[.int .i64 a1,.slice Ao9 t102.length co9] 43 (0,0)) (by (with_reducible repeat (first|refine kN ?_ _|refine kD ?_|refine kA ?_ _));refine blk_put (cs:=#[.int .i64 a1,.slice none 0 0]) ?_ 1 _ rfl;(with_reducible repeat (first|refine kN ?_ _|refine kD ?_|refine kA ?_ _));refine blk_put (cs:=#[.int .i64 0,.slice none 0 0]) ?_ 0 _ rfl;(with_reducible repeat (first|refine kN ?_ _|refine kD ?_|refine kA ?_ _));exact BK105.out) hb);have n3_:=mA (bT (by repeat (first|(with_reducible first|exact HB.out|apply bA|apply bN|apply bD|refine bS ?_ GE101.out|refine bS ?_ GE105.out)|exact HB.out)) hb);clear HO104 BK101 BK105 HB;have HO104:=n0_;have BK101:=n1_;have BK105:=n2_;have HB:=n3_;clear n0_ n1_ n2_ n3_;(try clear hb);(try clear hb2);(try clear hk);(try clear hi);have hcz14_0:w13.cell? ⟨gb105,0,none⟩=some (.int .i64 a1):=(kC BK105.out 0).trans rfl;have hcz14_1:w13.cell? ⟨gb105,1,none⟩=some (.slice Ao9 t102.length co9):=(kC BK105.out 1).trans rfl;have hfz14_0:=kF BK105.out 0;have hfz14_1:=kF BK105.out 1;have hcz15_0:w13.cell? ⟨gb101,0,none⟩=some (.int .i64 0):=(kC BK101.out 0).trans rfl;have hcz15_1:w13.cell? ⟨gb101,1,none⟩=some (.slice none 0 0):=(kC BK101.out 1).trans rfl;have hfz15_0:=kF BK101.out 0;have hfz15_1:=kF BK101.out 1))
  refine bodyPost_ret (results_ct rfl _ _ gb101 43 #[.int .i64 a1,.slice Ao9 t102.length co9] (0,0) _ rfl (by (with_reducible repeat (first|refine kN ?_ _|refine kD ?_|refine kA ?_ _));refine blk_put (cs:=#[.int .i64 a1,.slice none 0 0]) ?_ 1 _ rfl;(with_reducible repeat (first|refine kN ?_ _|refine kD ?_|refine kA ?_ _));refine blk_put (cs:=#[.int .i64 0,.slice none 0 0]) ?_ 0 _ rfl;(with_reducible repeat (first|refine kN ?_ _|refine kD ?_|refine kA ?_ _));exact BK101.out) Try.underlying43 rfl (by kernel_rfl)) rfl ?_
  exact ⟨_,by first|rfl|(simp [errW_none,errW_some]<;>rfl)|(simp [*, errW_none,errW_some]<;>rfl),by (with_reducible repeat (first|apply rA|apply rN|apply rD));exact rM (rF (p:=⟨gb101,1,none⟩) (rF (p:=⟨gb101,0,none⟩) (Kd.R_types HO104.out BK101.out (by decide)) (fun _ hk=>hk.2) (.int .i64 a1)) (fun _ hk=>hk.2) (.slice Ao9 t102.length co9)) (fun _ hk=>trivial),by repeat (first|(with_reducible first|exact HB.out|apply bA|apply bN|apply bD|refine bS ?_ GE101.out|refine bS ?_ GE105.out)|exact HB.out)⟩
 ·replace c6:=Bool.eq_false_iff.mpr c6
  subst c6
  have H1:(some (0,([]:List (S83)),false))=some (r1,r2,r3):=by rw [if_neg (show ¬ (false=true) by decide)] at H;exact H
  clear H
  have H:=H1
  clear H1
  simp only [Option.some.injEq,Prod.mk.injEq] at H
  obtain ⟨rfl,rfl,rfl⟩:=H
  go_enter Try.func74,Try.ntmps74
  go_wp2_with (first|((with_reducible refine gate_dst (N:=6) rfl ?_);refine box_event ?hg (N:=6) ?hd (cs:=#[.int .i64 0,.slice none 0 0]) (t:=43) ?hr ?_;(case hd=>rfl);(case hg=>rfl);(case hr=>first|(go_simp;done)|(go_simp;rfl));intro gb101 hg w16 hbox hb;have n0_:=mA (bT (by repeat (first|(with_reducible first|exact HB.out|apply bA|apply bN|apply bD)|exact HB.out)) hb);have n1_:=mA (hbox);have n2_:=mA ((by rw [hg];exact (bZ (by repeat (first|(with_reducible first|exact HB.out|apply bA|apply bN|apply bD)|exact HB.out))):w.heap.size≤gb101));have n3_:=mA ((by rw [hg];exact (bZ (by repeat (first|(with_reducible first|exact HB.out|apply bA|apply bN|apply bD)|exact HB.out))):w.heap.size≤gb101));clear HB;have HB:=n0_;have BK101:=n1_;have GW101:=n2_;have GE101:=n3_;clear n0_ n1_ n2_ n3_ hb hbox hg)|((with_reducible refine gate_callee (f:=83) rfl ?_);refine goesL_ (some 11) rfl rfl Try.func83 (by kernel_rfl) rfl #[.slice A2 l2.length c2] rfl (by (try simp only [mT,mC,mN]);first|done|rfl|(simp only [lD,lT];rfl)) ?_;(with_reducible refine (impl_Mark.calls _ _ l2 t102 _ ?side1 ?side2 A4.out).mono ?_);(case side1=>repeat (first|exact (Kd.C_below HR2.out HB.out)|(with_reducible refine cA ?_ _)|(with_reducible refine cN ?_ _)|(with_reducible refine cD ?_)));(case side2=>exact HC2.out);rintro e w17 ⟨v103,rfl,ho0,hb⟩;refine ⟨_,rfl,?_⟩;have n0_:=mA (Kd.R_lower ho0 (bZ (by repeat (first|(with_reducible first|exact HB.out|apply bA|apply bN|apply bD|refine bS ?_ GE101.out)|exact HB.out))));have n1_:=mA (blk_below (g:=gb101) (o:=.cells #[.int .i64 0,.slice none 0 0] 43 (0,0)) (by (with_reducible repeat (first|refine kN ?_ _|refine kD ?_|refine kA ?_ _));exact BK101.out) hb);have n2_:=mA (bT (by repeat (first|(with_reducible first|exact HB.out|apply bA|apply bN|apply bD|refine bS ?_ GE101.out)|exact HB.out)) hb);clear BK101 HB;have HO104:=n0_;have BK101:=n1_;have HB:=n2_;clear n0_ n1_ n2_;(try clear hb);(try clear hb2);(try clear hk);(try clear hi);(try clear ho0);obtain ⟨Ao18,co18,eo18⟩:=Kd.R_slice HO104.out;subst eo18)|((with_reducible refine gate_dst (N:=8) rfl ?_);refine box_event ?hg (N:=8) ?hd (cs:=#[.int .i64 0,.slice none 0 0]) (t:=43) ?hr ?_;(case hd=>rfl);(case hg=>rfl);(case hr=>first|(go_simp;done)|(go_simp;rfl));intro gb105 hg w19 hbox hb;have n0_:=mA (rB (by (with_reducible repeat (first|apply rA|apply rN|apply rD));exact HO104.out) hb);have n1_:=mA (blk_below (g:=gb101) (o:=.cells #[.int .i64 0,.slice none 0 0] 43 (0,0)) (by (with_reducible repeat (first|refine kN ?_ _|refine kD ?_|refine kA ?_ _));exact BK101.out) hb);have n2_:=mA (bT (by repeat (first|(with_reducible first|exact HB.out|apply bA|apply bN|apply bD|refine bS ?_ GE101.out)|exact HB.out)) hb);have n3_:=mA (hbox);have n4_:=mA ((by rw [hg];exact (bZ (by repeat (first|(with_reducible first|exact HB.out|apply bA|apply bN|apply bD|refine bS ?_ GE101.out)|exact HB.out))):w.heap.size≤gb105));have n5_:=mA ((by rw [hg];exact (bZ (by repeat (first|(with_reducible first|exact HB.out|apply bA|apply bN|apply bD|refine bS ?_ GE101.out)|exact HB.out))):w.heap.size≤gb105));have n6_:=mA ((by rw [hg];exact Nat.ne_of_lt (blk_lt (g:=gb101) (o:=.cells #[.int .i64 0,.slice none 0 0] 43 (0,0)) (by (with_reducible repeat (first|refine kN ?_ _|refine kD ?_|refine kA ?_ _));exact BK101.out)):gb101≠gb105));have n7_:=mA ((by rw [hg];exact Nat.ne_of_gt (blk_lt (g:=gb101) (o:=.cells #[.int .i64 0,.slice none 0 0] 43 (0,0)) (by (with_reducible repeat (first|refine kN ?_ _|refine kD ?_|refine kA ?_ _));exact BK101.out)):gb105≠gb101));clear HO104 BK101 HB;have HO104:=n0_;have BK101:=n1_;have HB:=n2_;have BK105:=n3_;have GW105:=n4_;have GE105:=n5_;have NB101_105:=n6_;have NB105_101:=n7_;clear n0_ n1_ n2_ n3_ n4_ n5_ n6_ n7_ hb hbox hg;have hnb20:=NB105_101.out;have hnc20:=NB101_105.out;have hcz21_0:w19.cell? ⟨gb105,0,none⟩=some (.int .i64 0):=(kC BK105.out 0).trans rfl;have hcz21_1:w19.cell? ⟨gb105,1,none⟩=some (.slice none 0 0):=(kC BK105.out 1).trans rfl;have hfz21_0:=kF BK105.out 0;have hfz21_1:=kF BK105.out 1)|((with_reducible refine gate_callee (f:=82) rfl ?_);refine goesL_ (some 15) rfl rfl Try.func82 (by kernel_rfl) rfl #[.int .i64 a0,.agg #[.int .i64 a1,.slice Ao18 t102.length co18]] rfl (by (try simp only [mT,mC,mN]);first|done|rfl|(simp only [lD,lT];rfl)) ?_;(with_reducible refine (impl_ClaimOk.calls k a0 a1 _ _ t102 false _ ?side1 ?side2 A5.out).mono ?_);(case side1=>refine (rR (e:=83) (base:=w.heap.size) (ok:=fun k_=>True) (n:=t102.length) (c:=co18) ?_).2.2;exact (by (with_reducible repeat (first|apply rA|apply rN|apply rD));exact (rM (rF (p:=⟨gb105,1,none⟩) (rF (p:=⟨gb105,0,none⟩) (Kd.R_types HO104.out BK105.out (by decide)) (fun _ hk=>hk.2) (.int .i64 a1)) (fun _ hk=>hk.2) (.slice Ao18 t102.length co18)) (fun _ h_=>h_.1))));(case side2=>exact (rR HO104.out).2.1);rintro e w22 ⟨rfl,hb⟩;refine ⟨_,rfl,?_⟩;have n0_:=mA (rB (by (with_reducible repeat (first|apply rA|apply rN|apply rD));exact (rM (rF (p:=⟨gb105,1,none⟩) (rF (p:=⟨gb105,0,none⟩) (Kd.R_types HO104.out BK105.out (by decide)) (fun _ hk=>hk.2) (.int .i64 a1)) (fun _ hk=>hk.2) (.slice Ao18 t102.length co18)) (fun _ h_=>h_.1))) hb);have n1_:=mA (blk_below (g:=gb101) (o:=.cells #[.int .i64 0,.slice none 0 0] 43 (0,0)) (by (with_reducible repeat (first|refine kN ?_ _|refine kD ?_|refine kA ?_ _));refine blk_far ?_ NB101_105.out _;(with_reducible repeat (first|refine kN ?_ _|refine kD ?_|refine kA ?_ _));refine blk_far ?_ NB101_105.out _;(with_reducible repeat (first|refine kN ?_ _|refine kD ?_|refine kA ?_ _));exact BK101.out) hb);have n2_:=mA (blk_below (g:=gb105) (o:=.cells #[.int .i64 a1,.slice Ao18 t102.length co18] 43 (0,0)) (by (with_reducible repeat (first|refine kN ?_ _|refine kD ?_|refine kA ?_ _));refine blk_put (cs:=#[.int .i64 a1,.slice none 0 0]) ?_ 1 _ rfl;(with_reducible repeat (first|refine kN ?_ _|refine kD ?_|refine kA ?_ _));refine blk_put (cs:=#[.int .i64 0,.slice none 0 0]) ?_ 0 _ rfl;(with_reducible repeat (first|refine kN ?_ _|refine kD ?_|refine kA ?_ _));exact BK105.out) hb);have n3_:=mA (bT (by repeat (first|(with_reducible first|exact HB.out|apply bA|apply bN|apply bD|refine bS ?_ GE101.out|refine bS ?_ GE105.out)|exact HB.out)) hb);clear HO104 BK101 BK105 HB;have HO104:=n0_;have BK101:=n1_;have BK105:=n2_;have HB:=n3_;clear n0_ n1_ n2_ n3_;(try clear hb);(try clear hb2);(try clear hk);(try clear hi);have hcz23_0:w22.cell? ⟨gb101,0,none⟩=some (.int .i64 0):=(kC BK101.out 0).trans rfl;have hcz23_1:w22.cell? ⟨gb101,1,none⟩=some (.slice none 0 0):=(kC BK101.out 1).trans rfl;have hfz23_0:=kF BK101.out 0;have hfz23_1:=kF BK101.out 1))
  refine bodyPost_ret (results_ct rfl _ _ gb101 43 #[.int .i64 0,.slice none 0 0] (0,0) _ rfl (by (with_reducible repeat (first|refine kN ?_ _|refine kD ?_|refine kA ?_ _));refine blk_put (cs:=#[.int .i64 0,.slice none 0 0]) ?_ 1 _ rfl;(with_reducible repeat (first|refine kN ?_ _|refine kD ?_|refine kA ?_ _));refine blk_put (cs:=#[.int .i64 0,.slice none 0 0]) ?_ 0 _ rfl;(with_reducible repeat (first|refine kN ?_ _|refine kD ?_|refine kA ?_ _));exact BK101.out) Try.underlying43 rfl (by kernel_rfl)) rfl ?_
  exact ⟨_,by first|rfl|(simp [errW_none,errW_some]<;>rfl)|(simp [*, errW_none,errW_some]<;>rfl),by first|exact Kd.R_nil _ _ _ _ _|exact Kd.N_nil _ _ _ _ _|exact Kd.V_nil _ _ _ _ _|exact Kd.Q_nil _ _ _ _ _|exact Kd.S_nil _ _ _ _ _,by repeat (first|(with_reducible first|exact HB.out|apply bA|apply bN|apply bD|refine bS ?_ GE101.out|refine bS ?_ GE105.out)|exact HB.out)⟩
end Go.Proofs.Ytofcmhpoebbnoaa.X
/- Plain law of making a claim. -/
namespace Go.Proofs.Ytofcmhpoebbnoaa.L
open Go.RowKit Go.Proofs.Ytofcmhpoebbnoaa.X Go.Proofs.YtofcmhpoebbnoaaW.PrintWords Go.Proofs.YtofcmhpoebbnoaaW.PrintLast Go.Proofs.YtofcmhpoebbnoaaW.PrintMore
open Go.Proofs.YtofcmhpoebbnoaaW.PrintWords renaming Aside0.mk → mA, pw_below_drewN → bN, below_drew1 → bD, below_alloc → bA, below_set → bS, blk_alloc → kA, blk_drewN → kN, blk_drew → kD, blk_cell → kC, blk_frozen → kF, below_size → bZ, below_step → bT, Kd.R_alloc → rA, Kd.R_drewN → rN, Kd.R_drew → rD, Kd.R_mono → rM, Kd.R_reads' → rR, Kd.R_far → rF, Kd.R_lt → rL, Kd.R_below → rB, Kd.N_alloc → nA, Kd.N_drewN → nN, Kd.N_drew → nD, Kd.C_alloc → cA, Kd.C_drewN → cN, Kd.C_drew → cD
open List renaming setIfInBounds_toArray → sA, set_cons_zero → sZ, set_cons_succ → sS, length_take → lT, length_drop → lD, map_toArray → mT, map_cons → mC, map_nil → mN
theorem clone_eq' (t:List M) (ht:t.length≤4611686018427):impl_Mark.f t=some t:=by
 unfold impl_Mark.f
 simp only [Option.bind_some,List.length_nil,List.nil_append]
 rw [if_pos (by omega)]
theorem copy_l {l:List C} (hl:l.length≤1000) (hc : ∀ c∈l,c.f1.length≤1000) : ∀ (suf pre:List C),l=pre++suf →
  Ev (fun k=>impl_copyStory.l0 k pre l (l.length:Int) ((pre.length:Nat):Int)) l:=by
 intro suf
 induction suf with
 | nil =>
  intro pre he
  rw [List.append_nil] at he
  subst he
  exact Ev.step (fun k=>by simp only [impl_copyStory.l0];rfl) (Ev.no (by omega) (Ev.some _))
 | cons c suf ih =>
  intro pre he
  have hle:l.length=pre.length+(suf.length+1):=by rw [he];simp
  have hx:rd_T43 l ((pre.length:Nat):Int)=c:=by rw [he];exact rdC_at pre c suf
  have hcl:=hc c (by rw [he];simp)
  refine Ev.step (fun k=>by simp only [impl_copyStory.l0];rfl) ?_
  rw [hx,clone_eq' c.f1 (by omega),w64 (by omega) (by omega),show (((pre.length:Nat):Int)+1)=(((pre++[c]).length:Nat):Int) by simp]
  simp only [Option.bind_some]
  exact Ev.yes (by omega) (Ev.yes (by omega) (Ev.yes (by omega) (Ev.yes (by omega) (ih (pre++[c]) (by rw [he];simp)))))
theorem copy_ev {p:Int} {l:List C} (hs:sok p l=true):Ev (fun k=>impl_copyStory.f k l) l:=by
 obtain ⟨h1,_,_,h6⟩:=sok_iff.1 hs
 unfold impl_copyStory.f
 exact copy_l (by omega) (fun c hc=>by have:=(clok_iff.1 (h1 c hc)).2.2.2;omega) l [] rfl
noncomputable def leastR (p:Int) (l:List C):List C×Bool:=if sok p l=true then (lstOf p l,true) else ([],false)
theorem impl_Least_l {p:Int} : ∀ (d i:Nat) (l:List C),sok p l=true→d+i=l.length→Ev (fun k=>impl_LeastStory.l0 k p l (i:Int)) (leastFrom p d i l,true):=by
 intro d
 induction d with
 | zero =>
  intro i l hs hd
  exact Ev.step (fun k=>by simp only [impl_LeastStory.l0];rfl) (Ev.no (by omega) (Ev.bind (copy_ev hs) (Ev.some _)))
 | succ d ih =>
  intro i l hs hd
  have h6:=(sok_iff.1 hs).2.2.2
  refine Ev.step (fun k=>by simp only [impl_LeastStory.l0];rfl) (Ev.yes (by omega) ?_)
  rw [impl_without_eq l (by omega) (by omega),w64 (by omega) (by omega),show ((i:Int)+1)=((i+1:Nat):Int) by omega,leastFrom]
  simp only [Option.bind_some]
  refine Ev.bind (impl_storyTable_ev (sok_dropAt hs)) (Ev.bind (impl_storyTable_ev hs) ?_)
  by_cases h:stab p (dropAt l i)=stab p l
  ·rw [if_pos h]
   have:=dropAt_length (l:=l) (i:=i) (by omega)
   exact Ev.yes (by rw [h]) (ih i (dropAt l i) (sok_dropAt hs) (by omega))
  ·rw [if_neg h]
   exact Ev.no (by omega) (ih (i+1) l hs (by omega))
theorem impl_Least_ev (p:Int) (l:List C) (hl:l.length≤4611686018427387904):Ev (fun k=>impl_LeastStory.f k p l) (leastR p l):=by
 unfold impl_LeastStory.f leastR
 refine Ev.bind (impl_StoryOk_ev p l hl) ?_
 by_cases hs:sok p l=true
 ·rw [if_pos hs]
  exact Ev.yes hs (Ev.bind (copy_ev hs) (impl_Least_l l.length 0 l hs (Nat.add_zero _)))
 ·rw [if_neg hs]
  exact Ev.no hs (Ev.some _)
theorem spec_Least_l1 {p:Int} : ∀ (d i:Nat) (l:List C),sok p l=true→d+i=l.length→Ev (fun k=>spec_LeastStory.l1 k p l (i:Int)) (leastFrom p d i l,true):=by
 intro d
 induction d with
 | zero =>
  intro i l hs hd
  exact Ev.step (fun k=>by simp only [spec_LeastStory.l1];rfl) (Ev.no (by omega) (Ev.some _))
 | succ d ih =>
  intro i l hs hd
  have h6:=(sok_iff.1 hs).2.2.2
  refine Ev.step (fun k=>by simp only [spec_LeastStory.l1];rfl) (Ev.yes (by omega) ?_)
  rw [spec_without_eq l (by omega) (by omega),w64 (by omega) (by omega),show ((i:Int)+1)=((i+1:Nat):Int) by omega,leastFrom]
  simp only [Option.bind_some]
  refine Ev.bind (spec_l4Story_ev (sok_dropAt hs)) (Ev.bind (spec_l4Story_ev hs) ?_)
  by_cases h:stab p (dropAt l i)=stab p l
  ·rw [if_pos h]
   have:=dropAt_length (l:=l) (i:=i) (by omega)
   exact Ev.yes (by rw [h]) (ih i (dropAt l i) (sok_dropAt hs) (by omega))
  ·rw [if_neg h]
   exact Ev.no (by omega) (ih (i+1) l hs (by omega))
theorem spec_Least_l0 {p:Int} {l:List C} (hs:sok p l=true) : ∀ (suf pre:List C),l=pre++suf→Ev (fun k=>spec_LeastStory.l0 k p l pre ((pre.length:Nat):Int)) (lstOf p l,true):=by
 obtain ⟨h1,_,_,h6⟩:=sok_iff.1 hs
 intro suf
 induction suf with
 | nil =>
  intro pre he
  rw [List.append_nil] at he
  subst he
  exact Ev.step (fun k=>by simp only [spec_LeastStory.l0];rfl) (Ev.no (by omega) (spec_Least_l1 l.length 0 l hs (Nat.add_zero _)))
 | cons c suf ih =>
  intro pre he
  have hle:l.length=pre.length+(suf.length+1):=by rw [he];simp
  have hx:rd_T43 l ((pre.length:Nat):Int)=c:=by rw [he];exact rdC_at pre c suf
  have hcl:=(clok_iff.1 (h1 c (by rw [he];simp))).2.2.2
  refine Ev.step (fun k=>by simp only [spec_LeastStory.l0];rfl) ?_
  rw [hx,w64 (by omega) (by omega),show (((pre.length:Nat):Int)+1)=(((pre++[c]).length:Nat):Int) by simp]
  simp only [Option.bind_some,List.nil_append,List.length_nil]
  exact Ev.yes (by omega) (Ev.yes (by omega) (Ev.yes (by omega) (Ev.yes (by omega) (ih (pre++[c]) (by rw [he];simp)))))
theorem spec_Least_ev (p:Int) (l:List C) (hl:l.length≤4611686018427387904) (hf:Fit l):Ev (fun k=>spec_LeastStory.f k p l) (leastR p l):=by
 unfold spec_LeastStory.f leastR
 refine Ev.bind (spec_StoryOk_ev p l hl hf) ?_
 by_cases hs:sok p l=true
 ·rw [if_pos hs]
  exact Ev.yes hs (spec_Least_l0 hs l [] rfl)
 ·rw [if_neg hs]
  exact Ev.no hs (Ev.some _)
theorem least_sok {p:Int} {l:List C} (hs:sok p l=true):sok p (lstOf p l)=true:=by
 have h:=least_sub p l.length 0 l
 exact sok_sub h.1 h.2 hs
theorem least_none {p:Int} {l:List C} : ∀ j,j<(lstOf p l).length→stab p (dropAt (lstOf p l) j)≠stab p (lstOf p l) :=
 least_needs p l.length 0 l (Nat.add_zero _) (fun j hj=>by omega)
theorem least_again {p:Int} {l:List C}:lstOf p (lstOf p l)=lstOf p l:=least_stays p _ 0 _ (Nat.add_zero _) least_none
theorem impl_Need_l {p:Int} {l:List C} (hs:sok p l=true) : ∀ (d i:Nat) (acc:List Int),d+i=l.length→acc.length≤i →
  Ev (fun k=>impl_NeedlessClaims.l0 k p l acc (l.length:Int) (i:Int)) (needFrom p l d i acc):=by
 have h6:=(sok_iff.1 hs).2.2.2
 intro d
 induction d with
 | zero=>intro i acc hd _;exact Ev.step (fun k=>by simp only [impl_NeedlessClaims.l0];rfl) (Ev.no (by omega) (Ev.some _))
 | succ d ih =>
  intro i acc hd ha
  refine Ev.step (fun k=>by simp only [impl_NeedlessClaims.l0];rfl) (Ev.yes (by omega) ?_)
  rw [impl_without_eq l (by omega) (by omega),w64 (by omega) (by omega),show ((i:Int)+1)=((i+1:Nat):Int) by omega,needFrom]
  simp only [Option.bind_some]
  refine Ev.bind (impl_storyTable_ev (sok_dropAt hs)) (Ev.bind (impl_storyTable_ev hs) ?_)
  by_cases h:stab p (dropAt l i)=stab p l
  ·rw [if_pos h]
   exact Ev.yes (by rw [h]) (Ev.yes (by omega) (ih (i+1) _ (by omega) (by simp;omega)))
  ·rw [if_neg h]
   exact Ev.no (by omega) (ih (i+1) acc (by omega) (by omega))
theorem impl_Need_ev (p:Int) (l:List C) (hl:l.length≤4611686018427387904):Ev (fun k=>impl_NeedlessClaims.f k p l) (needOf p l):=by
 unfold impl_NeedlessClaims.f needOf
 refine Ev.bind (impl_StoryOk_ev p l hl) ?_
 by_cases hs:sok p l=true
 ·rw [if_pos hs]
  exact Ev.yes hs (impl_Need_l hs l.length 0 [] (Nat.add_zero _) (Nat.le_refl _))
 ·rw [if_neg hs]
  exact Ev.no hs (Ev.some _)
theorem impl_StoryTable_ev (p:Int) (l:List C) (hl:l.length≤4611686018427387904):Ev (fun k=>impl_StoryTable.f k p l) (if sok p l=true then ((stab p l:Nat):Int) else -1):=by
 unfold impl_StoryTable.f
 refine Ev.bind (impl_StoryOk_ev p l hl) ?_
 by_cases h:sok p l=true
 ·rw [if_pos h]
  exact Ev.yes h (Ev.bind (impl_storyTable_ev h) (Ev.some _))
 ·rw [if_neg h]
  exact Ev.no h (Ev.some _)
theorem sameMarks_l0 (l:List M) (hl:l.length≤4611686018427387904) : ∀ (suf pre:List M),l=pre++suf→Ev (fun k=>laws_sameMarks.l0 k l l ((pre.length:Nat):Int)) true:=by
 intro suf
 induction suf with
 | nil =>
  intro pre he
  have hle:l.length=pre.length:=by rw [he];simp
  refine Ev.step (fun k=>by simp only [laws_sameMarks.l0];rfl) ?_
  exact Ev.no (by omega) (Ev.some _)
 | cons m t ih =>
  intro pre he
  have hle:l.length=pre.length+(t.length+1):=by rw [he];simp
  have hnext:wrap64 (((pre.length:Nat):Int)+1)=(((pre++[m]).length:Nat):Int):=by rw [w64 (by omega) (by omega)];simp
  refine Ev.step (fun k=>by simp only [laws_sameMarks.l0];rfl) ?_
  refine Ev.yes (by omega) (Ev.yes (by omega) (Ev.yes (by omega) (Ev.no (by simp) ?_)))
  rw [hnext]
  exact ih (pre++[m]) (by rw [he];simp)
theorem sameMarks_ev (l:List M) (hl:l.length≤4611686018427387904):Ev (fun k=>laws_sameMarks.f k l l) true:=by
 unfold laws_sameMarks.f
 exact Ev.yes rfl (sameMarks_l0 l hl l [] rfl)
theorem alive_eq:laws_alive.f=some true:=by decide +kernel
theorem sameClaim_ev (j:Int) (u:List M) (hu:u.length≤4611686018427387904):Ev (fun k=>laws_sameClaim.f k j u j u) true:=by
 unfold laws_sameClaim.f
 exact Ev.yes rfl (Ev.bind (sameMarks_ev u hu) (Ev.some _))
theorem sameStory_l0 {l:List C} (hl:l.length≤4611686018427387904) (hc : ∀ c∈l,c.f1.length≤4611686018427387904) : ∀ (suf pre:List C),l=pre++suf→Ev (fun k=>laws_sameStory.l0 k l l ((pre.length:Nat):Int)) true:=by
 intro suf
 induction suf with
 | nil =>
  intro pre he
  have hle:l.length=pre.length:=by rw [he];simp
  exact Ev.step (fun k=>by simp only [laws_sameStory.l0];rfl) (Ev.no (by omega) (Ev.some _))
 | cons c suf ih =>
  intro pre he
  have hle:l.length=pre.length+(suf.length+1):=by rw [he];simp
  have hx:rd_T43 l ((pre.length:Nat):Int)=c:=by rw [he];exact rdC_at pre c suf
  refine Ev.step (fun k=>by simp only [laws_sameStory.l0];rfl) ?_
  rw [hx,w64 (by omega) (by omega),show (((pre.length:Nat):Int)+1)=(((pre++[c]).length:Nat):Int) by simp]
  exact Ev.yes (by omega) (Ev.yes (by omega) (Ev.yes (by omega) (Ev.bind (sameClaim_ev c.f0 c.f1 (hc c (by rw [he];simp))) (Ev.yes rfl (ih (pre++[c]) (by rw [he];simp))))))
theorem sameStory_ev {l:List C} (hl:l.length≤4611686018427387904) (hc : ∀ c∈l,c.f1.length≤4611686018427387904):Ev (fun k=>laws_sameStory.f k l l) true:=by
 unfold laws_sameStory.f
 exact Ev.yes rfl (sameStory_l0 hl hc l [] rfl)
end Go.Proofs.Ytofcmhpoebbnoaa.L
