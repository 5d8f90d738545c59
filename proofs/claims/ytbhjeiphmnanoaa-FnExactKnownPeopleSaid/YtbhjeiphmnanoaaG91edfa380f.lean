/- Joined by a program of this session's: X54, X55, X56, X57, X58, LH, LTB, LWS, LBI, LTY, LO, LCB, LST, LSTI, LKP, LSM, LCBS, LSTS, LSTT, LKPS. -/
import Derived.Test.YtbhjeiphmnanoaaG96c12aded1
import Derived.Test.YtbhjeiphmnanoaaGb85b4b591c
import Derived.Test.YtbhjeiphmnanoaaGf9406156f7
import Derived.Test.YtbhjeiphmnanoaaG9d29a8dfd8
import Derived.Test.YtbhjeiphmnanoaaGa044733eb4
import Derived.Laws.BitsLemmas
import Derived.Test.YtbhjeiphmnanoaaGd275c85a69

namespace Go.Proofs.Ytbhjeiphmnanoaa.X
open Go.RowKit Go.Proofs.YtbhjeiphmnanoaaW.PrintWords Go.Proofs.YtbhjeiphmnanoaaW.PrintLast Go.Proofs.YtbhjeiphmnanoaaW.PrintMore
open Go.Proofs.YtbhjeiphmnanoaaW.PrintWords renaming Aside0.mk → mA, pw_below_drewN → bN, below_drew1 → bD, below_alloc → bA, below_set → bS, below_size → bZ, below_step → bT, Kd.R_alloc → rA, Kd.R_drewN → rN, Kd.R_drew → rD, Kd.R_mono → rM, Kd.R_reads' → rR, Kd.R_lt → rL, Kd.R_below → rB, Kd.R_elder' → rE, Kd.R_lower → rW, Kd.R_new' → rQ, Kd.R_after → rJ, Kd.C_alloc → cA, Kd.C_drewN → cN, Kd.C_drew → cD
open List renaming setIfInBounds_toArray → sA, set_cons_zero → sZ, set_cons_succ → sS, length_take → lT, length_drop → lD, map_toArray → mT, map_cons → mC, map_nil → mN
attribute [local go_sem] max2_int min2_int max_two min_two max_three min_three max_four min_four   -- for this text's walks alone
set_option linter.unusedVariables false
set_option linter.unusedSimpArgs false
/-! ### impl_KnownPeople: function 14 -/
mutual
def impl_KnownPeople.l0:Nat→List Int→List Int→Int→Int→Option (List Int)
 | 0,_,_,_,_=>none
 | k+1,x5,x6,x20,x21=>if x21<x20 then (if 0<(x5.length:Int) then (if 0≤x21 then (impl_KnownPeople.l1 k x5 x6 x21 (Go.bits .and .i64 (shr .i64 (rd x5 0) x21) 1) x20 x21 x5 (x5.length:Int) 0) else (none)) else (none)) else (some x6)
def impl_KnownPeople.l1:Nat→List Int→List Int→Int→Int→Int→Int→List Int→Int→Int→Option (List Int)
 | 0,_,_,_,_,_,_,_,_,_=>none
 | k+1,x5,x6,x7,x8,x20,x21,x30,x31,x32=>if x32<x31 then (if 0≤x32 then (if x32<(x30.length:Int) then (if 0≤x7 then (if (Go.bits .and .i64 (shr .i64 (rd x30 x32) x7) 1)=x8 then (impl_KnownPeople.l1 k x5 x6 x7 x8 x20 x21 x30 x31 (wrap64 (x32+1))) else (if x6.length<17592186044416 then (impl_KnownPeople.l0 k x5 (x6++[(-1)]) x20 (wrap64 (x21+1))) else (none))) else (none)) else (none)) else (none)) else (if x6.length<17592186044416 then (impl_KnownPeople.l0 k x5 (x6++[x8]) x20 (wrap64 (x21+1))) else (none))
end
def impl_KnownPeople.f (k:Nat) (a0:Int) (l1:List (S42)):Option (List Int):=(impl_StoryTable.f k a0 l1).bind fun t101=>((impl_WorldsIn.f k a0 t101).bind fun t102=>(if (t102.length:Int)=0 then (some ([]:List Int)) else (impl_KnownPeople.l0 k t102 (([]:List Int)) a0 0)))
theorem impl_KnownPeople.mono_l : ∀ k,(∀ y0 y1 y2 y3,LeO (impl_KnownPeople.l0 k y0 y1 y2 y3) (impl_KnownPeople.l0 (k+1) y0 y1 y2 y3))∧(∀ y0 y1 y2 y3 y4 y5 y6 y7 y8,LeO (impl_KnownPeople.l1 k y0 y1 y2 y3 y4 y5 y6 y7 y8) (impl_KnownPeople.l1 (k+1) y0 y1 y2 y3 y4 y5 y6 y7 y8))
 | 0=>⟨fun _ _ _ _ r h=>by simp [impl_KnownPeople.l0] at h,fun _ _ _ _ _ _ _ _ _ r h=>by simp [impl_KnownPeople.l1] at h⟩
 | k+1=>by
  obtain ⟨ih0,ih1⟩:=impl_KnownPeople.mono_l k
  refine ⟨?_,?_⟩
  ·intro y0 y1 y2 y3
   unfold impl_KnownPeople.l0
   repeat' first
   | (with_reducible exact ih0 _ _ _ _)
   | (with_reducible exact ih1 _ _ _ _ _ _ _ _ _)
   | (with_reducible exact impl_StoryTable.mono _ _ _)
   | (with_reducible exact impl_WorldsIn.mono _ _ _)
   | (with_reducible exact LeO.refl _)
   | (with_reducible exact LeO.none _)
   | (with_reducible refine LeO.ite ?_ ?_)
   | (with_reducible refine LeO.bind ?_ (fun _=>?_))
   | exact ih0 _ _ _ _
   | exact ih1 _ _ _ _ _ _ _ _ _
   | exact impl_StoryTable.mono _ _ _
   | exact impl_WorldsIn.mono _ _ _
   | exact LeO.none _
   | refine LeO.ite ?_ ?_
   | refine LeO.bind ?_ (fun _=>?_)
  ·intro y0 y1 y2 y3 y4 y5 y6 y7 y8
   unfold impl_KnownPeople.l1
   repeat' first
   | (with_reducible exact ih0 _ _ _ _)
   | (with_reducible exact ih1 _ _ _ _ _ _ _ _ _)
   | (with_reducible exact impl_StoryTable.mono _ _ _)
   | (with_reducible exact impl_WorldsIn.mono _ _ _)
   | (with_reducible exact LeO.refl _)
   | (with_reducible exact LeO.none _)
   | (with_reducible refine LeO.ite ?_ ?_)
   | (with_reducible refine LeO.bind ?_ (fun _=>?_))
   | exact ih0 _ _ _ _
   | exact ih1 _ _ _ _ _ _ _ _ _
   | exact impl_StoryTable.mono _ _ _
   | exact impl_WorldsIn.mono _ _ _
   | exact LeO.none _
   | refine LeO.ite ?_ ?_
   | refine LeO.bind ?_ (fun _=>?_)
theorem impl_KnownPeople.mono : ∀ a0 a1 k,LeO (impl_KnownPeople.f k a0 a1) (impl_KnownPeople.f (k+1) a0 a1):=by
 intro a0 a1 k
 obtain ⟨ih0,ih1⟩:=impl_KnownPeople.mono_l k
 unfold impl_KnownPeople.f
 repeat' first
   | (with_reducible exact ih0 _ _ _ _)
   | (with_reducible exact ih1 _ _ _ _ _ _ _ _ _)
   | (with_reducible exact impl_StoryTable.mono _ _ _)
   | (with_reducible exact impl_WorldsIn.mono _ _ _)
   | (with_reducible exact LeO.refl _)
   | (with_reducible exact LeO.none _)
   | (with_reducible refine LeO.ite ?_ ?_)
   | (with_reducible refine LeO.bind ?_ (fun _=>?_))
   | exact ih0 _ _ _ _
   | exact ih1 _ _ _ _ _ _ _ _ _
   | exact impl_StoryTable.mono _ _ _
   | exact impl_WorldsIn.mono _ _ _
   | exact LeO.none _
   | refine LeO.ite ?_ ?_
   | refine LeO.bind ?_ (fun _=>?_)
set_option maxHeartbeats 8000000 in
set_option maxRecDepth 100000 in
theorem impl_KnownPeople.calls (k:Nat) (a0:Int) (A1:Option Addr) (c1:Nat) (l1:List (S42)) (r:List Int) (w:World) (hr1:Kd.C k42 w A1 l1.length l1) (hc1:l1.length≤c1) (h:impl_KnownPeople.f k a0 l1=some r) :
  Calls Try.prog 14 #[.int .i64 a0,.slice A1 l1.length c1] w fun e w'=>∃ v0_:Value,e = .returned (v0_)∧Kd.R (Kd.int .i64) 3 w' w.heap.size (fun _=>True) v0_ r∧Below w.heap.size w w':=by
 have HR1:=mA hr1
 have HC1:=mA hc1
 clear hr1 hc1
 have HB:=mA (Below.refl w.heap.size w)
 have H:((impl_StoryTable.f k a0 l1).bind fun t101=>((impl_WorldsIn.f k a0 t101).bind fun t102=>(if (t102.length:Int)=0 then (some ([]:List Int)) else (impl_KnownPeople.l0 k t102 (([]:List Int)) a0 0))))=some r:=h
 clear h
 replace H:=Option.bind_eq_some_iff.mp H
 obtain ⟨t101,A30,H⟩:=H
 replace H:((impl_WorldsIn.f k a0 t101).bind fun t102=>(if (t102.length:Int)=0 then (some ([]:List Int)) else (impl_KnownPeople.l0 k t102 (([]:List Int)) a0 0)))=some r:=H
 have A3:=mA A30
 clear A30
 replace H:=Option.bind_eq_some_iff.mp H
 obtain ⟨t102,A40,H⟩:=H
 replace H:(if (t102.length:Int)=0 then (some ([]:List Int)) else (impl_KnownPeople.l0 k t102 (([]:List Int)) a0 0))=some r:=H
 have A4:=mA A40
 clear A40
 by_cases c5:(t102.length:Int)=0
 ·rw [if_pos c5] at H
  have c5b0:((t102.length:Int)==0)=true:=beq_iff_eq.mpr c5
  have c5b1:((t102.length:Int) != 0)=false:=bne_eq_false_iff_eq.mpr c5
  clear c5
  obtain rfl:=Option.some.inj H
  go_enter Try.func14,Try.ntmps14
  go_wp2_with (first|((with_reducible refine gate_callee (f:=35) rfl ?_);refine goesL_ (some 14) rfl rfl Try.func35 (by kernel_rfl) rfl #[.int .i64 a0,.slice A1 l1.length c1] rfl (by (try simp only [mT,mC,mN]);first|done|rfl|(simp only [lD,lT];rfl)) ?_;(with_reducible refine (impl_StoryTable.calls k a0 _ _ l1 t101 _ ?side1 ?side2 A3.out).mono ?_);(case side1=>repeat first|exact HR1.out|(with_reducible refine cA ?_ _)|(with_reducible refine cN ?_ _)|(with_reducible refine cD ?_));(case side2=>exact HC1.out);rintro e w6 ⟨rfl,hb⟩;refine ⟨_,rfl,?_⟩;have n0_:=mA (bT (by repeat first|(with_reducible first|exact HB.out|apply bA|apply bN|apply bD)|exact HB.out) hb);clear HB;have HB:=n0_;clear n0_;(try clear hb);(try clear hb2);(try clear hk);(try clear hi))|((with_reducible refine gate_callee (f:=34) rfl ?_);refine goesL_ (some 15) rfl rfl Try.func34 (by kernel_rfl) rfl #[.int .i64 a0,.int .i64 t101] rfl (by (try simp only [mT,mC,mN]);first|done|rfl|(simp only [lD,lT];rfl)) ?_;(with_reducible refine (impl_WorldsIn.calls k a0 t101 t102 _ A4.out).mono ?_);rintro e w7 ⟨v103,rfl,ho0,hb⟩;refine ⟨_,rfl,?_⟩;have n0_:=mA (rW ho0 (bZ (by repeat first|(with_reducible first|exact HB.out|apply bA|apply bN|apply bD)|exact HB.out)));have n1_:=mA (bT (by repeat first|(with_reducible first|exact HB.out|apply bA|apply bN|apply bD)|exact HB.out) hb);clear HB;have HO104:=n0_;have HB:=n1_;clear n0_ n1_;(try clear hb);(try clear hb2);(try clear hk);(try clear hi);(try clear ho0);obtain ⟨Ao8,co8,eo8⟩:=Kd.R_slice HO104.out;subst eo8))
  go_ret
  exact ⟨_,by first|rfl|(simp [errW_none,errW_some]<;>rfl)|(simp [*, errW_none,errW_some]<;>rfl),by first|exact Kd.R_nil _ _ _ _ _|exact Kd.N_nil _ _ _ _ _|exact Kd.V_nil _ _ _ _ _|exact Kd.Q_nil _ _ _ _ _|exact Kd.S_nil _ _ _ _ _,by repeat (first|(with_reducible first|exact HB.out|apply bA|apply bN|apply bD)|exact HB.out)⟩
 ·rw [if_neg c5] at H
  have c5b0:((t102.length:Int)==0)=false:=beq_eq_false_iff_ne.mpr c5
  have c5b1:((t102.length:Int) != 0)=true:=bne_iff_ne.mpr c5
  have c5b2 : ¬ (t102=[]):=fun h_=>c5 (by rw [h_];rfl)
  obtain ⟨y105,hy105⟩ : ∃ y_:List Int,y_=(([]:List Int)):=⟨_,rfl⟩
  replace H:(impl_KnownPeople.l0 k t102 y105 a0 0)=some r:=by first|(rw [hy105];with_reducible exact H)|(have H2_:=(Option.bind_some _ _).symm.trans H;rw [hy105];with_reducible exact H2_)|(have H2_:=(Option.bind_some _ _).symm.trans H;with_reducible exact H2_)|with_reducible exact H|(rw [hy105];exact H)|exact H
  have Ny105:=mA hy105
  clear hy105
  have H':=mA H
  clear H
  go_enter Try.func14,Try.ntmps14
  go_wp2_with (first|((with_reducible refine gate_callee (f:=35) rfl ?_);refine goesL_ (some 14) rfl rfl Try.func35 (by kernel_rfl) rfl #[.int .i64 a0,.slice A1 l1.length c1] rfl (by (try simp only [mT,mC,mN]);first|done|rfl|(simp only [lD,lT];rfl)) ?_;(with_reducible refine (impl_StoryTable.calls k a0 _ _ l1 t101 _ ?side1 ?side2 A3.out).mono ?_);(case side1=>repeat first|exact HR1.out|(with_reducible refine cA ?_ _)|(with_reducible refine cN ?_ _)|(with_reducible refine cD ?_));(case side2=>exact HC1.out);rintro e w9 ⟨rfl,hb⟩;refine ⟨_,rfl,?_⟩;have n0_:=mA (bT (by repeat first|(with_reducible first|exact HB.out|apply bA|apply bN|apply bD)|exact HB.out) hb);clear HB;have HB:=n0_;clear n0_;(try clear hb);(try clear hb2);(try clear hk);(try clear hi))|((with_reducible refine gate_callee (f:=34) rfl ?_);refine goesL_ (some 15) rfl rfl Try.func34 (by kernel_rfl) rfl #[.int .i64 a0,.int .i64 t101] rfl (by (try simp only [mT,mC,mN]);first|done|rfl|(simp only [lD,lT];rfl)) ?_;(with_reducible refine (impl_WorldsIn.calls k a0 t101 t102 _ A4.out).mono ?_);rintro e w10 ⟨v103,rfl,ho0,hb⟩;refine ⟨_,rfl,?_⟩;have n0_:=mA (rW ho0 (bZ (by repeat first|(with_reducible first|exact HB.out|apply bA|apply bN|apply bD)|exact HB.out)));have n1_:=mA (bT (by repeat first|(with_reducible first|exact HB.out|apply bA|apply bN|apply bD)|exact HB.out) hb);clear HB;have HO104:=n0_;have HB:=n1_;clear n0_ n1_;(try clear hb);(try clear hb2);(try clear hk);(try clear hi);(try clear ho0);obtain ⟨Ao11,co11,eo11⟩:=Kd.R_slice HO104.out;subst eo11)|((with_reducible refine gate_dst (N:=19) rfl ?_);refine Kd.R_lit (Kd.int .i64) _ 3 ?hg (N:=19) ?hd (xs:=([]:List Int)) (inner:=[]) (ok:=fun _=>True) (okp:=fun _=>True) ?hr ?hp (fun _ hk=>hk) trivial (Below.refl _ _) (Nat.le_refl _) (by simp) ?_;(case hd=>rfl);(case hg=>rfl);(case hr=>first|(go_simp;done)|(go_simp;rfl));(case hp=>exact (Reps.none _ _));intro v106 w12 ho13 hb hg_ hnew_;clear hg_ hnew_;(first|rw [←Ny105.out] at ho13|(simp only [Int.reduceToNat] at ho13;rw [←Ny105.out] at ho13));have n0_:=mA (rE (by (with_reducible repeat first|apply rA|apply rN|apply rD);exact HO104.out) (Kd.R_base ho13) hb);have n1_:=mA (rW (rQ ho13 (rL (by (with_reducible repeat first|apply rA|apply rN|apply rD);exact HO104.out))) (bZ (by repeat first|(with_reducible first|exact HB.out|apply bA|apply bN|apply bD)|exact HB.out)));have n2_:=mA (bT (by repeat first|(with_reducible first|exact HB.out|apply bA|apply bN|apply bD)|exact HB.out) hb);clear HO104 HB;have HO104:=n0_;have HO107:=n1_;have HB:=n2_;clear n0_ n1_ n2_ hb ho13))
  go_loopg [6,21] k (fun kq v6 v21 w'=>∃ (x6_1:List Int) (x21_1:Int),v21 = .int .i64 x21_1∧Aside0 (impl_KnownPeople.l0 kq t102 x6_1 a0 x21_1=some r)∧Aside0 (kq≤k)∧Aside0 (Kd.R (Kd.int .i64) 3 w' w.heap.size (fun k_=>some k_≠(v6:Value).ownBlock) (.slice Ao11 t102.length co11) t102)∧Aside0 (Kd.R (Kd.int .i64) 3 w' w.heap.size (fun k_=>some k_≠((.slice Ao11 t102.length co11):Value).ownBlock) v6 x6_1)∧Aside0 (Below w.heap.size w w'))
  case atStart=>exact ⟨(y105),(0),(by first|rfl|(simp;done)|(simp [*];done)),H',⟨Nat.le_refl _⟩,⟨by (with_reducible repeat first|apply rA|apply rN|apply rD);exact rM HO104.out (fun _ hk=>hk.2)⟩,⟨by (with_reducible repeat first|apply rA|apply rN|apply rD);exact rM HO107.out (fun _ hk=>hk.2)⟩,⟨by repeat (first|(with_reducible first|exact HB.out|apply bA|apply bN|apply bD)|exact HB.out)⟩⟩
  case round =>
   clear H'
   try clear c1
   try clear p2
   try clear c3
   try clear c5
   try clear c5b0
   try clear c5b1
   try clear c5b2
   obtain ⟨x6_1,x21_1,rfl,HA,HK1,HO_5,HO_6,HB⟩:=hrel
   cases gk with
   | zero=>exact absurd HA.out (by simp [impl_KnownPeople.l0])
   | succ k1 =>
    have H:=HA.out
    clear HA
    simp only [impl_KnownPeople.l0] at H
    by_cases c14:x21_1<a0
    ·rw [if_pos c14] at H
     have c14b0:decide (x21_1<a0)=true:=decide_eq_true c14
     clear c14
     by_cases c15:0<(t102.length:Int)
     ·rw [if_pos c15] at H
      have c15b0:decide (0<(t102.length:Int))=true:=decide_eq_true c15
      have c15b1:decide (0<t102.length)=true:=decide_eq_true (by omega)
      clear c15
      by_cases c16:0≤x21_1
      ·rw [if_pos c16] at H
       have c16b0:=eq_true c16
       have c16b1:decide (0≤x21_1)=true:=decide_eq_true c16
       clear c16
       obtain ⟨ji17,hji17⟩ : ∃ j_:Int,(shr .i64 (rd t102 0) x21_1)=j_:=⟨_,rfl⟩
       replace H:(impl_KnownPeople.l1 k1 t102 x6_1 x21_1 (Go.bits .and .i64 (ji17) 1) a0 x21_1 t102 (t102.length:Int) 0)=some r:=by first|(rw [hji17] at H;exact H)|(simp only [hji17] at H ⊢;exact H)
       have hji17_:((rd t102 0) / 2^min x21_1.toNat 64)=ji17:=hji17
       have hji17z:x21_1≤64→((rd t102 0) / 2^x21_1.toNat)=ji17:=shr_small hji17
       have H':=mA H
       clear H
       have p108:0≤(0:Int):=(by omega)
       have q108:0<(t102.length:Int):=of_decide_eq_true (by first|with_reducible assumption|assumption)
       obtain ⟨ad108,e108,hx108_0⟩:=Kd.at_int (rR HO_5.out).2.2 0 p108 q108
       cases e108
       have qi108:(0<t102.length)=True:=eq_true (by omega)
       (try rw [show ((0:Int)).toNat=0 from rfl] at hx108_0)
       (try rw [Addr.add_zero'] at hx108_0)
       replace p108:=eq_true p108
       replace q108:=eq_true q108
       go_wp2
       go_loopg [8,32] k1 (fun kq v8 v32 w'=>∃ (x8_2:Int) (x32_2:Int),v8 = .int .i64 x8_2∧v32 = .int .i64 x32_2∧Aside0 (impl_KnownPeople.l1 kq t102 x6_1 x21_1 x8_2 a0 x21_1 t102 (t102.length:Int) x32_2=some r)∧Aside0 (kq≤k1)∧Aside0 (Kd.R (Kd.int .i64) 3 w' w.heap.size (fun k_=>some k_≠(u6:Value).ownBlock) (.slice (some ad108) t102.length co11) t102)∧Aside0 (Kd.R (Kd.int .i64) 3 w' w.heap.size (fun k_=>some k_≠((.slice (some ad108) t102.length co11):Value).ownBlock∧some k_≠((.slice (some ad108) t102.length co11):Value).ownBlock) u6 x6_1)∧Aside0 (Kd.R (Kd.int .i64) 3 w' w.heap.size (fun k_=>some k_≠(u6:Value).ownBlock) (.slice (some ad108) t102.length co11) t102)∧Aside0 (Below w.heap.size w w'))
       case atStart=>exact ⟨(Go.bits .and .i64 (ji17) 1),(0),(by first|rfl|(simp;done)|(simp only [←hji17]<;>(first|rfl|simp))|(simp [*];done)),(by first|rfl|(simp;done)|(simp [*];done)),H',⟨Nat.le_refl _⟩,⟨by (with_reducible repeat first|apply rA|apply rN|apply rD);exact HO_5.out⟩,⟨by (with_reducible repeat first|apply rA|apply rN|apply rD);exact rM HO_6.out (fun _ hk=>⟨hk,hk⟩)⟩,⟨by (with_reducible repeat first|apply rA|apply rN|apply rD);exact HO_5.out⟩,⟨by repeat (first|(with_reducible first|exact HB.out|apply bA|apply bN|apply bD)|exact HB.out)⟩⟩
       case round =>
        clear H'
        try clear c1
        try clear p1
        try clear q1
        try clear hx1
        try clear qi1
        try clear p2
        try clear c3
        try clear c5
        try clear c5b0
        try clear c5b1
        try clear c5b2
        try clear p10
        try clear q10
        try clear hx10
        try clear qi10
        try clear c14
        try clear c14b0
        try clear c15
        try clear c15b0
        try clear c15b1
        try clear c16
        try clear c16b0
        try clear c16b1
        try clear hx108_0
        try clear p108
        try clear p2
        try clear q108
        obtain ⟨x8_2,x32_2,rfl,rfl,HA,HK2,HO_5,HO_6,HO_30,HB⟩:=hrel
        cases gk with
        | zero=>exact absurd HA.out (by simp [impl_KnownPeople.l1])
        | succ k2 =>
         have H:=HA.out
         clear HA
         simp only [impl_KnownPeople.l1] at H
         by_cases c18:x32_2<(t102.length:Int)
         ·rw [if_pos c18] at H
          have c18b0:decide (x32_2<(t102.length:Int))=true:=decide_eq_true c18
          clear c18
          by_cases c19:0≤x32_2
          ·rw [if_pos c19] at H
           have c19b0:decide (0≤x32_2)=true:=decide_eq_true c19
           clear c19
           by_cases c20:x32_2<(t102.length:Int)
           ·rw [if_pos c20] at H
            have c20b0:decide (x32_2<(t102.length:Int))=true:=decide_eq_true c20
            clear c20
            by_cases c21:0≤x21_1
            ·rw [if_pos c21] at H
             have c21b0:=eq_true c21
             have c21b1:decide (0≤x21_1)=true:=decide_eq_true c21
             clear c21
             obtain ⟨ji22,hji22⟩ : ∃ j_:Int,(shr .i64 (rd t102 x32_2) x21_1)=j_:=⟨_,rfl⟩
             replace H:(if (Go.bits .and .i64 (ji22) 1)=x8_2 then (impl_KnownPeople.l1 k2 t102 x6_1 x21_1 x8_2 a0 x21_1 t102 (t102.length:Int) (wrap64 (x32_2+1))) else (if x6_1.length<17592186044416 then (impl_KnownPeople.l0 k2 t102 (x6_1++[(-1)]) a0 (wrap64 (x21_1+1))) else (none)))=some r:=by first|(rw [hji22] at H;exact H)|(simp only [hji22] at H ⊢;exact H)
             have hji22_:((rd t102 x32_2) / 2^min x21_1.toNat 64)=ji22:=hji22
             have hji22z:x21_1≤64→((rd t102 x32_2) / 2^x21_1.toNat)=ji22:=shr_small hji22
             by_cases c23:(Go.bits .and .i64 (ji22) 1)=x8_2
             ·rw [if_pos c23] at H
              have c23b0:((Go.bits .and .i64 (ji22) 1)==x8_2)=true:=beq_iff_eq.mpr c23
              have c23b1:((Go.bits .and .i64 (ji22) 1) != x8_2)=false:=bne_eq_false_iff_eq.mpr c23
              clear c23
              have H':=mA H
              clear H
              have p109:0≤(x32_2:Int):=of_decide_eq_true (by first|with_reducible assumption|assumption)
              have q109:x32_2<(t102.length:Int):=of_decide_eq_true (by first|with_reducible assumption|assumption)
              obtain ⟨ad109,e109,hx109_0⟩:=Kd.at_int (rR HO_30.out).2.2 x32_2 p109 q109
              obtain rfl:ad108=ad109:=(by injection e109)
              replace p109:=eq_true p109
              replace q109:=eq_true q109
              go_wp2
              go_roundg k2
              case measure=>have:=HK1.out;have:=HK2.out;omega
              case rel=>exact ⟨(x8_2),(wrap64 (x32_2+1)),(by first|rfl|(simp;done)|(simp [*];done)),(by first|rfl|(simp;done)|(simp [*];done)),H',⟨by have:=HK1.out;have:=HK2.out;omega⟩,⟨by (with_reducible repeat first|apply rA|apply rN|apply rD);exact HO_5.out⟩,⟨by (with_reducible repeat first|apply rA|apply rN|apply rD);exact HO_6.out⟩,⟨by (with_reducible repeat first|apply rA|apply rN|apply rD);exact HO_30.out⟩,⟨by repeat (first|(with_reducible first|exact HB.out|apply bA|apply bN|apply bD)|exact HB.out)⟩⟩
             ·rw [if_neg c23] at H
              have c23b0:((Go.bits .and .i64 (ji22) 1)==x8_2)=false:=beq_eq_false_iff_ne.mpr c23
              have c23b1:((Go.bits .and .i64 (ji22) 1) != x8_2)=true:=bne_iff_ne.mpr c23
              by_cases c24:x6_1.length<17592186044416
              ·rw [if_pos c24] at H
               have LMc24:=mA c24
               clear c24
               obtain ⟨y110,hy110⟩ : ∃ y_:List Int,y_=(x6_1++[(-1)]):=⟨_,rfl⟩
               replace H:(impl_KnownPeople.l0 k2 t102 y110 a0 (wrap64 (x21_1+1)))=some r:=by first|(rw [hy110];with_reducible exact H)|(have H2_:=(Option.bind_some _ _).symm.trans H;rw [hy110];with_reducible exact H2_)|(have H2_:=(Option.bind_some _ _).symm.trans H;with_reducible exact H2_)|with_reducible exact H|(rw [hy110];exact H)|exact H
               have Ny110:=mA hy110
               clear hy110
               have H':=mA H
               clear H
               have p109:0≤(x32_2:Int):=of_decide_eq_true (by first|with_reducible assumption|assumption)
               have q109:x32_2<(t102.length:Int):=of_decide_eq_true (by first|with_reducible assumption|assumption)
               obtain ⟨ad109,e109,hx109_0⟩:=Kd.at_int (rR HO_30.out).2.2 x32_2 p109 q109
               obtain rfl:ad108=ad109:=(by injection e109)
               replace p109:=eq_true p109
               replace q109:=eq_true q109
               go_wp2_with (first|((with_reducible refine gate_builtin (b:=.append) (xs:=#[.tmp 43,.tmp 45]) rfl ?_);at_builtin;refine Kd.R_append (Kd.int .i64) (w0:=w) w.heap.size rfl (.tmp 43) (.tmp 45) 31 3 (.int .i64 0) 8 rfl Try.underlying31 info3 rfl (by decide) (by omega) u6 x6_1 (-1) [.int .i64 (-1)] (fun k_=>some k_≠(.slice (some ad108) t102.length co11:Value).ownBlock∧some k_≠(.slice (some ad108) t102.length co11:Value).ownBlock) (fun _=>False) rfl rfl ?aP (fun _ hk=>hk.elim) ?aF ?aO ?aB ?aS ?aL ?_;(case aP=>exact rfl);(case aB=>exact (by repeat first|(with_reducible first|exact HB.out|apply bA|apply bN|apply bD)|exact HB.out));(case aF=>exact (fun k_ hk=>⟨Kd.fresh' (rL (by (with_reducible repeat first|apply rA|apply rN|apply rD);exact HO_5.out)) k_ hk,Kd.fresh' (rL (by (with_reducible repeat first|apply rA|apply rN|apply rD);exact HO_30.out)) k_ hk⟩));(case aO=>exact (by (with_reducible repeat first|apply rA|apply rN|apply rD);exact HO_6.out));(case aS=>exact (bZ (by repeat first|(with_reducible first|exact HB.out|apply bA|apply bN|apply bD)|exact HB.out)));(case aL=>have:=LMc24.out;omega);intro v111 w25 ho hb hg hat;rw [←Ny110.out] at ho;have n0_:=mA (rJ (ok:=(fun _=>True)) (by (with_reducible repeat first|apply rA|apply rN|apply rD);exact rM HO_5.out (fun _ hk=>⟨trivial,hk⟩)) hg hat);have n1_:=mA (rJ (ok:=(fun _=>True)) (by (with_reducible repeat first|apply rA|apply rN|apply rD);exact rM HO_30.out (fun _ hk=>⟨trivial,hk⟩)) hg hat);have n2_:=mA (hb);have n3_:=mA (ho);clear HO_5 HO_30 HB HO_6;have HO_5:=n0_;have HO_30:=n1_;have HB:=n2_;have HO112:=n3_;clear n0_ n1_ n2_ n3_ ho hb hg hat))
               go_roundg k2
               case measure=>have:=HK1.out;have:=HK2.out;omega
               case rel=>exact ⟨(y110),(wrap64 (x21_1+1)),(by first|rfl|(simp;done)|(simp [*];done)),H',⟨by have:=HK1.out;have:=HK2.out;omega⟩,⟨by (with_reducible repeat first|apply rA|apply rN|apply rD);exact rM HO_5.out (fun _ hk=>hk.2)⟩,⟨by (with_reducible repeat first|apply rA|apply rN|apply rD);exact rM HO112.out (fun _ hk=>hk.1)⟩,⟨by repeat (first|(with_reducible first|exact HB.out|apply bA|apply bN|apply bD)|exact HB.out)⟩⟩
              ·rw [if_neg c24] at H
               exact absurd H (by simp)
            ·rw [if_neg c21] at H
             exact absurd H (by simp)
           ·rw [if_neg c20] at H
            exact absurd H (by simp)
          ·rw [if_neg c19] at H
           exact absurd H (by simp)
         ·rw [if_neg c18] at H
          have c18b0:decide (x32_2<(t102.length:Int))=false:=decide_eq_false c18
          clear c18
          by_cases c26:x6_1.length<17592186044416
          ·rw [if_pos c26] at H
           have LMc26:=mA c26
           clear c26
           obtain ⟨y113,hy113⟩ : ∃ y_:List Int,y_=(x6_1++[x8_2]):=⟨_,rfl⟩
           replace H:(impl_KnownPeople.l0 k2 t102 y113 a0 (wrap64 (x21_1+1)))=some r:=by first|(rw [hy113];with_reducible exact H)|(have H2_:=(Option.bind_some _ _).symm.trans H;rw [hy113];with_reducible exact H2_)|(have H2_:=(Option.bind_some _ _).symm.trans H;with_reducible exact H2_)|with_reducible exact H|(rw [hy113];exact H)|exact H
           have Ny113:=mA hy113
           clear hy113
           have H':=mA H
           clear H
           go_wp2_with (first|((with_reducible refine gate_builtin (b:=.append) (xs:=#[.tmp 43,.tmp 45]) rfl ?_);at_builtin;refine Kd.R_append (Kd.int .i64) (w0:=w) w.heap.size rfl (.tmp 43) (.tmp 45) 31 3 (.int .i64 0) 8 rfl Try.underlying31 info3 rfl (by decide) (by omega) u6 x6_1 x8_2 [.int .i64 x8_2] (fun k_=>some k_≠(.slice (some ad108) t102.length co11:Value).ownBlock∧some k_≠(.slice (some ad108) t102.length co11:Value).ownBlock) (fun _=>False) rfl rfl ?aP (fun _ hk=>hk.elim) ?aF ?aO ?aB ?aS ?aL ?_;(case aP=>exact rfl);(case aB=>exact (by repeat first|(with_reducible first|exact HB.out|apply bA|apply bN|apply bD)|exact HB.out));(case aF=>exact (fun k_ hk=>⟨Kd.fresh' (rL (by (with_reducible repeat first|apply rA|apply rN|apply rD);exact HO_5.out)) k_ hk,Kd.fresh' (rL (by (with_reducible repeat first|apply rA|apply rN|apply rD);exact HO_30.out)) k_ hk⟩));(case aO=>exact (by (with_reducible repeat first|apply rA|apply rN|apply rD);exact HO_6.out));(case aS=>exact (bZ (by repeat first|(with_reducible first|exact HB.out|apply bA|apply bN|apply bD)|exact HB.out)));(case aL=>have:=LMc26.out;omega);intro v114 w27 ho hb hg hat;rw [←Ny113.out] at ho;have n0_:=mA (rJ (ok:=(fun _=>True)) (by (with_reducible repeat first|apply rA|apply rN|apply rD);exact rM HO_5.out (fun _ hk=>⟨trivial,hk⟩)) hg hat);have n1_:=mA (rJ (ok:=(fun _=>True)) (by (with_reducible repeat first|apply rA|apply rN|apply rD);exact rM HO_30.out (fun _ hk=>⟨trivial,hk⟩)) hg hat);have n2_:=mA (hb);have n3_:=mA (ho);clear HO_5 HO_30 HB HO_6;have HO_5:=n0_;have HO_30:=n1_;have HB:=n2_;have HO115:=n3_;clear n0_ n1_ n2_ n3_ ho hb hg hat))
           go_roundg k2
           case measure=>have:=HK1.out;have:=HK2.out;omega
           case rel=>exact ⟨(y113),(wrap64 (x21_1+1)),(by first|rfl|(simp;done)|(simp [*];done)),H',⟨by have:=HK1.out;have:=HK2.out;omega⟩,⟨by (with_reducible repeat first|apply rA|apply rN|apply rD);exact rM HO_5.out (fun _ hk=>hk.2)⟩,⟨by (with_reducible repeat first|apply rA|apply rN|apply rD);exact rM HO115.out (fun _ hk=>hk.1)⟩,⟨by repeat (first|(with_reducible first|exact HB.out|apply bA|apply bN|apply bD)|exact HB.out)⟩⟩
          ·rw [if_neg c26] at H
           exact absurd H (by simp)
      ·rw [if_neg c16] at H
       exact absurd H (by simp)
     ·rw [if_neg c15] at H
      exact absurd H (by simp)
    ·rw [if_neg c14] at H
     have c14b0:decide (x21_1<a0)=false:=decide_eq_false c14
     clear c14
     obtain rfl:=Option.some.inj H
     go_wp2
     go_ret
     exact ⟨_,by first|rfl|(simp [errW_none,errW_some]<;>rfl)|(simp [*, errW_none,errW_some]<;>rfl),by (with_reducible repeat first|apply rA|apply rN|apply rD);exact rM HO_6.out (fun _ hk=>trivial),by repeat (first|(with_reducible first|exact HB.out|apply bA|apply bN|apply bD)|exact HB.out)⟩
/-! ### laws_eqIntS: function 15 -/
def laws_eqIntS.l0:Nat→List Int→List Int→Int→Option (Bool)
 | 0,_,_,_=>none
 | k+1,x0,x1,x5=>if x5<(x0.length:Int) then (if 0≤x5 then (if x5<(x1.length:Int) then (if (rd x0 x5)=(rd x1 x5) then (laws_eqIntS.l0 k x0 x1 (wrap64 (x5+1))) else (some false)) else (none)) else (none)) else (some true)
def laws_eqIntS.f (k:Nat) (l0:List Int) (l1:List Int):Option (Bool):=if (l0.length:Int)=(l1.length:Int) then (laws_eqIntS.l0 k l0 l1 0) else (some false)
theorem laws_eqIntS.mono_l : ∀ k,(∀ y0 y1 y2,LeO (laws_eqIntS.l0 k y0 y1 y2) (laws_eqIntS.l0 (k+1) y0 y1 y2))
 | 0=>fun _ _ _ r h=>by simp [laws_eqIntS.l0] at h
 | k+1=>by
  have ih0:=laws_eqIntS.mono_l k
  ·intro y0 y1 y2
   unfold laws_eqIntS.l0
   repeat' first
   | (with_reducible exact ih0 _ _ _)
   | (with_reducible exact LeO.refl _)
   | (with_reducible exact LeO.none _)
   | (with_reducible refine LeO.ite ?_ ?_)
   | (with_reducible refine LeO.bind ?_ (fun _=>?_))
   | exact ih0 _ _ _
   | exact LeO.none _
   | refine LeO.ite ?_ ?_
   | refine LeO.bind ?_ (fun _=>?_)
theorem laws_eqIntS.mono : ∀ a0 a1 k,LeO (laws_eqIntS.f k a0 a1) (laws_eqIntS.f (k+1) a0 a1):=by
 intro a0 a1 k
 have ih0:=laws_eqIntS.mono_l k
 unfold laws_eqIntS.f
 repeat' first
   | (with_reducible exact ih0 _ _ _)
   | (with_reducible exact LeO.refl _)
   | (with_reducible exact LeO.none _)
   | (with_reducible refine LeO.ite ?_ ?_)
   | (with_reducible refine LeO.bind ?_ (fun _=>?_))
   | exact ih0 _ _ _
   | exact LeO.none _
   | refine LeO.ite ?_ ?_
   | refine LeO.bind ?_ (fun _=>?_)
set_option maxHeartbeats 8000000 in
set_option maxRecDepth 100000 in
theorem laws_eqIntS.calls (k:Nat) (A0:Option Addr) (c0:Nat) (l0:List Int) (A1:Option Addr) (c1:Nat) (l1:List Int) (r:Bool) (w:World) (hr0:Kd.C (Kd.int .i64) w A0 l0.length l0) (hc0:l0.length≤c0) (hr1:Kd.C (Kd.int .i64) w A1 l1.length l1) (hc1:l1.length≤c1) (h:laws_eqIntS.f k l0 l1=some r) :
  Calls Try.prog 15 #[.slice A0 l0.length c0,.slice A1 l1.length c1] w fun e w'=>e = .returned (.bool r)∧Drawn0 w w':=by
 have HR0:=mA hr0
 have HC0:=mA hc0
 clear hr0 hc0
 have HR1:=mA hr1
 have HC1:=mA hc1
 clear hr1 hc1
 have H:(if (l0.length:Int)=(l1.length:Int) then (laws_eqIntS.l0 k l0 l1 0) else (some false))=some r:=h
 clear h
 by_cases c3:(l0.length:Int)=(l1.length:Int)
 ·rw [if_pos c3] at H
  have c3b0:((l0.length:Int)==(l1.length:Int))=true:=beq_iff_eq.mpr c3
  have c3b1:((l0.length:Int) != (l1.length:Int))=false:=bne_eq_false_iff_eq.mpr c3
  have c3b2:(l0.length==l1.length)=true:=by first|simpa using c3|(simp at c3 ⊢;omega)
  clear c3
  have H':=mA H
  clear H
  go_enter Try.func15,Try.ntmps15
  go_wp2
  repeat (go_quiet (fail);try go_wp2)
  go_loopg [5] k (fun kq v5 w'=>∃ (x5_1:Int),v5 = .int .i64 x5_1∧Aside0 (laws_eqIntS.l0 kq l0 l1 x5_1=some r)∧Aside0 (kq≤k)∧Drawn0 w w')
  case atStart=>exact ⟨(0),(by first|rfl|(simp;done)|(simp [*];done)),H',⟨Nat.le_refl _⟩,by repeat (first|exact Drawn0.refl _|apply Drawn0.step)⟩
  case round =>
   clear H'
   try clear c1
   try clear p2
   try clear c3
   try clear c3b0
   try clear c3b1
   try clear c3b2
   obtain ⟨x5_1,rfl,HA,HK1,⟨m1,rfl⟩⟩:=hrel
   cases gk with
   | zero=>exact absurd HA.out (by simp [laws_eqIntS.l0])
   | succ k1 =>
    have H:=HA.out
    clear HA
    simp only [laws_eqIntS.l0] at H
    by_cases c4:x5_1<(l0.length:Int)
    ·rw [if_pos c4] at H
     have c4b0:decide (x5_1<(l0.length:Int))=true:=decide_eq_true c4
     clear c4
     by_cases c5:0≤x5_1
     ·rw [if_pos c5] at H
      have c5b0:decide (0≤x5_1)=true:=decide_eq_true c5
      clear c5
      by_cases c6:x5_1<(l1.length:Int)
      ·rw [if_pos c6] at H
       have c6b0:decide (x5_1<(l1.length:Int))=true:=decide_eq_true c6
       clear c6
       by_cases c7:(rd l0 x5_1)=(rd l1 x5_1)
       ·rw [if_pos c7] at H
        have c7b0:((rd l0 x5_1)==(rd l1 x5_1))=true:=beq_iff_eq.mpr c7
        have c7b1:((rd l0 x5_1) != (rd l1 x5_1))=false:=bne_eq_false_iff_eq.mpr c7
        clear c7
        have H':=mA H
        clear H
        have p101:0≤(x5_1:Int):=of_decide_eq_true (by first|with_reducible assumption|assumption)
        have q101:x5_1<(l0.length:Int):=of_decide_eq_true (by first|with_reducible assumption|assumption)
        obtain ⟨ad101,e101,hx101_0⟩:=Kd.at_int HR0.out x5_1 p101 q101
        cases e101
        replace p101:=eq_true p101
        replace q101:=eq_true q101
        have p102:0≤(x5_1:Int):=of_decide_eq_true (by first|with_reducible assumption|assumption)
        have q102:x5_1<(l1.length:Int):=of_decide_eq_true (by first|with_reducible assumption|assumption)
        obtain ⟨ad102,e102,hx102_0⟩:=Kd.at_int HR1.out x5_1 p102 q102
        cases e102
        replace p102:=eq_true p102
        replace q102:=eq_true q102
        go_wp2
        repeat (go_quiet (fail);try go_wp2)
        go_roundg k1
        case measure=>have:=HK1.out;omega
        case rel=>exact ⟨(wrap64 (x5_1+1)),(by first|rfl|(simp;done)|(simp [*];done)),H',⟨by have:=HK1.out;omega⟩,by repeat (first|exact Drawn0.refl _|apply Drawn0.step)⟩
       ·rw [if_neg c7] at H
        have c7b0:((rd l0 x5_1)==(rd l1 x5_1))=false:=beq_eq_false_iff_ne.mpr c7
        have c7b1:((rd l0 x5_1) != (rd l1 x5_1))=true:=bne_iff_ne.mpr c7
        obtain rfl:=Option.some.inj H
        have p101:0≤(x5_1:Int):=of_decide_eq_true (by first|with_reducible assumption|assumption)
        have q101:x5_1<(l0.length:Int):=of_decide_eq_true (by first|with_reducible assumption|assumption)
        obtain ⟨ad101,e101,hx101_0⟩:=Kd.at_int HR0.out x5_1 p101 q101
        cases e101
        replace p101:=eq_true p101
        replace q101:=eq_true q101
        have p102:0≤(x5_1:Int):=of_decide_eq_true (by first|with_reducible assumption|assumption)
        have q102:x5_1<(l1.length:Int):=of_decide_eq_true (by first|with_reducible assumption|assumption)
        obtain ⟨ad102,e102,hx102_0⟩:=Kd.at_int HR1.out x5_1 p102 q102
        cases e102
        replace p102:=eq_true p102
        replace q102:=eq_true q102
        go_wp2
        repeat (go_quiet (fail);try go_wp2)
        go_ret
        exact ⟨by first|rfl|(simp;done)|(simp [*];done),by repeat (first|exact Drawn0.refl _|apply Drawn0.step)⟩
      ·rw [if_neg c6] at H
       exact absurd H (by simp)
     ·rw [if_neg c5] at H
      exact absurd H (by simp)
    ·rw [if_neg c4] at H
     have c4b0:decide (x5_1<(l0.length:Int))=false:=decide_eq_false c4
     clear c4
     obtain rfl:=Option.some.inj H
     go_wp2
     repeat (go_quiet (fail);try go_wp2)
     go_ret
     exact ⟨by first|rfl|(simp;done)|(simp [*];done),by repeat (first|exact Drawn0.refl _|apply Drawn0.step)⟩
 ·rw [if_neg c3] at H
  have c3b0:((l0.length:Int)==(l1.length:Int))=false:=beq_eq_false_iff_ne.mpr c3
  have c3b1:((l0.length:Int) != (l1.length:Int))=true:=bne_iff_ne.mpr c3
  have c3b2:(l0.length==l1.length)=false:=by first|simpa using c3|(simp at c3 ⊢;omega)
  obtain rfl:=Option.some.inj H
  go_enter Try.func15,Try.ntmps15
  go_wp2
  repeat (go_quiet (fail);try go_wp2)
  go_ret
  exact ⟨by first|rfl|(simp;done)|(simp [*];done),by repeat (first|exact Drawn0.refl _|apply Drawn0.step)⟩
/-! ### laws_markIntS: function 16 -/
def laws_markIntS.l0:Nat→List Int→Int→Int→Option (Int×List Int)
 | 0,_,_,_=>none
 | k+1,x0,x1,x5=>if x5<(x0.length:Int) then (if 0≤x5 then (laws_markIntS.l0 k (x0.set (x5:Int).toNat x1) (wrap64 (x1+1)) (wrap64 (x5+1))) else (none)) else (some (x1,x0))
def laws_markIntS.f (k:Nat) (l0:List Int) (a1:Int):Option (Int×List Int):=laws_markIntS.l0 k l0 a1 0
theorem laws_markIntS.mono_l : ∀ k,(∀ y0 y1 y2,LeO (laws_markIntS.l0 k y0 y1 y2) (laws_markIntS.l0 (k+1) y0 y1 y2))
 | 0=>fun _ _ _ r h=>by simp [laws_markIntS.l0] at h
 | k+1=>by
  have ih0:=laws_markIntS.mono_l k
  ·intro y0 y1 y2
   unfold laws_markIntS.l0
   repeat' first
   | (with_reducible exact ih0 _ _ _)
   | (with_reducible exact LeO.refl _)
   | (with_reducible exact LeO.none _)
   | (with_reducible refine LeO.ite ?_ ?_)
   | (with_reducible refine LeO.bind ?_ (fun _=>?_))
   | exact ih0 _ _ _
   | exact LeO.none _
   | refine LeO.ite ?_ ?_
   | refine LeO.bind ?_ (fun _=>?_)
theorem laws_markIntS.mono : ∀ a0 a1 k,LeO (laws_markIntS.f k a0 a1) (laws_markIntS.f (k+1) a0 a1):=by
 intro a0 a1 k
 have ih0:=laws_markIntS.mono_l k
 unfold laws_markIntS.f
 repeat' first
   | (with_reducible exact ih0 _ _ _)
   | (with_reducible exact LeO.refl _)
   | (with_reducible exact LeO.none _)
   | (with_reducible refine LeO.ite ?_ ?_)
   | (with_reducible refine LeO.bind ?_ (fun _=>?_))
   | exact ih0 _ _ _
   | exact LeO.none _
   | refine LeO.ite ?_ ?_
   | refine LeO.bind ?_ (fun _=>?_)
set_option maxHeartbeats 8000000 in
set_option maxRecDepth 100000 in
theorem laws_markIntS.calls (k:Nat) (P0_:Nat→Prop) (u9000_:Value) (l0:List Int) (a1:Int) (r1:Int) (r2:List Int) (w0 w:World) (hB:Below w0.heap.size w0 w) (ho0:Kd.R (Kd.int .i64) 3 w w0.heap.size P0_ u9000_ l0) (h:laws_markIntS.f k l0 a1=some (r1,r2)) :
  Calls Try.prog 16 #[u9000_,.int .i64 a1] w fun e w'=>e = .returned (.int .i64 r1)∧Kd.R (Kd.int .i64) 3 w' w0.heap.size (fun k_=>(P0_ k_∨w.heap.size≤k_)) u9000_ r2∧Below w0.heap.size w0 w'∧Kept w w' (fun k_=>P0_ k_):=by
 have HO0:=mA (show Kd.R (Kd.int .i64) 3 w w0.heap.size (fun k_=>(P0_ k_∨w.heap.size≤k_)) u9000_ l0 from rM ho0 (fun k_ hk=>(.inl hk)))
 have HK:=mA (Kept.refl w (fun k_=>P0_ k_))
 have HW0:=mA hB.size
 have HB:=mA hB
 clear hB
 have H:(laws_markIntS.l0 k l0 a1 0)=some (r1,r2):=h
 clear h
 have H':=mA H
 clear H
 go_enter Try.func16,Try.ntmps16
 go_wp2
 go_loopg [1,5] k (fun kq v1 v5 w'=>∃ (x0_1:List Int) (x1_1:Int) (x5_1:Int),v1 = .int .i64 x1_1∧v5 = .int .i64 x5_1∧Aside0 (laws_markIntS.l0 kq x0_1 x1_1 x5_1=some (r1,r2))∧Aside0 (kq≤k)∧Aside0 (Kd.R (Kd.int .i64) 3 w' w0.heap.size (fun k_=>(P0_ k_∨w.heap.size≤k_)) u9000_ x0_1)∧Aside0 (Kept w w' (fun k_=>P0_ k_))∧Aside0 (Below w0.heap.size w0 w'))
 case atStart=>exact ⟨(l0),(a1),(0),(by first|rfl|(simp;done)|(simp [*];done)),(by first|rfl|(simp;done)|(simp [*];done)),H',⟨Nat.le_refl _⟩,⟨by (with_reducible repeat first|apply rA|apply rN|apply rD);exact HO0.out⟩,⟨by repeat (first|(with_reducible first|exact HK.out|apply Kept.alloc|apply Kept.drewN|apply Kept.drew)|exact HK.out)⟩,⟨by repeat (first|(with_reducible first|exact HB.out|apply bA|apply bN|apply bD)|exact HB.out)⟩⟩
 case round =>
  clear H'
  try clear c1
  try clear p2
  obtain ⟨x0_1,x1_1,x5_1,rfl,rfl,HA,HK1,HO_0,HK,HB⟩:=hrel
  cases gk with
  | zero=>exact absurd HA.out (by simp [laws_markIntS.l0])
  | succ k1 =>
   have H:=HA.out
   clear HA
   simp only [laws_markIntS.l0] at H
   by_cases c3:x5_1<(x0_1.length:Int)
   ·rw [if_pos c3] at H
    have c3b0:decide (x5_1<(x0_1.length:Int))=true:=decide_eq_true c3
    clear c3
    by_cases c4:0≤x5_1
    ·rw [if_pos c4] at H
     have c4b0:decide (0≤x5_1)=true:=decide_eq_true c4
     clear c4
     obtain ⟨y101,hy101⟩ : ∃ y_:List Int,y_=(x0_1.set (x5_1:Int).toNat x1_1):=⟨_,rfl⟩
     replace H:(laws_markIntS.l0 k1 y101 (wrap64 (x1_1+1)) (wrap64 (x5_1+1)))=some (r1,r2):=by first|(rw [hy101];with_reducible exact H)|(have H2_:=(Option.bind_some _ _).symm.trans H;rw [hy101];with_reducible exact H2_)|(have H2_:=(Option.bind_some _ _).symm.trans H;with_reducible exact H2_)|with_reducible exact H|(rw [hy101];exact H)|exact H
     have Ny101:=mA hy101
     clear hy101
     have H':=mA H
     clear H
     obtain ⟨Ao6,co6,eo6⟩:=Kd.R_slice HO_0.out
     subst eo6
     have p5:0≤(x5_1:Int):=of_decide_eq_true (by first|with_reducible assumption|assumption)
     have q5:(x5_1:Int)<((x0_1.length:Int):Int):=of_decide_eq_true (by first|with_reducible assumption|assumption)
     obtain ⟨go5,co5,eo5,gb5,gl5,cl5,HG5⟩:=Kd.R_form HO_0.out (by omega)
     (first|cases eo5|(injection eo5 with ea_ en_ ec_;(first|subst ea_|(injection ea_ with ea_;subst ea_));subst ec_;clear en_))
     have GB5:=mA gb5
     have GG5:=mA HG5
     clear gb5 gl5 HG5
     have HMgo5:=mA (show (P0_ go5∨w.heap.size≤go5) from (HO_0.out.1 _ rfl))
     obtain ⟨hx5_0,hf5_0⟩:=Kd.R_celln 0 HO_0.out (x5_1:Int) p5 q5
     replace p5:=eq_true p5
     replace q5:=eq_true q5
     have HP7:=Kd.R_putg HO_0.out (x5_1:Int) x1_1
     go_wp2_with (first|((with_reducible refine gate_store (t:=3) (p:=15) rfl ?_);refine store_event (t:=3) (p:=15) (v:=?vo_w8) (w1:=(wr.setCell ⟨go5,(x5_1:Int).toNat,none⟩ (.int .i64 x1_1))) ?hg ?ho ?hn ?hr ?_;(case ho=>rfl);(case hg=>rfl);(case hn=>rfl);(case hr=>first|(go_simp;done)|(go_simp;rfl));intro w8 hw;have hg:wr.grownBy w8 (some go5):=(by rw [hw];exact HP7.2);have hp_:Kd.R (Kd.int .i64) 3 w8 w0.heap.size (fun k_=>(P0_ k_∨w.heap.size≤k_)) (.slice (some ⟨go5,0,none⟩) x0_1.length co6) y101:=(by rw [hw,Ny101.out];exact HP7.1);clear HP7;have n0_:=mA (hp_);have n1_:=mA ((by rw [hw];exact bS (HB.out) GB5.out:Below w0.heap.size w0 w8));have n2_:=mA (Kept.of_grown (S:=(fun k_=>P0_ k_)) hg (by repeat first|(with_reducible first|exact HK.out|apply Kept.alloc|apply Kept.drewN|apply Kept.drew)|exact HK.out) (fun k_ e_=>(HO_0.out.1 k_ e_)));clear HO_0 HB HK;have HO_0:=n0_;have HB:=n1_;have HK:=n2_;clear n0_ n1_ n2_ hg hw hp_))
     go_roundg k1
     case measure=>have:=HK1.out;omega
     case rel=>exact ⟨(y101),(wrap64 (x1_1+1)),(wrap64 (x5_1+1)),(by first|rfl|(simp;done)|(simp [*];done)),(by first|rfl|(simp;done)|(simp [*];done)),H',⟨by have:=HK1.out;omega⟩,⟨by (with_reducible repeat first|apply rA|apply rN|apply rD);exact HO_0.out⟩,⟨by repeat (first|(with_reducible first|exact HK.out|apply Kept.alloc|apply Kept.drewN|apply Kept.drew)|exact HK.out)⟩,⟨by repeat (first|(with_reducible first|exact HB.out|apply bA|apply bN|apply bD)|exact HB.out)⟩⟩
    ·rw [if_neg c4] at H
     exact absurd H (by simp)
   ·rw [if_neg c3] at H
    have c3b0:decide (x5_1<(x0_1.length:Int))=false:=decide_eq_false c3
    clear c3
    simp only [Option.some.injEq,Prod.mk.injEq] at H
    obtain ⟨rfl,rfl⟩:=H
    obtain ⟨Ao9,co9,eo9⟩:=Kd.R_slice HO_0.out
    subst eo9
    go_wp2
    go_ret
    exact ⟨by first|rfl|(simp [errW_none,errW_some]<;>rfl)|(simp [*, errW_none,errW_some]<;>rfl),by (with_reducible repeat first|apply rA|apply rN|apply rD);exact HO_0.out,by repeat (first|(with_reducible first|exact HB.out|apply bA|apply bN|apply bD)|exact HB.out),by repeat (first|(with_reducible first|exact HK.out|apply Kept.alloc|apply Kept.drewN|apply Kept.drew)|exact HK.out)⟩
/-! ### laws_heldIntS: function 17 -/
def laws_heldIntS.l0:Nat→List Int→Int→Int→Option (Int)
 | 0,_,_,_=>none
 | k+1,x0,x1,x5=>if x5<(x0.length:Int) then (if 0≤x5 then (if (rd x0 x5)=x1 then (laws_heldIntS.l0 k x0 (wrap64 (x1+1)) (wrap64 (x5+1))) else (some (-1))) else (none)) else (some x1)
def laws_heldIntS.f (k:Nat) (l0:List Int) (a1:Int):Option (Int):=laws_heldIntS.l0 k l0 a1 0
theorem laws_heldIntS.mono_l : ∀ k,(∀ y0 y1 y2,LeO (laws_heldIntS.l0 k y0 y1 y2) (laws_heldIntS.l0 (k+1) y0 y1 y2))
 | 0=>fun _ _ _ r h=>by simp [laws_heldIntS.l0] at h
 | k+1=>by
  have ih0:=laws_heldIntS.mono_l k
  ·intro y0 y1 y2
   unfold laws_heldIntS.l0
   repeat' first
   | (with_reducible exact ih0 _ _ _)
   | (with_reducible exact LeO.refl _)
   | (with_reducible exact LeO.none _)
   | (with_reducible refine LeO.ite ?_ ?_)
   | (with_reducible refine LeO.bind ?_ (fun _=>?_))
   | exact ih0 _ _ _
   | exact LeO.none _
   | refine LeO.ite ?_ ?_
   | refine LeO.bind ?_ (fun _=>?_)
theorem laws_heldIntS.mono : ∀ a0 a1 k,LeO (laws_heldIntS.f k a0 a1) (laws_heldIntS.f (k+1) a0 a1):=by
 intro a0 a1 k
 have ih0:=laws_heldIntS.mono_l k
 unfold laws_heldIntS.f
 repeat' first
   | (with_reducible exact ih0 _ _ _)
   | (with_reducible exact LeO.refl _)
   | (with_reducible exact LeO.none _)
   | (with_reducible refine LeO.ite ?_ ?_)
   | (with_reducible refine LeO.bind ?_ (fun _=>?_))
   | exact ih0 _ _ _
   | exact LeO.none _
   | refine LeO.ite ?_ ?_
   | refine LeO.bind ?_ (fun _=>?_)
set_option maxHeartbeats 8000000 in
set_option maxRecDepth 100000 in
theorem laws_heldIntS.calls (k:Nat) (A0:Option Addr) (c0:Nat) (l0:List Int) (a1:Int) (r:Int) (w:World) (hr0:Kd.C (Kd.int .i64) w A0 l0.length l0) (hc0:l0.length≤c0) (h:laws_heldIntS.f k l0 a1=some r) :
  Calls Try.prog 17 #[.slice A0 l0.length c0,.int .i64 a1] w fun e w'=>e = .returned (.int .i64 r)∧Drawn0 w w':=by
 have HR0:=mA hr0
 have HC0:=mA hc0
 clear hr0 hc0
 have H:(laws_heldIntS.l0 k l0 a1 0)=some r:=h
 clear h
 have H':=mA H
 clear H
 go_enter Try.func17,Try.ntmps17
 go_wp2
 go_loopg [1,5] k (fun kq v1 v5 w'=>∃ (x1_1:Int) (x5_1:Int),v1 = .int .i64 x1_1∧v5 = .int .i64 x5_1∧Aside0 (laws_heldIntS.l0 kq l0 x1_1 x5_1=some r)∧Aside0 (kq≤k)∧Drawn0 w w')
 case atStart=>exact ⟨(a1),(0),(by first|rfl|(simp;done)|(simp [*];done)),(by first|rfl|(simp;done)|(simp [*];done)),H',⟨Nat.le_refl _⟩,by repeat (first|exact Drawn0.refl _|apply Drawn0.step)⟩
 case round =>
  clear H'
  try clear c1
  try clear p2
  obtain ⟨x1_1,x5_1,rfl,rfl,HA,HK1,⟨m1,rfl⟩⟩:=hrel
  cases gk with
  | zero=>exact absurd HA.out (by simp [laws_heldIntS.l0])
  | succ k1 =>
   have H:=HA.out
   clear HA
   simp only [laws_heldIntS.l0] at H
   by_cases c3:x5_1<(l0.length:Int)
   ·rw [if_pos c3] at H
    have c3b0:decide (x5_1<(l0.length:Int))=true:=decide_eq_true c3
    clear c3
    by_cases c4:0≤x5_1
    ·rw [if_pos c4] at H
     have c4b0:decide (0≤x5_1)=true:=decide_eq_true c4
     clear c4
     by_cases c5:(rd l0 x5_1)=x1_1
     ·rw [if_pos c5] at H
      have c5b0:((rd l0 x5_1)==x1_1)=true:=beq_iff_eq.mpr c5
      have c5b1:((rd l0 x5_1) != x1_1)=false:=bne_eq_false_iff_eq.mpr c5
      clear c5
      have H':=mA H
      clear H
      have p101:0≤(x5_1:Int):=of_decide_eq_true (by first|with_reducible assumption|assumption)
      have q101:x5_1<(l0.length:Int):=of_decide_eq_true (by first|with_reducible assumption|assumption)
      obtain ⟨ad101,e101,hx101_0⟩:=Kd.at_int HR0.out x5_1 p101 q101
      cases e101
      replace p101:=eq_true p101
      replace q101:=eq_true q101
      go_wp2
      go_roundg k1
      case measure=>have:=HK1.out;omega
      case rel=>exact ⟨(wrap64 (x1_1+1)),(wrap64 (x5_1+1)),(by first|rfl|(simp;done)|(simp [*];done)),(by first|rfl|(simp;done)|(simp [*];done)),H',⟨by have:=HK1.out;omega⟩,by repeat (first|exact Drawn0.refl _|apply Drawn0.step)⟩
     ·rw [if_neg c5] at H
      have c5b0:((rd l0 x5_1)==x1_1)=false:=beq_eq_false_iff_ne.mpr c5
      have c5b1:((rd l0 x5_1) != x1_1)=true:=bne_iff_ne.mpr c5
      obtain rfl:=Option.some.inj H
      have p101:0≤(x5_1:Int):=of_decide_eq_true (by first|with_reducible assumption|assumption)
      have q101:x5_1<(l0.length:Int):=of_decide_eq_true (by first|with_reducible assumption|assumption)
      obtain ⟨ad101,e101,hx101_0⟩:=Kd.at_int HR0.out x5_1 p101 q101
      cases e101
      replace p101:=eq_true p101
      replace q101:=eq_true q101
      go_wp2
      go_ret
      exact ⟨by first|rfl|(simp;done)|(simp [*];done),by repeat (first|exact Drawn0.refl _|apply Drawn0.step)⟩
    ·rw [if_neg c4] at H
     exact absurd H (by simp)
   ·rw [if_neg c3] at H
    have c3b0:decide (x5_1<(l0.length:Int))=false:=decide_eq_false c3
    clear c3
    obtain rfl:=Option.some.inj H
    go_wp2
    go_ret
    exact ⟨by first|rfl|(simp;done)|(simp [*];done),by repeat (first|exact Drawn0.refl _|apply Drawn0.step)⟩
/-! ### laws_FnExactKnownPeople: function 4 -/
def laws_FnExactKnownPeople.j0:Nat→Int→List (S38)→List Int→List Int→Bool→Option (Bool)
 | 0,_,_,_,_,_=>none
 | k+1,x0,x1,x6,x8,x46=>if x46=true then (some false) else ((laws_markIntS.f k x8 1).bind fun bt121=>((laws_heldIntS.f k bt121.2 1).bind fun t123=>(if t123<0 then (some false) else (if t123=bt121.1 then ((laws_toClaimS.f k x1).bind fun t124=>((impl_KnownPeople.f k x0 t124).bind fun t127=>((laws_eqIntS.f k t127 x6).bind fun t130=>(if t130=true then ((laws_heldIntS.f k bt121.2 1).bind fun t131=>(if t131<0 then (some false) else (if t131=bt121.1 then (some true) else (some false)))) else (some false))))) else (some false)))))
def laws_FnExactKnownPeople.f (k:Nat) (a0:Int) (l1:List (S38)):Option (Bool):=(laws_szClaimS.f k l1 1048576).bind fun t101=>(if t101<0 then (some true) else ((laws_toClaimS.f k l1).bind fun t102=>((spec_KnownPeople.f k a0 t102).bind fun t105=>((laws_toClaimS.f k l1).bind fun t108=>((impl_KnownPeople.f k a0 t108).bind fun t111=>((laws_eqIntS.f k t111 t105).bind fun t114=>(if t114=true then ((laws_toClaimS.f k l1).bind fun t115=>((laws_eqClaimS.f k t108 t115).bind fun t118=>(if t118=true then ((laws_markClaimS.f k t108 1).bind fun t119=>(if t119<0 then (laws_FnExactKnownPeople.j0 k a0 l1 t105 t111 true) else ((laws_eqIntS.f k t111 t105).bind fun t120=>(laws_FnExactKnownPeople.j0 k a0 l1 t105 t111 (!t120))))) else (some false)))) else (some false))))))))
theorem laws_FnExactKnownPeople.mono_l : ∀ k,(∀ y0 y1 y2 y3 y4,LeO (laws_FnExactKnownPeople.j0 k y0 y1 y2 y3 y4) (laws_FnExactKnownPeople.j0 (k+1) y0 y1 y2 y3 y4))
 | 0=>fun _ _ _ _ _ r h=>by simp [laws_FnExactKnownPeople.j0] at h
 | k+1=>by
  have ih0:=laws_FnExactKnownPeople.mono_l k
  ·intro y0 y1 y2 y3 y4
   unfold laws_FnExactKnownPeople.j0
   repeat' first
   | (with_reducible exact ih0 _ _ _ _ _)
   | (with_reducible exact impl_KnownPeople.mono _ _ _)
   | (with_reducible exact laws_eqClaimS.mono _ _ _)
   | (with_reducible exact laws_eqIntS.mono _ _ _)
   | (with_reducible exact laws_heldIntS.mono _ _ _)
   | (with_reducible exact laws_markClaimS.mono _ _ _)
   | (with_reducible exact laws_markIntS.mono _ _ _)
   | (with_reducible exact laws_szClaimS.mono _ _ _)
   | (with_reducible exact laws_toClaimS.mono _ _)
   | (with_reducible exact spec_KnownPeople.mono _ _ _)
   | (with_reducible exact LeO.refl _)
   | (with_reducible exact LeO.none _)
   | (with_reducible refine LeO.ite ?_ ?_)
   | (with_reducible refine LeO.bind ?_ (fun _=>?_))
   | exact ih0 _ _ _ _ _
   | exact impl_KnownPeople.mono _ _ _
   | exact laws_eqClaimS.mono _ _ _
   | exact laws_eqIntS.mono _ _ _
   | exact laws_heldIntS.mono _ _ _
   | exact laws_markClaimS.mono _ _ _
   | exact laws_markIntS.mono _ _ _
   | exact laws_szClaimS.mono _ _ _
   | exact laws_toClaimS.mono _ _
   | exact spec_KnownPeople.mono _ _ _
   | exact LeO.none _
   | refine LeO.ite ?_ ?_
   | refine LeO.bind ?_ (fun _=>?_)
theorem laws_FnExactKnownPeople.mono : ∀ a0 a1 k,LeO (laws_FnExactKnownPeople.f k a0 a1) (laws_FnExactKnownPeople.f (k+1) a0 a1):=by
 intro a0 a1 k
 have ih0:=laws_FnExactKnownPeople.mono_l k
 unfold laws_FnExactKnownPeople.f
 repeat' first
   | (with_reducible exact ih0 _ _ _ _ _)
   | (with_reducible exact impl_KnownPeople.mono _ _ _)
   | (with_reducible exact laws_eqClaimS.mono _ _ _)
   | (with_reducible exact laws_eqIntS.mono _ _ _)
   | (with_reducible exact laws_heldIntS.mono _ _ _)
   | (with_reducible exact laws_markClaimS.mono _ _ _)
   | (with_reducible exact laws_markIntS.mono _ _ _)
   | (with_reducible exact laws_szClaimS.mono _ _ _)
   | (with_reducible exact laws_toClaimS.mono _ _)
   | (with_reducible exact spec_KnownPeople.mono _ _ _)
   | (with_reducible exact LeO.refl _)
   | (with_reducible exact LeO.none _)
   | (with_reducible refine LeO.ite ?_ ?_)
   | (with_reducible refine LeO.bind ?_ (fun _=>?_))
   | exact ih0 _ _ _ _ _
   | exact impl_KnownPeople.mono _ _ _
   | exact laws_eqClaimS.mono _ _ _
   | exact laws_eqIntS.mono _ _ _
   | exact laws_heldIntS.mono _ _ _
   | exact laws_markClaimS.mono _ _ _
   | exact laws_markIntS.mono _ _ _
   | exact laws_szClaimS.mono _ _ _
   | exact laws_toClaimS.mono _ _
   | exact spec_KnownPeople.mono _ _ _
   | exact LeO.none _
   | refine LeO.ite ?_ ?_
   | refine LeO.bind ?_ (fun _=>?_)
set_option maxHeartbeats 8000000 in
set_option maxRecDepth 100000 in
theorem laws_FnExactKnownPeople.calls (k:Nat) (a0:Int) (A1:Option Addr) (c1:Nat) (l1:List (S38)) (r:Bool) (w:World) (hr1:Kd.C k38 w A1 l1.length l1) (hc1:l1.length≤c1) (hr_:Aside0 (r=true)) (h:laws_FnExactKnownPeople.f k a0 l1=some r) :
  Calls Try.prog 4 #[.int .i64 a0,.slice A1 l1.length c1] w fun e w'=>e = .returned (.bool r)∧Below w.heap.size w w':=by
 have HR1:=mA hr1
 have HC1:=mA hc1
 clear hr1 hc1
 have HB:=mA (Below.refl w.heap.size w)
 have H:((laws_szClaimS.f k l1 1048576).bind fun t101=>(if t101<0 then (some true) else ((laws_toClaimS.f k l1).bind fun t102=>((spec_KnownPeople.f k a0 t102).bind fun t105=>((laws_toClaimS.f k l1).bind fun t108=>((impl_KnownPeople.f k a0 t108).bind fun t111=>((laws_eqIntS.f k t111 t105).bind fun t114=>(if t114=true then ((laws_toClaimS.f k l1).bind fun t115=>((laws_eqClaimS.f k t108 t115).bind fun t118=>(if t118=true then ((laws_markClaimS.f k t108 1).bind fun t119=>(if t119<0 then (laws_FnExactKnownPeople.j0 k a0 l1 t105 t111 true) else ((laws_eqIntS.f k t111 t105).bind fun t120=>(laws_FnExactKnownPeople.j0 k a0 l1 t105 t111 (!t120))))) else (some false)))) else (some false)))))))))=some r:=h
 clear h
 replace H:=Option.bind_eq_some_iff.mp H
 obtain ⟨t101,A30,H⟩:=H
 replace H:(if t101<0 then (some true) else ((laws_toClaimS.f k l1).bind fun t102=>((spec_KnownPeople.f k a0 t102).bind fun t105=>((laws_toClaimS.f k l1).bind fun t108=>((impl_KnownPeople.f k a0 t108).bind fun t111=>((laws_eqIntS.f k t111 t105).bind fun t114=>(if t114=true then ((laws_toClaimS.f k l1).bind fun t115=>((laws_eqClaimS.f k t108 t115).bind fun t118=>(if t118=true then ((laws_markClaimS.f k t108 1).bind fun t119=>(if t119<0 then (laws_FnExactKnownPeople.j0 k a0 l1 t105 t111 true) else ((laws_eqIntS.f k t111 t105).bind fun t120=>(laws_FnExactKnownPeople.j0 k a0 l1 t105 t111 (!t120))))) else (some false)))) else (some false))))))))=some r:=H
 have A3:=mA A30
 clear A30
 by_cases c4:t101<0
 ·rw [if_pos c4] at H
  have c4b0:decide (t101<0)=true:=decide_eq_true c4
  clear c4
  obtain rfl:=Option.some.inj H
  go_enter Try.func4,Try.ntmps4
  go_wp2_with (first|((with_reducible refine gate_callee (f:=6) rfl ?_);refine goesL_ (some 15) rfl rfl Try.func6 (by kernel_rfl) rfl #[.slice A1 l1.length c1,.int .i64 1048576] rfl (by (try simp only [mT,mC,mN]);first|done|rfl|(simp only [lD,lT];rfl)) ?_;(with_reducible refine (laws_szClaimS.calls k _ _ l1 1048576 t101 _ ?side1 ?side2 A3.out).mono ?_);(case side1=>repeat first|exact HR1.out|(with_reducible refine cA ?_ _)|(with_reducible refine cN ?_ _)|(with_reducible refine cD ?_));(case side2=>exact HC1.out);rintro e w5 ⟨rfl,hb⟩;refine ⟨_,rfl,?_⟩;have n0_:=mA (bT (by repeat first|(with_reducible first|exact HB.out|apply bA|apply bN|apply bD)|exact HB.out) hb);clear HB;have HB:=n0_;clear n0_;(try clear hb);(try clear hb2);(try clear hk);(try clear hi)))
  go_ret
  exact ⟨by first|rfl|(simp [errW_none,errW_some]<;>rfl)|(simp [*, errW_none,errW_some]<;>rfl),by repeat (first|(with_reducible first|exact HB.out|apply bA|apply bN|apply bD)|exact HB.out)⟩
 ·rw [if_neg c4] at H
  have c4b0:decide (t101<0)=false:=decide_eq_false c4
  clear c4
  replace H:=Option.bind_eq_some_iff.mp H
  obtain ⟨t102,A60,H⟩:=H
  replace H:((spec_KnownPeople.f k a0 t102).bind fun t105=>((laws_toClaimS.f k l1).bind fun t108=>((impl_KnownPeople.f k a0 t108).bind fun t111=>((laws_eqIntS.f k t111 t105).bind fun t114=>(if t114=true then ((laws_toClaimS.f k l1).bind fun t115=>((laws_eqClaimS.f k t108 t115).bind fun t118=>(if t118=true then ((laws_markClaimS.f k t108 1).bind fun t119=>(if t119<0 then (laws_FnExactKnownPeople.j0 k a0 l1 t105 t111 true) else ((laws_eqIntS.f k t111 t105).bind fun t120=>(laws_FnExactKnownPeople.j0 k a0 l1 t105 t111 (!t120))))) else (some false)))) else (some false))))))=some r:=H
  have A6:=mA A60
  clear A60
  replace H:=Option.bind_eq_some_iff.mp H
  obtain ⟨t105,A70,H⟩:=H
  replace H:((laws_toClaimS.f k l1).bind fun t108=>((impl_KnownPeople.f k a0 t108).bind fun t111=>((laws_eqIntS.f k t111 t105).bind fun t114=>(if t114=true then ((laws_toClaimS.f k l1).bind fun t115=>((laws_eqClaimS.f k t108 t115).bind fun t118=>(if t118=true then ((laws_markClaimS.f k t108 1).bind fun t119=>(if t119<0 then (laws_FnExactKnownPeople.j0 k a0 l1 t105 t111 true) else ((laws_eqIntS.f k t111 t105).bind fun t120=>(laws_FnExactKnownPeople.j0 k a0 l1 t105 t111 (!t120))))) else (some false)))) else (some false)))))=some r:=H
  have A7:=mA A70
  clear A70
  replace H:=Option.bind_eq_some_iff.mp H
  obtain ⟨t108,A80,H⟩:=H
  replace H:((impl_KnownPeople.f k a0 t108).bind fun t111=>((laws_eqIntS.f k t111 t105).bind fun t114=>(if t114=true then ((laws_toClaimS.f k l1).bind fun t115=>((laws_eqClaimS.f k t108 t115).bind fun t118=>(if t118=true then ((laws_markClaimS.f k t108 1).bind fun t119=>(if t119<0 then (laws_FnExactKnownPeople.j0 k a0 l1 t105 t111 true) else ((laws_eqIntS.f k t111 t105).bind fun t120=>(laws_FnExactKnownPeople.j0 k a0 l1 t105 t111 (!t120))))) else (some false)))) else (some false))))=some r:=H
  have A8:=mA A80
  clear A80
  replace H:=Option.bind_eq_some_iff.mp H
  obtain ⟨t111,A90,H⟩:=H
  replace H:((laws_eqIntS.f k t111 t105).bind fun t114=>(if t114=true then ((laws_toClaimS.f k l1).bind fun t115=>((laws_eqClaimS.f k t108 t115).bind fun t118=>(if t118=true then ((laws_markClaimS.f k t108 1).bind fun t119=>(if t119<0 then (laws_FnExactKnownPeople.j0 k a0 l1 t105 t111 true) else ((laws_eqIntS.f k t111 t105).bind fun t120=>(laws_FnExactKnownPeople.j0 k a0 l1 t105 t111 (!t120))))) else (some false)))) else (some false)))=some r:=H
  have A9:=mA A90
  clear A90
  replace H:=Option.bind_eq_some_iff.mp H
  obtain ⟨t114,A100,H⟩:=H
  replace H:(if t114=true then ((laws_toClaimS.f k l1).bind fun t115=>((laws_eqClaimS.f k t108 t115).bind fun t118=>(if t118=true then ((laws_markClaimS.f k t108 1).bind fun t119=>(if t119<0 then (laws_FnExactKnownPeople.j0 k a0 l1 t105 t111 true) else ((laws_eqIntS.f k t111 t105).bind fun t120=>(laws_FnExactKnownPeople.j0 k a0 l1 t105 t111 (!t120))))) else (some false)))) else (some false))=some r:=H
  have A10:=mA A100
  clear A100
  by_cases c11:t114=true
  ·subst c11
   have H1:((laws_toClaimS.f k l1).bind fun t115=>((laws_eqClaimS.f k t108 t115).bind fun t118=>(if t118=true then ((laws_markClaimS.f k t108 1).bind fun t119=>(if t119<0 then (laws_FnExactKnownPeople.j0 k a0 l1 t105 t111 true) else ((laws_eqIntS.f k t111 t105).bind fun t120=>(laws_FnExactKnownPeople.j0 k a0 l1 t105 t111 (!t120))))) else (some false))))=some r:=by rw [if_pos rfl] at H;exact H
   clear H
   have H:=H1
   clear H1
   replace H:=Option.bind_eq_some_iff.mp H
   obtain ⟨t115,A120,H⟩:=H
   replace H:((laws_eqClaimS.f k t108 t115).bind fun t118=>(if t118=true then ((laws_markClaimS.f k t108 1).bind fun t119=>(if t119<0 then (laws_FnExactKnownPeople.j0 k a0 l1 t105 t111 true) else ((laws_eqIntS.f k t111 t105).bind fun t120=>(laws_FnExactKnownPeople.j0 k a0 l1 t105 t111 (!t120))))) else (some false)))=some r:=H
   have A12:=mA A120
   clear A120
   replace H:=Option.bind_eq_some_iff.mp H
   obtain ⟨t118,A130,H⟩:=H
   replace H:(if t118=true then ((laws_markClaimS.f k t108 1).bind fun t119=>(if t119<0 then (laws_FnExactKnownPeople.j0 k a0 l1 t105 t111 true) else ((laws_eqIntS.f k t111 t105).bind fun t120=>(laws_FnExactKnownPeople.j0 k a0 l1 t105 t111 (!t120))))) else (some false))=some r:=H
   have A13:=mA A130
   clear A130
   by_cases c14:t118=true
   ·subst c14
    have H1:((laws_markClaimS.f k t108 1).bind fun t119=>(if t119<0 then (laws_FnExactKnownPeople.j0 k a0 l1 t105 t111 true) else ((laws_eqIntS.f k t111 t105).bind fun t120=>(laws_FnExactKnownPeople.j0 k a0 l1 t105 t111 (!t120)))))=some r:=by rw [if_pos rfl] at H;exact H
    clear H
    have H:=H1
    clear H1
    replace H:=Option.bind_eq_some_iff.mp H
    obtain ⟨t119,A150,H⟩:=H
    replace H:(if t119<0 then (laws_FnExactKnownPeople.j0 k a0 l1 t105 t111 true) else ((laws_eqIntS.f k t111 t105).bind fun t120=>(laws_FnExactKnownPeople.j0 k a0 l1 t105 t111 (!t120))))=some r:=H
    have A15:=mA A150
    clear A150
    have HC16:=mA H
    clear H
    go_enter Try.func4,Try.ntmps4
    go_upto_region 14 with (first|((with_reducible refine gate_callee (f:=6) rfl ?_);refine goesL_ (some 15) rfl rfl Try.func6 (by kernel_rfl) rfl #[.slice A1 l1.length c1,.int .i64 1048576] rfl (by (try simp only [mT,mC,mN]);first|done|rfl|(simp only [lD,lT];rfl)) ?_;(with_reducible refine (laws_szClaimS.calls k _ _ l1 1048576 t101 _ ?side1 ?side2 A3.out).mono ?_);(case side1=>repeat first|exact HR1.out|(with_reducible refine cA ?_ _)|(with_reducible refine cN ?_ _)|(with_reducible refine cD ?_));(case side2=>exact HC1.out);rintro e w17 ⟨rfl,hb⟩;refine ⟨_,rfl,?_⟩;have n0_:=mA (bT (by repeat first|(with_reducible first|exact HB.out|apply bA|apply bN|apply bD)|exact HB.out) hb);clear HB;have HB:=n0_;clear n0_;(try clear hb);(try clear hb2);(try clear hk);(try clear hi))|((with_reducible refine gate_callee (f:=8) rfl ?_);refine goesL_ (some 20) rfl rfl Try.func8 (by kernel_rfl) rfl #[.slice A1 l1.length c1] rfl (by (try simp only [mT,mC,mN]);first|done|rfl|(simp only [lD,lT];rfl)) ?_;(with_reducible refine (laws_toClaimS.calls k _ _ l1 t102 _ ?side1 ?side2 A6.out).mono ?_);(case side1=>repeat first|exact (Kd.C_below HR1.out HB.out)|(with_reducible refine cA ?_ _)|(with_reducible refine cN ?_ _)|(with_reducible refine cD ?_));(case side2=>exact HC1.out);rintro e w18 ⟨v103,rfl,ho0,hb⟩;refine ⟨_,rfl,?_⟩;have n0_:=mA (Kd.S_lower ho0 (bZ (by repeat first|(with_reducible first|exact HB.out|apply bA|apply bN|apply bD)|exact HB.out)));have n1_:=mA (bT (by repeat first|(with_reducible first|exact HB.out|apply bA|apply bN|apply bD)|exact HB.out) hb);clear HB;have HO104:=n0_;have HB:=n1_;clear n0_ n1_;(try clear hb);(try clear hb2);(try clear hk);(try clear hi);(try clear ho0);obtain ⟨Ao19,co19,eo19⟩:=Kd.S_slice HO104.out;subst eo19)|((with_reducible refine gate_callee (f:=13) rfl ?_);refine goesL_ (some 21) rfl rfl Try.func13 (by kernel_rfl) rfl #[.int .i64 a0,.slice Ao19 t102.length co19] rfl (by (try simp only [mT,mC,mN]);first|done|rfl|(simp only [lD,lT];rfl)) ?_;(with_reducible refine (spec_KnownPeople.calls k a0 _ _ t102 t105 _ ?side1 ?side2 A7.out).mono ?_);(case side1=>repeat first|exact (Kd.S_reads' HO104.out).2.2|(with_reducible refine cA ?_ _)|(with_reducible refine cN ?_ _)|(with_reducible refine cD ?_));(case side2=>exact (Kd.S_reads' HO104.out).2.1);rintro e w20 ⟨v106,rfl,ho0,hb⟩;refine ⟨_,rfl,?_⟩;have n0_:=mA (Kd.S_below (by (with_reducible repeat first|apply Kd.S_alloc|apply Kd.S_drewN|apply Kd.S_drew);exact HO104.out) hb);have n1_:=mA (rW ho0 (bZ (by repeat first|(with_reducible first|exact HB.out|apply bA|apply bN|apply bD)|exact HB.out)));have n2_:=mA (bT (by repeat first|(with_reducible first|exact HB.out|apply bA|apply bN|apply bD)|exact HB.out) hb);clear HO104 HB;have HO104:=n0_;have HO107:=n1_;have HB:=n2_;clear n0_ n1_ n2_;(try clear hb);(try clear hb2);(try clear hk);(try clear hi);(try clear ho0))|((with_reducible refine gate_callee (f:=8) rfl ?_);refine goesL_ (some 23) rfl rfl Try.func8 (by kernel_rfl) rfl #[.slice A1 l1.length c1] rfl (by (try simp only [mT,mC,mN]);first|done|rfl|(simp only [lD,lT];rfl)) ?_;(with_reducible refine (laws_toClaimS.calls k _ _ l1 t108 _ ?side1 ?side2 A8.out).mono ?_);(case side1=>repeat first|exact (Kd.C_below HR1.out HB.out)|(with_reducible refine cA ?_ _)|(with_reducible refine cN ?_ _)|(with_reducible refine cD ?_));(case side2=>exact HC1.out);rintro e w21 ⟨v109,rfl,ho0,hb⟩;refine ⟨_,rfl,?_⟩;have n0_:=mA (Kd.S_elder' (by (with_reducible repeat first|apply Kd.S_alloc|apply Kd.S_drewN|apply Kd.S_drew);exact HO104.out) (Kd.S_base ho0) hb);have n1_:=mA (rB (by (with_reducible repeat first|apply rA|apply rN|apply rD);exact HO107.out) hb);have n2_:=mA (Kd.S_lower (Kd.S_new' ho0 (Kd.S_lt (by (with_reducible repeat first|apply Kd.S_alloc|apply Kd.S_drewN|apply Kd.S_drew);exact HO104.out))) (bZ (by repeat first|(with_reducible first|exact HB.out|apply bA|apply bN|apply bD)|exact HB.out)));have n3_:=mA (bT (by repeat first|(with_reducible first|exact HB.out|apply bA|apply bN|apply bD)|exact HB.out) hb);clear HO104 HO107 HB;have HO104:=n0_;have HO107:=n1_;have HO110:=n2_;have HB:=n3_;clear n0_ n1_ n2_ n3_;(try clear hb);(try clear hb2);(try clear hk);(try clear hi);(try clear ho0);obtain ⟨Ao22,co22,eo22⟩:=Kd.S_slice HO110.out;subst eo22)|((with_reducible refine gate_callee (f:=14) rfl ?_);refine goesL_ (some 26) rfl rfl Try.func14 (by kernel_rfl) rfl #[.int .i64 a0,.slice Ao22 t108.length co22] rfl (by (try simp only [mT,mC,mN]);first|done|rfl|(simp only [lD,lT];rfl)) ?_;(with_reducible refine (impl_KnownPeople.calls k a0 _ _ t108 t111 _ ?side1 ?side2 A9.out).mono ?_);(case side1=>repeat first|exact (Kd.S_reads' HO110.out).2.2|(with_reducible refine cA ?_ _)|(with_reducible refine cN ?_ _)|(with_reducible refine cD ?_));(case side2=>exact (Kd.S_reads' HO110.out).2.1);rintro e w23 ⟨v112,rfl,ho0,hb⟩;refine ⟨_,rfl,?_⟩;have n0_:=mA (Kd.S_below (by (with_reducible repeat first|apply Kd.S_alloc|apply Kd.S_drewN|apply Kd.S_drew);exact HO104.out) hb);have n1_:=mA (rE (by (with_reducible repeat first|apply rA|apply rN|apply rD);exact HO107.out) (Kd.R_base ho0) hb);have n2_:=mA (Kd.S_below (by (with_reducible repeat first|apply Kd.S_alloc|apply Kd.S_drewN|apply Kd.S_drew);exact HO110.out) hb);have n3_:=mA (rW (rQ ho0 (rL (by (with_reducible repeat first|apply rA|apply rN|apply rD);exact HO107.out))) (bZ (by repeat first|(with_reducible first|exact HB.out|apply bA|apply bN|apply bD)|exact HB.out)));have n4_:=mA (bT (by repeat first|(with_reducible first|exact HB.out|apply bA|apply bN|apply bD)|exact HB.out) hb);clear HO104 HO107 HO110 HB;have HO104:=n0_;have HO107:=n1_;have HO110:=n2_;have HO113:=n3_;have HB:=n4_;clear n0_ n1_ n2_ n3_ n4_;(try clear hb);(try clear hb2);(try clear hk);(try clear hi);(try clear ho0);obtain ⟨Ao24,co24,eo24⟩:=Kd.R_slice HO113.out;subst eo24;obtain ⟨Ao25,co25,eo25⟩:=Kd.R_slice HO107.out;subst eo25)|((with_reducible refine gate_callee (f:=15) rfl ?_);refine goesL_ (some 29) rfl rfl Try.func15 (by kernel_rfl) rfl #[.slice Ao24 t111.length co24,.slice Ao25 t105.length co25] rfl (by (try simp only [mT,mC,mN]);first|done|rfl|(simp only [lD,lT];rfl)) ?_;(with_reducible refine (laws_eqIntS.calls k _ _ t111 _ _ t105 true _ ?side1 ?side2 ?side3 ?side4 A10.out).mono ?_);(case side1=>repeat first|exact (rR HO113.out).2.2|(with_reducible refine cA ?_ _)|(with_reducible refine cN ?_ _)|(with_reducible refine cD ?_));(case side2=>exact (rR HO113.out).2.1);(case side3=>repeat first|exact (rR HO107.out).2.2|(with_reducible refine cA ?_ _)|(with_reducible refine cN ?_ _)|(with_reducible refine cD ?_));(case side4=>exact (rR HO107.out).2.1);rintro e w' ⟨rfl,⟨nd,rfl⟩⟩;refine ⟨_,rfl,?_⟩)|((with_reducible refine gate_callee (f:=8) rfl ?_);refine goesL_ (some 33) rfl rfl Try.func8 (by kernel_rfl) rfl #[.slice A1 l1.length c1] rfl (by (try simp only [mT,mC,mN]);first|done|rfl|(simp only [lD,lT];rfl)) ?_;(with_reducible refine (laws_toClaimS.calls k _ _ l1 t115 _ ?side1 ?side2 A12.out).mono ?_);(case side1=>repeat (first|exact (Kd.C_below HR1.out (by repeat first|(with_reducible first|exact HB.out|apply bA|apply bN|apply bD)|exact HB.out))|(with_reducible refine cA ?_ _)|(with_reducible refine cN ?_ _)|(with_reducible refine cD ?_)));(case side2=>exact HC1.out);rintro e w26 ⟨v116,rfl,ho0,hb⟩;refine ⟨_,rfl,?_⟩;have n0_:=mA (Kd.S_elder' (by (with_reducible repeat first|apply Kd.S_alloc|apply Kd.S_drewN|apply Kd.S_drew);exact HO104.out) (Kd.S_base ho0) hb);have n1_:=mA (rB (by (with_reducible repeat first|apply rA|apply rN|apply rD);exact HO107.out) hb);have n2_:=mA (Kd.S_elder' (by (with_reducible repeat first|apply Kd.S_alloc|apply Kd.S_drewN|apply Kd.S_drew);exact HO110.out) (Kd.S_base ho0) hb);have n3_:=mA (rB (by (with_reducible repeat first|apply rA|apply rN|apply rD);exact HO113.out) hb);have n4_:=mA (Kd.S_lower (Kd.S_new' (Kd.S_new' ho0 (Kd.S_lt (by (with_reducible repeat first|apply Kd.S_alloc|apply Kd.S_drewN|apply Kd.S_drew);exact HO104.out))) (Kd.S_lt (by (with_reducible repeat first|apply Kd.S_alloc|apply Kd.S_drewN|apply Kd.S_drew);exact HO110.out))) (bZ (by repeat first|(with_reducible first|exact HB.out|apply bA|apply bN|apply bD)|exact HB.out)));have n5_:=mA (bT (by repeat first|(with_reducible first|exact HB.out|apply bA|apply bN|apply bD)|exact HB.out) hb);clear HO104 HO107 HO110 HO113 HB;have HO104:=n0_;have HO107:=n1_;have HO110:=n2_;have HO113:=n3_;have HO117:=n4_;have HB:=n5_;clear n0_ n1_ n2_ n3_ n4_ n5_;(try clear hb);(try clear hb2);(try clear hk);(try clear hi);(try clear ho0);obtain ⟨Ao27,co27,eo27⟩:=Kd.S_slice HO117.out;subst eo27)|((with_reducible refine gate_callee (f:=10) rfl ?_);refine goesL_ (some 34) rfl rfl Try.func10 (by kernel_rfl) rfl #[.slice Ao22 t108.length co22,.slice Ao27 t115.length co27] rfl (by (try simp only [mT,mC,mN]);first|done|rfl|(simp only [lD,lT];rfl)) ?_;(with_reducible refine (laws_eqClaimS.calls k _ _ t108 _ _ t115 true _ ?side1 ?side2 ?side3 ?side4 A13.out).mono ?_);(case side1=>repeat first|exact (Kd.S_reads' HO110.out).2.2|(with_reducible refine cA ?_ _)|(with_reducible refine cN ?_ _)|(with_reducible refine cD ?_));(case side2=>exact (Kd.S_reads' HO110.out).2.1);(case side3=>repeat first|exact (Kd.S_reads' HO117.out).2.2|(with_reducible refine cA ?_ _)|(with_reducible refine cN ?_ _)|(with_reducible refine cD ?_));(case side4=>exact (Kd.S_reads' HO117.out).2.1);rintro e w28 ⟨rfl,hb⟩;refine ⟨_,rfl,?_⟩;have n0_:=mA (Kd.S_below (by (with_reducible repeat first|apply Kd.S_alloc|apply Kd.S_drewN|apply Kd.S_drew);exact HO104.out) hb);have n1_:=mA (rB (by (with_reducible repeat first|apply rA|apply rN|apply rD);exact HO107.out) hb);have n2_:=mA (Kd.S_below (by (with_reducible repeat first|apply Kd.S_alloc|apply Kd.S_drewN|apply Kd.S_drew);exact HO110.out) hb);have n3_:=mA (rB (by (with_reducible repeat first|apply rA|apply rN|apply rD);exact HO113.out) hb);have n4_:=mA (Kd.S_below (by (with_reducible repeat first|apply Kd.S_alloc|apply Kd.S_drewN|apply Kd.S_drew);exact HO117.out) hb);have n5_:=mA (bT (by repeat first|(with_reducible first|exact HB.out|apply bA|apply bN|apply bD)|exact HB.out) hb);clear HO104 HO107 HO110 HO113 HO117 HB;have HO104:=n0_;have HO107:=n1_;have HO110:=n2_;have HO113:=n3_;have HO117:=n4_;have HB:=n5_;clear n0_ n1_ n2_ n3_ n4_ n5_;(try clear hb);(try clear hb2);(try clear hk);(try clear hi))|((with_reducible refine gate_callee (f:=11) rfl ?_);refine goesL_ (some 38) rfl rfl Try.func11 (by kernel_rfl) rfl #[.slice Ao22 t108.length co22,.int .i64 1] rfl (by (try simp only [mT,mC,mN]);first|done|rfl|(simp only [lD,lT];rfl)) ?_;have hY_:=laws_markClaimS.reads k _ _ t108 1 t119 w _ HB.out HO110.out A15.out;refine hY_.mono ?_;clear hY_;rintro e w29 ⟨rfl,hb,hk⟩;refine ⟨_,rfl,?_⟩;have n1_:=mA (laws_markClaimS.row HO107.out hk (by decide));have n3_:=mA (laws_markClaimS.row HO113.out hk (by decide));have n5_:=mA (hb);clear HO104 HO107 HO110 HO113 HO117 HB;have HO107:=n1_;have HO113:=n3_;have HB:=n5_;clear n1_ n3_ n5_ hb hk))
    (try simp only [Act.put,sA,sZ,sS])
    go_cut [46] (fun v46 wc=>∃ (kq:Nat) (x46_15:Bool),v46 = .bool x46_15∧Aside0 (laws_FnExactKnownPeople.j0 kq a0 l1 t105 t111 x46_15=some r)∧Aside0 (kq≤k)∧Aside0 (Kd.R (Kd.int .i64) 3 wc w.heap.size (fun k_=>some k_≠((.slice Ao24 t111.length co24):Value).ownBlock) (.slice Ao25 t105.length co25) t105)∧Aside0 (Kd.R (Kd.int .i64) 3 wc w.heap.size (fun k_=>some k_≠((.slice Ao25 t105.length co25):Value).ownBlock) (.slice Ao24 t111.length co24) t111)∧Aside0 (Below w.heap.size w wc))
    case first =>
     have H:=HC16.out
     clear HC16
     by_cases c30:t119<0
     ·rw [if_pos c30] at H
      have c30b0:decide (t119<0)=true:=decide_eq_true c30
      clear c30
      (first|rw [c30b0]|(simp only [i64_w,i32_w];rw [c30b0])|skip)
      have H':=mA H
      clear H
      go_wp2
      go_meet
      case rel=>exact ⟨_,(true),(by first|rfl|(simp;done)|(simp [*];done)),H',⟨by first|omega|exact Nat.le_refl _⟩,⟨by (with_reducible repeat first|apply rA|apply rN|apply rD);exact rM HO107.out (fun _ hk=>hk.2)⟩,⟨by (with_reducible repeat first|apply rA|apply rN|apply rD);exact rM HO113.out (fun _ hk=>hk.2)⟩,⟨by repeat (first|(with_reducible first|exact HB.out|apply bA|apply bN|apply bD)|exact HB.out)⟩⟩
     ·rw [if_neg c30] at H
      have c30b0:decide (t119<0)=false:=decide_eq_false c30
      clear c30
      (first|rw [c30b0]|(simp only [i64_w,i32_w];rw [c30b0])|skip)
      replace H:=Option.bind_eq_some_iff.mp H
      obtain ⟨t120,A310,H⟩:=H
      replace H:(laws_FnExactKnownPeople.j0 k a0 l1 t105 t111 (!t120))=some r:=H
      have A31:=mA A310
      clear A310
      have H':=mA H
      clear H
      go_wp2_with (first|(go_at_call 15;(with_reducible refine (laws_eqIntS.calls k _ _ t111 _ _ t105 t120 _ ?side1 ?side2 ?side3 ?side4 A31.out).mono ?_);(case side1=>repeat first|exact (rR HO113.out).2.2|(with_reducible refine cA ?_ _)|(with_reducible refine cN ?_ _)|(with_reducible refine cD ?_));(case side2=>exact (rR HO113.out).2.1);(case side3=>repeat first|exact (rR HO107.out).2.2|(with_reducible refine cA ?_ _)|(with_reducible refine cN ?_ _)|(with_reducible refine cD ?_));(case side4=>exact (rR HO107.out).2.1);rintro e w' ⟨rfl,⟨nd,rfl⟩⟩))
      go_meet
      case rel=>exact ⟨_,(!t120),(by first|rfl|(simp;done)|(simp [*];done)),H',⟨by first|omega|exact Nat.le_refl _⟩,⟨by (with_reducible repeat first|apply rA|apply rN|apply rD);exact rM HO107.out (fun _ hk=>hk.2)⟩,⟨by (with_reducible repeat first|apply rA|apply rN|apply rD);exact rM HO113.out (fun _ hk=>hk.2)⟩,⟨by repeat (first|(with_reducible first|exact HB.out|apply bA|apply bN|apply bD)|exact HB.out)⟩⟩
    case rest =>
     clear HC16
     try clear c1
     try clear p2
     try clear c3
     try clear c4
     try clear c4b0
     try clear c6
     try clear c8
     try clear c10
     try clear c11
     try clear c13
     try clear c14
     try clear c15
     try clear c30
     try clear c30b0
     obtain ⟨kq,x46_15,rfl,HA,HJ15,HO_6,HO_8,HB⟩:=hcut
     cases kq with
     | zero=>exact absurd HA.out (by simp [laws_FnExactKnownPeople.j0])
     | succ kj15 =>
      have H:=HA.out
      clear HA
      simp only [laws_FnExactKnownPeople.j0] at H
      by_cases c32:x46_15=true
      ·subst c32
       have H1:(some false)=some r:=by rw [if_pos rfl] at H;exact H
       clear H
       have H:=H1
       clear H1
       exact absurd ((Option.some.inj H).trans hr_.out) (by decide)
      ·replace c32:=Bool.eq_false_iff.mpr c32
       subst c32
       have H1:((laws_markIntS.f kj15 t111 1).bind fun bt121=>((laws_heldIntS.f kj15 bt121.2 1).bind fun t123=>(if t123<0 then (some false) else (if t123=bt121.1 then ((laws_toClaimS.f kj15 l1).bind fun t124=>((impl_KnownPeople.f kj15 a0 t124).bind fun t127=>((laws_eqIntS.f kj15 t127 t105).bind fun t130=>(if t130=true then ((laws_heldIntS.f kj15 bt121.2 1).bind fun t131=>(if t131<0 then (some false) else (if t131=bt121.1 then (some true) else (some false)))) else (some false))))) else (some false)))))=some r:=by rw [if_neg (show ¬ (false=true) by decide)] at H;exact H
       clear H
       have H:=H1
       clear H1
       replace H:=Option.bind_eq_some_iff.mp H
       obtain ⟨⟨t121,t122⟩,A330,H⟩:=H
       replace H:((laws_heldIntS.f kj15 t122 1).bind fun t123=>(if t123<0 then (some false) else (if t123=t121 then ((laws_toClaimS.f kj15 l1).bind fun t124=>((impl_KnownPeople.f kj15 a0 t124).bind fun t127=>((laws_eqIntS.f kj15 t127 t105).bind fun t130=>(if t130=true then ((laws_heldIntS.f kj15 t122 1).bind fun t131=>(if t131<0 then (some false) else (if t131=t121 then (some true) else (some false)))) else (some false))))) else (some false))))=some r:=H
       have A33:=mA A330
       clear A330
       replace H:=Option.bind_eq_some_iff.mp H
       obtain ⟨t123,A340,H⟩:=H
       replace H:(if t123<0 then (some false) else (if t123=t121 then ((laws_toClaimS.f kj15 l1).bind fun t124=>((impl_KnownPeople.f kj15 a0 t124).bind fun t127=>((laws_eqIntS.f kj15 t127 t105).bind fun t130=>(if t130=true then ((laws_heldIntS.f kj15 t122 1).bind fun t131=>(if t131<0 then (some false) else (if t131=t121 then (some true) else (some false)))) else (some false))))) else (some false)))=some r:=H
       have A34:=mA A340
       clear A340
       by_cases c35:t123<0
       ·rw [if_pos c35] at H
        have c35b0:decide (t123<0)=true:=decide_eq_true c35
        clear c35
        exact absurd ((Option.some.inj H).trans hr_.out) (by decide)
       ·rw [if_neg c35] at H
        have c35b0:decide (t123<0)=false:=decide_eq_false c35
        clear c35
        by_cases c36:t123=t121
        ·rw [if_pos c36] at H
         have c36b0:(t123==t121)=true:=beq_iff_eq.mpr c36
         have c36b1:(t123 != t121)=false:=bne_eq_false_iff_eq.mpr c36
         clear c36
         replace H:=Option.bind_eq_some_iff.mp H
         obtain ⟨t124,A370,H⟩:=H
         replace H:((impl_KnownPeople.f kj15 a0 t124).bind fun t127=>((laws_eqIntS.f kj15 t127 t105).bind fun t130=>(if t130=true then ((laws_heldIntS.f kj15 t122 1).bind fun t131=>(if t131<0 then (some false) else (if t131=t121 then (some true) else (some false)))) else (some false))))=some r:=H
         have A37:=mA A370
         clear A370
         replace H:=Option.bind_eq_some_iff.mp H
         obtain ⟨t127,A380,H⟩:=H
         replace H:((laws_eqIntS.f kj15 t127 t105).bind fun t130=>(if t130=true then ((laws_heldIntS.f kj15 t122 1).bind fun t131=>(if t131<0 then (some false) else (if t131=t121 then (some true) else (some false)))) else (some false)))=some r:=H
         have A38:=mA A380
         clear A380
         replace H:=Option.bind_eq_some_iff.mp H
         obtain ⟨t130,A390,H⟩:=H
         replace H:(if t130=true then ((laws_heldIntS.f kj15 t122 1).bind fun t131=>(if t131<0 then (some false) else (if t131=t121 then (some true) else (some false)))) else (some false))=some r:=H
         have A39:=mA A390
         clear A390
         by_cases c40:t130=true
         ·subst c40
          have H1:((laws_heldIntS.f kj15 t122 1).bind fun t131=>(if t131<0 then (some false) else (if t131=t121 then (some true) else (some false))))=some r:=by rw [if_pos rfl] at H;exact H
          clear H
          have H:=H1
          clear H1
          replace H:=Option.bind_eq_some_iff.mp H
          obtain ⟨t131,A410,H⟩:=H
          replace H:(if t131<0 then (some false) else (if t131=t121 then (some true) else (some false)))=some r:=H
          have A41:=mA A410
          clear A410
          by_cases c42:t131<0
          ·rw [if_pos c42] at H
           have c42b0:decide (t131<0)=true:=decide_eq_true c42
           clear c42
           exact absurd ((Option.some.inj H).trans hr_.out) (by decide)
          ·rw [if_neg c42] at H
           have c42b0:decide (t131<0)=false:=decide_eq_false c42
           clear c42
           by_cases c43:t131=t121
           ·rw [if_pos c43] at H
            have c43b0:(t131==t121)=true:=beq_iff_eq.mpr c43
            have c43b1:(t131 != t121)=false:=bne_eq_false_iff_eq.mpr c43
            clear c43
            obtain rfl:=Option.some.inj H
            go_wp2_with (first|((with_reducible refine gate_callee (f:=16) rfl ?_);refine goesL_ (some 49) rfl rfl Try.func16 (by kernel_rfl) rfl #[.slice Ao24 t111.length co24,.int .i64 1] rfl (by (try simp only [mT,mC,mN]);first|done|rfl|(simp only [lD,lT];rfl)) ?_;(with_reducible refine (laws_markIntS.calls kj15 (fun k_=>some k_=(.slice Ao24 t111.length co24:Value).ownBlock) (.slice Ao24 t111.length co24) t111 1 t121 t122 w _ ?side1 ?side2 A33.out).mono ?_);(case side1=>repeat first|(with_reducible first|exact HB.out|apply bA|apply bN|apply bD)|exact HB.out);(case side2=>exact Kd.R_tight rfl HO_8.out);rintro e w44 ⟨rfl,hy0,hb,hkp⟩;refine ⟨_,rfl,?_⟩;have n0_:=mA (rM (ok':=fun k_=>some k_≠(.slice Ao24 t111.length co24:Value).ownBlock) (Kd.R_keptB (HO_6.out) hkp (fun k_ hk_ hs_=>(hk_) hs_)) (fun k_ hk_=>hk_.1));have n1_:=mA (Kd.R_reok rfl hy0 (fun k_ e_=>HO_8.out.1 k_ e_));have n2_:=mA (hb);clear HO_6 HO_8 HB;have HO_6:=n0_;have HO_8:=n1_;have HB:=n2_;clear n0_ n1_ n2_;(try clear hb);(try clear hkp);(try clear hy0))|((with_reducible refine gate_callee (f:=17) rfl ?_);refine goesL_ (some 52) rfl rfl Try.func17 (by kernel_rfl) rfl #[.slice Ao24 t122.length co24,.int .i64 1] rfl (by (try simp only [mT,mC,mN]);first|done|(rw [show t122.length=t111.length from (rR HO_8.out).1.symm]<;>rfl)|rfl|(simp only [lD,lT];rfl)) ?_;(with_reducible refine (laws_heldIntS.calls kj15 _ _ t122 1 t123 _ ?side1 ?side2 A34.out).mono ?_);(case side1=>repeat first|exact (rR HO_8.out).2.2|(with_reducible refine cA ?_ _)|(with_reducible refine cN ?_ _)|(with_reducible refine cD ?_));(case side2=>rw [show t122.length=t111.length from (rR HO_8.out).1.symm];exact (rR HO_8.out).2.1);rintro e w' ⟨rfl,⟨nd,rfl⟩⟩;refine ⟨_,rfl,?_⟩)|((with_reducible refine gate_callee (f:=8) rfl ?_);refine goesL_ (some 60) rfl rfl Try.func8 (by kernel_rfl) rfl #[.slice A1 l1.length c1] rfl (by (try simp only [mT,mC,mN]);first|done|rfl|(simp only [lD,lT];rfl)) ?_;(with_reducible refine (laws_toClaimS.calls kj15 _ _ l1 t124 _ ?side1 ?side2 A37.out).mono ?_);(case side1=>repeat (first|exact (Kd.C_below HR1.out (by repeat first|(with_reducible first|exact HB.out|apply bA|apply bN|apply bD)|exact HB.out))|(with_reducible refine cA ?_ _)|(with_reducible refine cN ?_ _)|(with_reducible refine cD ?_)));(case side2=>exact HC1.out);rintro e w45 ⟨v125,rfl,ho0,hb⟩;refine ⟨_,rfl,?_⟩;have n0_:=mA (rB (by (with_reducible repeat first|apply rA|apply rN|apply rD);exact HO_6.out) hb);have n1_:=mA (rB (by (with_reducible repeat first|apply rA|apply rN|apply rD);exact HO_8.out) hb);have n2_:=mA (Kd.S_lower ho0 (bZ (by repeat first|(with_reducible first|exact HB.out|apply bA|apply bN|apply bD)|exact HB.out)));have n3_:=mA (bT (by repeat first|(with_reducible first|exact HB.out|apply bA|apply bN|apply bD)|exact HB.out) hb);clear HO_6 HO_8 HB;have HO_6:=n0_;have HO_8:=n1_;have HO126:=n2_;have HB:=n3_;clear n0_ n1_ n2_ n3_;(try clear hb);(try clear hb2);(try clear hk);(try clear hi);(try clear ho0);obtain ⟨Ao46,co46,eo46⟩:=Kd.S_slice HO126.out;subst eo46)|((with_reducible refine gate_callee (f:=14) rfl ?_);refine goesL_ (some 61) rfl rfl Try.func14 (by kernel_rfl) rfl #[.int .i64 a0,.slice Ao46 t124.length co46] rfl (by (try simp only [mT,mC,mN]);first|done|rfl|(simp only [lD,lT];rfl)) ?_;(with_reducible refine (impl_KnownPeople.calls kj15 a0 _ _ t124 t127 _ ?side1 ?side2 A38.out).mono ?_);(case side1=>repeat first|exact (Kd.S_reads' HO126.out).2.2|(with_reducible refine cA ?_ _)|(with_reducible refine cN ?_ _)|(with_reducible refine cD ?_));(case side2=>exact (Kd.S_reads' HO126.out).2.1);rintro e w47 ⟨v128,rfl,ho0,hb⟩;refine ⟨_,rfl,?_⟩;have n0_:=mA (rE (by (with_reducible repeat first|apply rA|apply rN|apply rD);exact HO_6.out) (Kd.R_base ho0) hb);have n1_:=mA (rE (by (with_reducible repeat first|apply rA|apply rN|apply rD);exact HO_8.out) (Kd.R_base ho0) hb);have n2_:=mA (Kd.S_below (by (with_reducible repeat first|apply Kd.S_alloc|apply Kd.S_drewN|apply Kd.S_drew);exact HO126.out) hb);have n3_:=mA (rW (rQ (rQ ho0 (rL (by (with_reducible repeat first|apply rA|apply rN|apply rD);exact HO_6.out))) (rL (by (with_reducible repeat first|apply rA|apply rN|apply rD);exact HO_8.out))) (bZ (by repeat first|(with_reducible first|exact HB.out|apply bA|apply bN|apply bD)|exact HB.out)));have n4_:=mA (bT (by repeat first|(with_reducible first|exact HB.out|apply bA|apply bN|apply bD)|exact HB.out) hb);clear HO_6 HO_8 HO126 HB;have HO_6:=n0_;have HO_8:=n1_;have HO126:=n2_;have HO129:=n3_;have HB:=n4_;clear n0_ n1_ n2_ n3_ n4_;(try clear hb);(try clear hb2);(try clear hk);(try clear hi);(try clear ho0);obtain ⟨Ao48,co48,eo48⟩:=Kd.R_slice HO129.out;subst eo48)|((with_reducible refine gate_callee (f:=15) rfl ?_);refine goesL_ (some 64) rfl rfl Try.func15 (by kernel_rfl) rfl #[.slice Ao48 t127.length co48,.slice Ao25 t105.length co25] rfl (by (try simp only [mT,mC,mN]);first|done|rfl|(simp only [lD,lT];rfl)) ?_;(with_reducible refine (laws_eqIntS.calls kj15 _ _ t127 _ _ t105 true _ ?side1 ?side2 ?side3 ?side4 A39.out).mono ?_);(case side1=>repeat first|exact (rR HO129.out).2.2|(with_reducible refine cA ?_ _)|(with_reducible refine cN ?_ _)|(with_reducible refine cD ?_));(case side2=>exact (rR HO129.out).2.1);(case side3=>repeat first|exact (rR HO_6.out).2.2|(with_reducible refine cA ?_ _)|(with_reducible refine cN ?_ _)|(with_reducible refine cD ?_));(case side4=>exact (rR HO_6.out).2.1);rintro e w' ⟨rfl,⟨nd,rfl⟩⟩;refine ⟨_,rfl,?_⟩)|((with_reducible refine gate_callee (f:=17) rfl ?_);refine goesL_ (some 68) rfl rfl Try.func17 (by kernel_rfl) rfl #[.slice Ao24 t122.length co24,.int .i64 1] rfl (by (try simp only [mT,mC,mN]);first|done|(rw [show t122.length=t111.length from (rR HO_8.out).1.symm]<;>rfl)|rfl|(simp only [lD,lT];rfl)) ?_;(with_reducible refine (laws_heldIntS.calls kj15 _ _ t122 1 t131 _ ?side1 ?side2 A41.out).mono ?_);(case side1=>repeat first|exact (rR HO_8.out).2.2|(with_reducible refine cA ?_ _)|(with_reducible refine cN ?_ _)|(with_reducible refine cD ?_));(case side2=>rw [show t122.length=t111.length from (rR HO_8.out).1.symm];exact (rR HO_8.out).2.1);rintro e w' ⟨rfl,⟨nd,rfl⟩⟩;refine ⟨_,rfl,?_⟩))
            go_ret
            exact ⟨by first|rfl|(simp [errW_none,errW_some]<;>rfl)|(simp [*, errW_none,errW_some]<;>rfl),by repeat (first|(with_reducible first|exact HB.out|apply bA|apply bN|apply bD)|exact HB.out)⟩
           ·rw [if_neg c43] at H
            have c43b0:(t131==t121)=false:=beq_eq_false_iff_ne.mpr c43
            have c43b1:(t131 != t121)=true:=bne_iff_ne.mpr c43
            exact absurd ((Option.some.inj H).trans hr_.out) (by decide)
         ·replace c40:=Bool.eq_false_iff.mpr c40
          subst c40
          have H1:(some false)=some r:=by rw [if_neg (show ¬ (false=true) by decide)] at H;exact H
          clear H
          have H:=H1
          clear H1
          exact absurd ((Option.some.inj H).trans hr_.out) (by decide)
        ·rw [if_neg c36] at H
         have c36b0:(t123==t121)=false:=beq_eq_false_iff_ne.mpr c36
         have c36b1:(t123 != t121)=true:=bne_iff_ne.mpr c36
         exact absurd ((Option.some.inj H).trans hr_.out) (by decide)
   ·replace c14:=Bool.eq_false_iff.mpr c14
    subst c14
    have H1:(some false)=some r:=by rw [if_neg (show ¬ (false=true) by decide)] at H;exact H
    clear H
    have H:=H1
    clear H1
    exact absurd ((Option.some.inj H).trans hr_.out) (by decide)
  ·replace c11:=Bool.eq_false_iff.mpr c11
   subst c11
   have H1:(some false)=some r:=by rw [if_neg (show ¬ (false=true) by decide)] at H;exact H
   clear H
   have H:=H1
   clear H1
   exact absurd ((Option.some.inj H).trans hr_.out) (by decide)

/-- THE ONE PURE STATEMENT of laws_FnExactKnownPeople: this session's. -/
def laws_FnExactKnownPeople.Pure:Prop:=∀ (a0:Int) (l1:List (S38)),(Lit.int .i64 a0).wf=true→l1.length≤9223372036854775807→(∀ y∈l1,wf38 y)→(∀ y∈l1,y.f1.length≤9223372036854775807) → ∃ k,laws_FnExactKnownPeople.f k a0 l1=some true
theorem laws_FnExactKnownPeople.walk (P:laws_FnExactKnownPeople.Pure) (a0:Int) (A1:Option Addr) (c1:Nat) (l1:List (S38)) (w:World) (hw0:(Lit.int .i64 a0).wf=true) (hr1:Kd.C k38 w A1 l1.length l1) (hc1:l1.length≤c1) (hw1:(∀ y∈l1,wf38 y)) :
  Calls Try.prog 4 #[.int .i64 a0,.slice A1 l1.length c1] w fun e w'=>e = .returned (.bool true)∧Below w.heap.size w w':=by
 obtain ⟨k,h⟩:=P a0 l1 hw0 hr1.2.1 hw1 (fun y hy=>by obtain ⟨i_,hi_,rfl⟩:=List.mem_iff_getElem.1 hy;obtain ⟨_,_,_,_,_,_,_,hC_⟩:=at_T38 hr1 (i_:Int) (by omega) (by omega);have h_:=hC_.2.1;simpa [rd_T38,List.getD,hi_] using h_)
 refine (laws_FnExactKnownPeople.calls k a0 A1 c1 l1 true w hr1 hc1 ⟨rfl⟩ h).mono ?_
 rintro e w' ⟨rfl,hd⟩
 exact ⟨rfl,hd⟩
end Go.Proofs.Ytbhjeiphmnanoaa.X
/- Plain laws of terms, third text: what a valid row of marks says in a world, as a function of the row alone. -/
namespace Go.Proofs.Ytbhjeiphmnanoaa.L
open Go.RowKit Go.Proofs.Ytbhjeiphmnanoaa.X Go.Proofs.YtbhjeiphmnanoaaW.PrintWords Go.Proofs.YtbhjeiphmnanoaaW.PrintLast Go.Proofs.YtbhjeiphmnanoaaW.PrintMore
open Go.Proofs.YtbhjeiphmnanoaaW.PrintWords renaming Aside0.mk → mA, pw_below_drewN → bN, below_drew1 → bD, below_alloc → bA, below_set → bS, below_size → bZ, below_step → bT, Kd.R_alloc → rA, Kd.R_drewN → rN, Kd.R_drew → rD, Kd.R_mono → rM, Kd.R_reads' → rR, Kd.R_lt → rL, Kd.R_below → rB, Kd.R_elder' → rE, Kd.R_lower → rW, Kd.R_new' → rQ, Kd.R_after → rJ, Kd.C_alloc → cA, Kd.C_drewN → cN, Kd.C_drew → cD
open List renaming setIfInBounds_toArray → sA, set_cons_zero → sZ, set_cons_succ → sS, length_take → lT, length_drop → lD, map_toArray → mT, map_cons → mC, map_nil → mN
theorem Tm.good_four {p:Int} (hp:p≤4) : ∀ a:Tm,a.good p→a.good 4
 | .tell i,h=>by have h':(i:Int)<p:=h;show (i:Int)<4;omega
 | .cnt n,h=>by have h':(n:Int)≤p+1:=h;show (n:Int)≤4+1;omega
 | .neg a,h=>good_four hp a h
 | .bin o a b,h=>⟨h.1,good_four hp a h.2.1,good_four hp b h.2.2⟩
open Classical in
/-- The tree of a row of marks. -/
noncomputable def tree (t:List M):Tm:=if h : ∃ a:Tm,a.good 4∧t=a.post then Classical.choose h else .tell 0
theorem tree_post {a:Tm} (h:a.good 4):(tree a.post).good 4∧a.post=(tree a.post).post:=by
 have h' : ∃ b:Tm,b.good 4∧a.post=b.post:=⟨a,h,rfl⟩
 unfold tree
 rw [dif_pos h']
 exact Classical.choose_spec h'
/-- Whether a row of marks holds in a world. -/
noncomputable def hv (t:List M) (w:Nat):Bool:=(tree t).ev w
theorem hv_post {a:Tm} (h:a.good 4) (hl:a.post.length≤500) {w:Nat} (hw:w<16):hv a.post w=a.ev w:=by
 obtain ⟨h1,h2⟩:=tree_post h
 have e1:=impl_holds_ev (by decide) hw h hl
 have e2:=impl_holds_ev (by decide) hw h1 (by rw [←h2];exact hl)
 rw [←h2] at e2
 exact Ev.uniq e2 e1
theorem tok_tree {p:Int} {t:List M} (h:tok p t=true) : ∃ a:Tm,a.good p∧t=a.post∧a.good 4∧t.length≤15:=by
 obtain ⟨a,h1,h2⟩:=parse h
 obtain ⟨_,h3,_,h4,_⟩:=tok_iff.1 h
 exact ⟨a,h1,h2,a.good_four h3 h1,h4⟩
theorem impl_holds_hv {p:Int} {t:List M} (h:tok p t=true) {w:Nat} (hw:w<16):Ev (fun k=>impl_holds.f k t (w:Int)) (hv t w):=by
 obtain ⟨a,_,rfl,h4,hl⟩:=tok_tree h
 rw [hv_post h4 (by omega) hw]
 exact impl_holds_ev (by decide) hw h4 (by omega)
theorem spec_holds_hv {p:Int} {t:List M} (h:tok p t=true) {w:Nat} (hw:w<16):Ev (fun k=>spec_l3Holds.f k t (w:Int)) (hv t w):=by
 obtain ⟨a,_,rfl,h4,hl⟩:=tok_tree h
 rw [hv_post h4 (by omega) hw]
 exact l3Holds_ev (by decide) hw a h4 (by omega)
/-- Whether a claim may be made in a world. -/
noncomputable def may (i:Int) (t:List M) (w:Nat):Bool:=hv t w==w.testBit i.toNat
/-- The worlds below n in which P holds, as bits. -/
def tabL (P:Nat→Bool):Nat→Nat
 | 0=>0
 | n+1=>tabL P n ||| (if P n=true then 2^n else 0)
theorem tabL_bit (P:Nat→Bool) : ∀ n w,(tabL P n).testBit w=(decide (w<n)&&P w)
 | 0,w=>by simp [tabL]
 | n+1,w=>by
  rw [tabL,Nat.testBit_or,tabL_bit P n w]
  by_cases e:w=n
  ·subst e
   by_cases h:P w=true
   ·rw [if_pos h,Nat.testBit_two_pow_self,h];simp
   ·rw [if_neg h,Nat.zero_testBit];simp at h;simp [h]
  ·have h1:(if P n=true then 2^n else 0).testBit w=false:=by
    by_cases h:P n=true
    ·rw [if_pos h,Nat.testBit_two_pow];simp;omega
    ·rw [if_neg h,Nat.zero_testBit]
   rw [h1,Bool.or_false]
   congr 1
   exact decide_eq_decide.mpr (by omega)
theorem lt_of_bits {x n:Nat} (h : ∀ w,n≤w→x.testBit w=false):x<2^n:=Nat.lt_pow_two_of_testBit x (fun w hw=>h w hw)
theorem tabL_lt (P:Nat→Bool) (n:Nat):tabL P n<2^n:=lt_of_bits (fun w hw=>by rw [tabL_bit];simp;omega)
theorem tabL_mono {P:Nat→Bool} {n:Nat} (hn:n≤16):tabL P n<65536:=by
 have:=tabL_lt P n
 have h:(2:Nat)^n≤2^16:=Nat.pow_le_pow_right (by decide) hn
 omega
theorem wrap_i64_small (n:Int) (h0:0≤n) (h1:n<2^32):IntKind.i64.wrap n=n:=by rw [IntKind.wrap_i64];omega
theorem or_nat {a b:Nat} (ha:a<2^32) (hb:b<2^32):Go.bits .or .i64 (a:Int) (b:Int)=((a ||| b:Nat):Int):=(bits_nat .i64 32 (by decide) wrap_i64_small a b ha hb).2
theorem and_nat {a b:Nat} (ha:a<2^32) (hb:b<2^32):Go.bits .and .i64 (a:Int) (b:Int)=((a &&& b:Nat):Int):=(bits_nat .i64 32 (by decide) wrap_i64_small a b ha hb).1
theorem shl_fin : ∀ i:Fin 31,shl .i64 1 ((i.val:Nat):Int)=((2^i.val:Nat):Int):=by decide +kernel
theorem shl_nat {i:Nat} (hi:i<31):shl .i64 1 (i:Int)=((2^i:Nat):Int):=shl_fin ⟨i,hi⟩
theorem or_step {P:Nat→Bool} {i:Nat} (hi:i<16) (h:P i=true):Go.bits .or .i64 ((tabL P i:Nat):Int) (shl .i64 1 (i:Int))=((tabL P (i+1):Nat):Int):=by
 have h1:=tabL_lt P i
 have h2:(2:Nat)^i<2^16:=Nat.pow_lt_pow_right (by decide) hi
 rw [shl_nat (by omega),or_nat (by omega) (by omega),tabL,if_pos h]
theorem not_step {P:Nat→Bool} {i:Nat} (h : ¬ P i=true):tabL P (i+1)=tabL P i:=by rw [tabL,if_neg h,Nat.or_zero]
theorem people_nat {p:Int} (h0:1≤p) (h1:p≤4) : ∃ q:Nat,p=(q:Int)∧1≤q∧q≤4∧2^q≤16∧p.toNat=q:=by
 obtain ⟨q,rfl⟩:=Int.eq_ofNat_of_zero_le (show 0≤p by omega)
 refine ⟨q,rfl,by omega,by omega,?_,by simp⟩
 have:(2:Nat)^q≤2^4:=Nat.pow_le_pow_right (by decide) (by omega)
 omega
/-- A table of worlds of so many people. -/
def tabok (p x:Int):Bool:=decide (1≤p∧p≤4∧0≤x∧x<((2^(2^p.toNat):Nat):Int))
theorem tabok_iff {p x:Int}:tabok p x=true ↔ 1≤p∧p≤4∧0≤x∧x<((2^(2^p.toNat):Nat):Int):=by unfold tabok;simp
theorem two_pow {q:Nat} (h1:1≤q) (h4:q≤4):shl .i64 1 (shl .u64 1 (q:Int))=((2^(2^q):Nat):Int)∧2^(2^q)≤65536:=by
 have : ∀ q:Fin 5,1≤q.val→shl .i64 1 (shl .u64 1 ((q.val:Nat):Int))=((2^(2^q.val):Nat):Int)∧2^(2^q.val)≤65536:=by decide +kernel
 exact this ⟨q,by omega⟩ h1
theorem impl_TableOk_eq (p x:Int):impl_TableOk.f p x=some (tabok p x):=by
 unfold impl_TableOk.f
 simp only [peopleOk_eq,Option.bind_some]
 by_cases h:1≤p∧p≤4
 ·obtain ⟨q,rfl,hq1,hq4,hq,e⟩:=people_nat h.1 h.2
  rw [if_pos (decide_eq_true h)]
  by_cases h0:x≥0
  ·rw [if_pos h0,if_pos (by omega),(two_pow hq1 hq4).1]
   congr 1
   unfold tabok
   rw [e]
   exact decide_eq_decide.mpr ⟨fun hw=>⟨h.1,h.2,h0,hw⟩,fun hw=>hw.2.2.2⟩
  ·rw [if_neg h0]
   congr 1
   exact (decide_eq_false (fun hw=>h0 hw.2.2.1)).symm
 ·rw [if_neg (by simpa using h)]
  congr 1
  exact (decide_eq_false (fun hw=>h ⟨hw.1,hw.2.1⟩)).symm
theorem spec_TableOk_eq (p x:Int):spec_TableOk.f p x=some (tabok p x):=by
 unfold spec_TableOk.f
 simp only [l1In_eq,Option.bind_some]
 by_cases h:1≤p∧p≤4
 ·obtain ⟨q,rfl,hq1,hq4,hq,e⟩:=people_nat h.1 h.2
  obtain ⟨e1,e2⟩:=two_pow hq1 hq4
  have hpos:1≤2^(2^q):=Nat.one_le_two_pow
  rw [if_pos (decide_eq_true h),if_pos (by omega),e1,w64 (by omega) (by omega)]
  congr 1
  unfold tabok
  rw [e]
  exact decide_eq_decide.mpr ⟨fun hw=>⟨h.1,h.2,hw.1,by omega⟩,fun hw=>⟨hw.2.2.1,by omega⟩⟩
 ·rw [if_neg (by simpa using h)]
  congr 1
  exact (decide_eq_false (fun hw=>h ⟨hw.1,hw.2.1⟩)).symm
theorem shr_nat {x j:Nat} (hj:j≤63):shr .i64 (x:Int) (j:Int)=((x / 2^j:Nat):Int):=by
 show (x:Int) / 2^min ((j:Int)).toNat 64=_
 rw [Int.toNat_natCast,Nat.min_eq_left (by omega)]
 simp
theorem bit_one {x j:Nat} (hx:x<65536) (hj:j<16):Go.bits .and .i64 (shr .i64 (x:Int) (j:Int)) 1=if x.testBit j then 1 else 0:=by
 have hle:x / 2^j≤x:=Nat.div_le_self _ _
 rw [shr_nat (by omega),show (1:Int)=((1:Nat):Int) from rfl,and_nat (by omega) (by decide),Nat.and_one_is_mod,Nat.testBit_eq_decide_div_mod_eq]
 rcases Nat.mod_two_eq_zero_or_one (x / 2^j) with e|e<;>simp [e]
theorem bit_two {x j:Nat} (_hx:x<65536) (hj:j<16):Int.tmod (shr .i64 (x:Int) (j:Int)) 2=if x.testBit j then 1 else 0:=by
 rw [shr_nat (by omega),show Int.tmod ((x / 2^j:Nat):Int) 2=((x / 2^j % 2:Nat):Int) from rfl,Nat.testBit_eq_decide_div_mod_eq]
 rcases Nat.mod_two_eq_zero_or_one (x / 2^j) with e|e<;>simp [e]
/-- The worlds in a table, from one on. -/
def wls (x:Nat):Nat→Nat→List Int→List Int
 | 0,_,acc=>acc
 | d+1,j,acc=>wls x d (j+1) (if x.testBit j then acc++[(j:Int)] else acc)
def worldsIn (p x:Int):List Int:=if tabok p x=true then wls x.toNat (2^p.toNat) 0 [] else []
theorem impl_WorldsIn_l0 {x q:Nat} (hx:x<65536) (hq2:2^q≤16) : ∀ (d j:Nat) (acc:List Int),d+j=2^q→acc.length≤j→Ev (fun k=>impl_WorldsIn.l0 k (x:Int) acc ((2^q:Nat):Int) (j:Int)) (wls x d j acc):=by
 intro d
 induction d with
 | zero=>intro j acc hj _;exact Ev.step (fun k=>by simp only [impl_WorldsIn.l0];rfl) (Ev.no (by omega) (Ev.some _))
 | succ d ih =>
  intro j acc hj ha
  refine Ev.step (fun k=>by simp only [impl_WorldsIn.l0];rfl) ?_
  rw [bit_one hx (by omega),w64 (by omega) (by omega),show ((j:Int)+1)=((j+1:Nat):Int) by omega,wls]
  refine Ev.yes (by omega) (Ev.yes (by omega) ?_)
  by_cases h:x.testBit j=true
  ·have e1:(if x.testBit j=true then (1:Int) else 0)=1:=if_pos h
   rw [e1,if_pos h]
   exact Ev.yes rfl (Ev.yes (by omega) (ih (j+1) _ (by omega) (by simp;omega)))
  ·have e1:(if x.testBit j=true then (1:Int) else 0)=0:=if_neg h
   rw [e1,if_neg h]
   exact Ev.no (by decide) (ih (j+1) _ (by omega) (by omega))
theorem impl_WorldsIn_ev (p x:Int):Ev (fun k=>impl_WorldsIn.f k p x) (worldsIn p x):=by
 unfold impl_WorldsIn.f
 rw [impl_TableOk_eq]
 simp only [Option.bind_some]
 by_cases h:tabok p x=true
 ·obtain ⟨h0,h1,h2,h3⟩:=tabok_iff.1 h
  rw [worldsIn,if_pos h]
  obtain ⟨q,rfl,hq1,hq4,hq,e⟩:=people_nat h0 h1
  obtain ⟨v,rfl⟩:=Int.eq_ofNat_of_zero_le h2
  have:=(two_pow hq1 hq4).2
  rw [e] at h3 ⊢
  refine Ev.yes h (Ev.yes (by omega) ?_)
  rw [shl_nat (by omega),Int.toNat_natCast]
  exact impl_WorldsIn_l0 (by omega) hq (2^q) 0 [] (by omega) (by simp)
 ·rw [worldsIn,if_neg h]
  exact Ev.no h (Ev.some _)
theorem spec_WorldsIn_l0 {x q:Nat} (hok:tabok (q:Int) (x:Int)=true) (hx:x<65536) (hq4:q≤4) (hq2:2^q≤16) : ∀ (d j:Nat) (acc:List Int),d+j=2^q→acc.length≤j→Ev (fun k=>spec_WorldsIn.l0 k (q:Int) (x:Int) acc (j:Int)) (wls x d j acc):=by
 intro d
 induction d with
 | zero =>
  intro j acc hj _
  refine Ev.step (fun k=>by simp only [spec_WorldsIn.l0];rfl) ?_
  rw [spec_TableOk_eq,shl_nat (by omega)]
  simp only [Option.bind_some]
  refine Ev.yes hok (Ev.yes (by omega) ?_)
  rw [decide_eq_false (by omega)]
  exact Ev.step (fun k=>by simp only [spec_WorldsIn.j1];rfl) (Ev.no (by simp) (Ev.some _))
 | succ d ih =>
  intro j acc hj ha
  refine Ev.step (fun k=>by simp only [spec_WorldsIn.l0];rfl) ?_
  rw [spec_TableOk_eq,shl_nat (by omega)]
  simp only [Option.bind_some]
  refine Ev.yes hok (Ev.yes (by omega) ?_)
  rw [decide_eq_true (by omega)]
  refine Ev.step (fun k=>by simp only [spec_WorldsIn.j1];rfl) ?_
  rw [bit_two hx (by omega),w64 (by omega) (by omega),show ((j:Int)+1)=((j+1:Nat):Int) by omega,wls]
  refine Ev.yes (by simp) (Ev.yes (by omega) ?_)
  by_cases h:x.testBit j=true
  ·have e1:(if x.testBit j=true then (1:Int) else 0)=1:=if_pos h
   rw [e1,if_pos h]
   exact Ev.yes rfl (Ev.yes (by omega) (ih (j+1) _ (by omega) (by simp;omega)))
  ·have e1:(if x.testBit j=true then (1:Int) else 0)=0:=if_neg h
   rw [e1,if_neg h]
   exact Ev.no (by decide) (ih (j+1) _ (by omega) (by omega))
theorem spec_WorldsIn_ev (p x:Int):Ev (fun k=>spec_WorldsIn.f k p x) (worldsIn p x):=by
 unfold spec_WorldsIn.f
 by_cases h:tabok p x=true
 ·obtain ⟨h0,h1,h2,h3⟩:=tabok_iff.1 h
  rw [worldsIn,if_pos h]
  obtain ⟨q,rfl,hq1,hq4,hq,e⟩:=people_nat h0 h1
  obtain ⟨v,rfl⟩:=Int.eq_ofNat_of_zero_le h2
  have:=(two_pow hq1 hq4).2
  rw [e] at h3 ⊢
  rw [Int.toNat_natCast]
  exact spec_WorldsIn_l0 h (by omega) hq4 hq (2^q) 0 [] (by omega) (by simp)
 ·rw [worldsIn,if_neg h]
  refine Ev.step (fun k=>by simp only [spec_WorldsIn.l0];rfl) ?_
  rw [spec_TableOk_eq]
  simp only [Option.bind_some]
  refine Ev.no h ?_
  exact Ev.step (fun k=>by simp only [spec_WorldsIn.j1];rfl) (Ev.no (by simp) (Ev.some _))
theorem bit_int {w i:Nat} (hw:w<16) (hi:i<4):Int.tmod (shr .i64 (w:Int) (i:Int)) 2=if w.testBit i then 1 else 0:=by
 have : ∀ w:Fin 16, ∀ i:Fin 4,Int.tmod (shr .i64 ((w.val:Nat):Int) ((i.val:Nat):Int)) 2=if w.val.testBit i.val then 1 else 0:=by decide +kernel
 exact this ⟨w,hw⟩ ⟨i,hi⟩
theorem tableBy_l0 {F:Nat→Int→Option Bool} {P:Nat→Bool} {n:Nat} (hn:n≤16) (hF : ∀ w:Nat,w<n→Ev (fun k=>F k (w:Int)) (P w)) : ∀ d i,d+i=n →
  Ev (fun k=>impl_tableBy.l0 F k ((tabL P i:Nat):Int) (n:Int) (i:Int)) ((tabL P n:Nat):Int):=by
 intro d
 induction d with
 | zero =>
  intro i hi
  rw [Nat.zero_add] at hi
  subst hi
  exact Ev.step (fun k=>by simp only [impl_tableBy.l0];rfl) (Ev.no (by omega) (Ev.some _))
 | succ d ih =>
  intro i hi
  refine Ev.step (fun k=>by simp only [impl_tableBy.l0];rfl) ?_
  refine Ev.yes (by omega) (Ev.bind (hF i (by omega)) ?_)
  rw [w64 (by omega) (by omega),show ((i:Int)+1)=((i+1:Nat):Int) by omega]
  by_cases h:P i=true
  ·refine Ev.yes h (Ev.yes (by omega) ?_)
   rw [or_step (by omega) h]
   exact ih (i+1) (by omega)
  ·refine Ev.no h ?_
   have:=ih (i+1) (by omega)
   rwa [not_step h] at this
theorem tableBy_ev {F:Nat→Int→Option Bool} {P:Nat→Bool} {q:Nat} (hq:q≤4) (hF : ∀ w:Nat,w<2^q→Ev (fun k=>F k (w:Int)) (P w)):Ev (fun k=>impl_tableBy.f F k (q:Int)) ((tabL P (2^q):Nat):Int):=by
 unfold impl_tableBy.f
 refine Ev.yes (by omega) ?_
 rw [shl_nat (by omega)]
 have h16:(2:Nat)^q≤2^4:=Nat.pow_le_pow_right (by decide) hq
 exact tableBy_l0 (by omega) hF (2^q) 0 (by omega)
/-- A claim by one of so many people. -/
def clok (p i:Int) (t:List M):Bool:=decide (0≤i∧i<p)&&(tok p t&&decide (t.length≤13))
theorem clok_iff {p i:Int} {t:List M}:clok p i t=true ↔ 0≤i∧i<p∧tok p t=true∧t.length≤13:=by
 unfold clok
 simp only [Bool.and_eq_true,decide_eq_true_eq]
 exact ⟨fun h=>⟨h.1.1,h.1.2,h.2.1,h.2.2⟩,fun h=>⟨⟨h.1,h.2.1⟩,h.2.2.1,h.2.2.2⟩⟩
theorem clok_false {p i:Int} {t:List M} (h : ¬ (0≤i∧i<p∧tok p t=true∧t.length≤13)):false=clok p i t:=by
 cases e:clok p i t with
 | false=>rfl
 | true=>exact absurd (clok_iff.1 e) h
theorem impl_ClaimOk_ev (p i:Int) (t:List M):Ev (fun k=>impl_ClaimOk.f k p i t) (clok p i t):=by
 unfold impl_ClaimOk.f
 simp only [peopleOk_eq,Option.bind_some]
 by_cases h0:1≤p∧p≤4
 ·refine Ev.yes (decide_eq_true h0) ?_
  by_cases h1:i≥0
  ·refine Ev.yes h1 ?_
   by_cases h2:i<p
   ·refine Ev.yes h2 (Ev.bind (impl_TermOk_ev p t) ?_)
    by_cases h3:tok p t=true
    ·refine Ev.yes h3 (Ev.cast (Ev.some _) ?_)
     by_cases h4:t.length≤13
     ·rw [clok_iff.2 ⟨h1,h2,h3,h4⟩];exact decide_eq_true (by omega)
     ·rw [←clok_false (fun h=>h4 h.2.2.2)];exact decide_eq_false (by omega)
    ·exact Ev.no h3 (Ev.cast (Ev.some _) (clok_false (fun h=>h3 h.2.2.1)))
   ·exact Ev.no h2 (Ev.cast (Ev.some _) (clok_false (fun h=>h2 h.2.1)))
  ·exact Ev.no h1 (Ev.cast (Ev.some _) (clok_false (fun h=>h1 h.1)))
 ·refine Ev.no (by simpa using h0) (Ev.cast (Ev.some _) (clok_false (fun h=>h0 ?_)))
  have:=tok_iff.1 h.2.2.1
  omega
theorem spec_ClaimOk_ev (p i:Int) (t:List M) (hl:t.length≤4611686018427387904) (hw : ∀ m∈t,m.f1≤9223372036854775807):Ev (fun k=>spec_ClaimOk.f k p i t) (clok p i t):=by
 unfold spec_ClaimOk.f
 by_cases h1:i≥0
 ·refine Ev.yes h1 ?_
  by_cases h2:i<p
  ·refine Ev.yes h2 (Ev.bind (spec_TermOk_ev p t hl hw) ?_)
   by_cases h3:tok p t=true
   ·refine Ev.yes h3 (Ev.cast (Ev.some _) ?_)
    by_cases h4:t.length≤13
    ·rw [clok_iff.2 ⟨h1,h2,h3,h4⟩];exact decide_eq_true (by omega)
    ·rw [←clok_false (fun h=>h4 h.2.2.2)];exact decide_eq_false (by omega)
   ·exact Ev.no h3 (Ev.cast (Ev.some _) (clok_false (fun h=>h3 h.2.2.1)))
  ·exact Ev.no h2 (Ev.cast (Ev.some _) (clok_false (fun h=>h2 h.2.1)))
 ·exact Ev.no h1 (Ev.cast (Ev.some _) (clok_false (fun h=>h1 h.1)))
theorem impl_maySay_ev {p i:Int} {t:List M} (h:clok p i t=true) {w:Nat} (hw:w<16):Ev (fun k=>impl_maySay.f k i t (w:Int)) (may i t w):=by
 obtain ⟨h0,h1,h2,_⟩:=clok_iff.1 h
 have h4:=(tok_iff.1 h2).2.1
 obtain ⟨j,rfl⟩:=Int.eq_ofNat_of_zero_le h0
 unfold impl_maySay.f
 refine Ev.bind (impl_holds_hv h2 hw) (Ev.yes h0 (Ev.cast (Ev.some _) ?_))
 rw [bit_and' hw (show j<4 by omega)]
 rfl
/-- The table of a claim. -/
noncomputable def ctab (p i:Int) (t:List M):Nat:=tabL (may i t) (2^p.toNat)
theorem impl_ClaimTable_ev (p i:Int) (t:List M):Ev (fun k=>impl_ClaimTable.f k p i t) (if clok p i t=true then ((ctab p i t:Nat):Int) else -1):=by
 unfold impl_ClaimTable.f
 refine Ev.bind (impl_ClaimOk_ev p i t) ?_
 by_cases h:clok p i t=true
 ·rw [if_pos h]
  refine Ev.yes h ?_
  obtain ⟨hp0,hp1,_⟩:=tok_iff.1 (clok_iff.1 h).2.2.1
  obtain ⟨q,rfl,_,hq,hq2,_⟩:=people_nat hp0 hp1
  exact tableBy_ev hq (fun w hw=>impl_maySay_ev h (by omega))
 ·rw [if_neg h]
  exact Ev.no h (Ev.some _)
abbrev C:=S42
theorem rdC_at (pre:List C) (c:C) (suf:List C):rd_T42 (pre++c :: suf) ((pre.length:Nat):Int)=c:=by
 unfold rd_T42
 simp [List.getD]
/-- A story of so many people. -/
def sok (p:Int) (l:List C):Bool:=l.all (fun c=>clok p c.f0 c.f1)&&decide (1≤p∧p≤4∧l.length≤6)
theorem sok_iff {p:Int} {l:List C}:sok p l=true ↔ (∀ c∈l,clok p c.f0 c.f1=true)∧1≤p∧p≤4∧l.length≤6:=by
 unfold sok
 rw [Bool.and_eq_true,List.all_eq_true,decide_eq_true_eq]
theorem impl_StoryOk_l0 {p:Int} {l:List C} (hl:l.length≤4611686018427387904) : ∀ (suf pre:List C),l=pre++suf →
  Ev (fun k=>impl_StoryOk.l0 k p l l ((l.length:Nat):Int) ((pre.length:Nat):Int)) (suf.all (fun c=>clok p c.f0 c.f1)&&decide (1≤p∧p≤4∧l.length≤6)):=by
 intro suf
 induction suf with
 | nil =>
  intro pre he
  have hle:l.length=pre.length:=by rw [he];simp
  refine Ev.step (fun k=>by simp only [impl_StoryOk.l0];rfl) ?_
  refine Ev.no (by omega) ?_
  simp only [peopleOk_eq,Option.bind_some,List.all_nil,Bool.true_and]
  by_cases h:1≤p∧p≤4
  ·refine Ev.yes (decide_eq_true h) (Ev.cast (Ev.some _) ?_)
   exact decide_eq_decide.mpr (by omega)
  ·refine Ev.no (by simpa using h) (Ev.cast (Ev.some _) ?_)
   exact (decide_eq_false (fun hh=>h ⟨hh.1,hh.2.1⟩)).symm
 | cons c t ih =>
  intro pre he
  have hle:l.length=pre.length+(t.length+1):=by rw [he];simp
  have hc:rd_T42 l ((pre.length:Nat):Int)=c:=by rw [he];exact rdC_at pre c t
  refine Ev.step (fun k=>by simp only [impl_StoryOk.l0];rfl) ?_
  rw [hc,w64 (by omega) (by omega),show (((pre.length:Nat):Int)+1)=(((pre++[c]).length:Nat):Int) by simp]
  refine Ev.yes (by omega) (Ev.yes (by omega) (Ev.yes (by omega) (Ev.bind (impl_ClaimOk_ev p c.f0 c.f1) ?_)))
  by_cases h:clok p c.f0 c.f1=true
  ·exact Ev.yes h (Ev.cast (ih (pre++[c]) (by rw [he];simp)) (by rw [List.all_cons,h,Bool.true_and]))
  ·rw [Bool.not_eq_true] at h
   rw [h]
   exact Ev.no (by simp) (Ev.cast (Ev.some _) (by rw [List.all_cons,h];simp))
theorem impl_StoryOk_ev (p:Int) (l:List C) (hl:l.length≤4611686018427387904):Ev (fun k=>impl_StoryOk.f k p l) (sok p l):=by
 unfold impl_StoryOk.f
 exact impl_StoryOk_l0 hl l [] rfl
/-- All worlds, as bits. -/
def fullT (q:Nat):Nat:=2^(2^q)-1
theorem full_eq {q:Nat} (h1:1≤q) (h4:q≤4):wrap64 (shl .i64 1 (shl .u64 1 (q:Int))-1)=((fullT q:Nat):Int):=by
 have : ∀ q:Fin 5,1≤q.val→wrap64 (shl .i64 1 (shl .u64 1 ((q.val:Nat):Int))-1)=((fullT q.val:Nat):Int):=by decide +kernel
 exact this ⟨q,by omega⟩ h1
theorem full_lt {q:Nat} (h4:q≤4):fullT q<65536:=by
 have:(2:Nat)^q≤2^4:=Nat.pow_le_pow_right (by decide) h4
 have h2:(2:Nat)^(2^q)≤2^16:=Nat.pow_le_pow_right (by decide) (by omega)
 unfold fullT
 omega
/-- The table of a story, from some worlds on. -/
noncomputable def stabFrom (p:Int):Nat→List C→Nat
 | a,[]=>a
 | a,c :: l=>stabFrom p (a &&& ctab p c.f0 c.f1) l
noncomputable def stab (p:Int) (l:List C):Nat:=stabFrom p (fullT p.toNat) l
theorem and_lt {a b n:Nat} (h:a<n):a &&& b<n:=Nat.lt_of_le_of_lt Nat.and_le_left h
theorem ctab_lt' {p i:Int} {t:List M} (h:clok p i t=true):ctab p i t<65536:=by
 obtain ⟨hp0,hp1,_⟩:=tok_iff.1 (clok_iff.1 h).2.2.1
 obtain ⟨q,rfl,_,hq,hq2,e⟩:=people_nat hp0 hp1
 unfold ctab
 rw [e]
 exact tabL_mono hq2
theorem impl_storyTable_l0 {p:Int} {l:List C} (hl:l.length≤4611686018427387904) : ∀ (suf pre:List C) (a:Nat),l=pre++suf→(∀ c∈suf,clok p c.f0 c.f1=true)→a<65536 →
  Ev (fun k=>impl_storyTable.l0 k p (a:Int) l ((l.length:Nat):Int) ((pre.length:Nat):Int)) ((stabFrom p a suf:Nat):Int):=by
 intro suf
 induction suf with
 | nil =>
  intro pre a he _ _
  have hle:l.length=pre.length:=by rw [he];simp
  exact Ev.step (fun k=>by simp only [impl_storyTable.l0];rfl) (Ev.no (by omega) (Ev.some _))
 | cons c t ih =>
  intro pre a he hc0 ha
  have hle:l.length=pre.length+(t.length+1):=by rw [he];simp
  have hc:rd_T42 l ((pre.length:Nat):Int)=c:=by rw [he];exact rdC_at pre c t
  have hk:=hc0 c (by simp)
  refine Ev.step (fun k=>by simp only [impl_storyTable.l0];rfl) ?_
  rw [hc,w64 (by omega) (by omega),show (((pre.length:Nat):Int)+1)=(((pre++[c]).length:Nat):Int) by simp]
  refine Ev.yes (by omega) (Ev.yes (by omega) (Ev.yes (by omega) (Ev.bind (impl_ClaimTable_ev p c.f0 c.f1) ?_)))
  rw [if_pos hk]
  have hb:=ctab_lt' hk
  rw [and_nat (by omega) (by omega)]
  exact ih (pre++[c]) _ (by rw [he];simp) (fun x hx=>hc0 x (List.mem_cons_of_mem _ hx)) (and_lt ha)
theorem impl_storyTable_ev {p:Int} {l:List C} (h:sok p l=true):Ev (fun k=>impl_storyTable.f k p l) ((stab p l:Nat):Int):=by
 obtain ⟨h1,hp0,hp1,h6⟩:=sok_iff.1 h
 obtain ⟨q,rfl,hq1,hq,hq2,e⟩:=people_nat hp0 hp1
 unfold impl_storyTable.f stab
 rw [full_eq hq1 hq,e]
 exact Ev.yes (by omega) (impl_storyTable_l0 (by omega) l [] _ rfl h1 (full_lt hq))
theorem impl_StoryTable_ev (p:Int) (l:List C) (hl:l.length≤4611686018427387904):Ev (fun k=>impl_StoryTable.f k p l) (if sok p l=true then ((stab p l:Nat):Int) else -1):=by
 unfold impl_StoryTable.f
 refine Ev.bind (impl_StoryOk_ev p l hl) ?_
 by_cases h:sok p l=true
 ·rw [if_pos h]
  exact Ev.yes h (Ev.bind (impl_storyTable_ev h) (Ev.some _))
 ·rw [if_neg h]
  exact Ev.no h (Ev.some _)
/-- Worlds, as numbers below 16. -/
def Wl (W:List Int):Prop:=∀ x∈W, ∃ v:Nat,x=(v:Int)∧v<16
/-- What is known of a person in some worlds. -/
def knownOf (W:List Int) (i:Nat):Int:=if (∀ x∈W,x.toNat.testBit i=true) then 1 else if (∀ x∈W,x.toNat.testBit i=false) then 0 else -1
theorem wls_wl (x:Nat) : ∀ (d j:Nat) (acc:List Int),d+j≤16→Wl acc→Wl (wls x d j acc)
 | 0,_,_,_,h=>h
 | d+1,j,acc,hj,h=>by
  rw [wls]
  refine wls_wl x d (j+1) _ (by omega) ?_
  split
  ·intro y hy
   rcases List.mem_append.1 hy with hy|hy
   ·exact h y hy
   ·exact ⟨j,List.mem_singleton.1 hy,by omega⟩
  ·exact h
theorem worldsIn_wl (p x:Int):Wl (worldsIn p x):=by
 unfold worldsIn
 split
 ·rename_i h
  obtain ⟨h0,h1,_⟩:=tabok_iff.1 h
  obtain ⟨q,rfl,_,hq4,hq2,e⟩:=people_nat h0 h1
  rw [e]
  exact wls_wl _ _ 0 [] (by omega) (fun y hy=>by cases hy)
 ·exact fun y hy=>by cases hy
theorem bit_and1 {w i:Nat} (hw:w<16) (hi:i<4):Go.bits .and .i64 (shr .i64 (w:Int) (i:Int)) 1=if w.testBit i then 1 else 0:=by
 have : ∀ w:Fin 16, ∀ i:Fin 4,Go.bits .and .i64 (shr .i64 ((w.val:Nat):Int) ((i.val:Nat):Int)) 1=if w.val.testBit i.val then 1 else 0:=by decide +kernel
 exact this ⟨w,hw⟩ ⟨i,hi⟩
/-- The row of what is known. -/
def knownRow (W:List Int):Nat→Nat→List Int→List Int
 | 0,_,acc=>acc
 | d+1,i,acc=>knownRow W d (i+1) (acc++[knownOf W i])
theorem knownRow_length (W:List Int) : ∀ (d i:Nat) (acc:List Int),(knownRow W d i acc).length=acc.length+d
 | 0,_,_=>rfl
 | d+1,i,acc=>by rw [knownRow,knownRow_length W d];simp;omega
theorem rdW (pre:List Int) (x:Int) (suf:List Int):rd (pre++x :: suf) ((pre.length:Nat):Int)=x:=by
 unfold rd
 simp [List.getD]
theorem impl_Known_l {q:Nat} (hq4:q≤4) {W:List Int} (hW:Wl W) (hne:0<W.length) (hlen:W.length≤100000) : ∀ (d i:Nat) (acc:List Int),d+i=q→acc.length≤i →
  Ev (fun k=>impl_KnownPeople.l0 k W acc (q:Int) (i:Int)) (knownRow W d i acc):=by
 intro d
 induction d with
 | zero=>intro i acc hi _;exact Ev.step (fun k=>by simp only [impl_KnownPeople.l0];rfl) (Ev.no (by omega) (Ev.some _))
 | succ d ih =>
  intro i acc hi ha
  obtain ⟨x0,W',rfl⟩ : ∃ x0 W',W=x0 :: W':=by cases W with|nil=>simp at hne|cons a b=>exact ⟨a,b,rfl⟩
  obtain ⟨v0,rfl,hv0⟩:=hW x0 (by simp)
  have h0:rd ((v0:Int) :: W') 0=(v0:Int):=rdW [] _ _
  have hnx:=fun y:Int=>ih (i+1) (acc++[y]) (by omega) (by simp;omega)
  refine Ev.step (fun k=>by simp only [impl_KnownPeople.l0];rfl) ?_
  rw [h0,bit_and1 hv0 (by omega)]
  refine Ev.yes (by omega) (Ev.yes (by simp<;>omega) (Ev.yes (by omega) ?_))
  generalize hb:(if v0.testBit i then (1:Int) else 0)=b
  have inner : ∀ (suf pre:List Int),((v0:Int) :: W')=pre++suf→(∀ x∈pre,(if x.toNat.testBit i then (1:Int) else 0)=b) →
    Ev (fun k=>impl_KnownPeople.l1 k ((v0:Int) :: W') acc (i:Int) b (q:Int) (i:Int) ((v0:Int) :: W') ((((v0:Int) :: W').length:Nat):Int) ((pre.length:Nat):Int)) (knownRow ((v0:Int) :: W') (d+1) i acc):=by
   intro suf
   induction suf with
   | nil =>
    intro pre he hp
    rw [List.append_nil] at he
    have hle:((v0:Int) :: W').length=pre.length:=by rw [he]
    refine Ev.step (fun k=>by simp only [impl_KnownPeople.l1];rfl) (Ev.no (by omega) (Ev.yes (by omega) ?_))
    rw [w64 (by omega) (by omega),show ((i:Int)+1)=((i+1:Nat):Int) by omega,knownRow]
    have hk:knownOf ((v0:Int) :: W') i=b:=by
     rw [he]
     unfold knownOf
     by_cases hvb:v0.testBit i=true
     ·rw [if_pos hvb] at hb
      rw [if_pos (fun x hx=>by have:=hp x hx;rw [←hb] at this;by_cases e:x.toNat.testBit i=true;exact e;rw [if_neg e] at this;omega)]
      exact hb
     ·rw [if_neg hvb] at hb
      have hall : ∀ x∈pre,x.toNat.testBit i=false:=fun x hx=>by have:=hp x hx;rw [←hb] at this;cases e:x.toNat.testBit i with|false=>rfl|true=>rw [e] at this;simp at this
      have hv:(v0:Int)∈pre:=by rw [←he];simp
      rw [if_neg (fun h=>by have h1:=h _ hv;rw [hall _ hv] at h1;cases h1),if_pos hall]
      exact hb
    rw [hk]
    exact hnx b
   | cons x suf ihs =>
    intro pre he hp
    have hle:((v0:Int) :: W').length=pre.length+(suf.length+1):=by rw [he];simp
    have hx:rd ((v0:Int) :: W') ((pre.length:Nat):Int)=x:=by rw [he];exact rdW pre x suf
    obtain ⟨v,rfl,hv⟩:=hW x (by rw [he];simp)
    refine Ev.step (fun k=>by simp only [impl_KnownPeople.l1];rfl) ?_
    rw [hx,bit_and1 hv (by omega)]
    refine Ev.yes (by omega) (Ev.yes (by omega) (Ev.yes (by omega) (Ev.yes (by omega) ?_)))
    by_cases e:(if v.testBit i then (1:Int) else 0)=b
    ·refine Ev.yes e ?_
     rw [w64 (by omega) (by omega),show (((pre.length:Nat):Int)+1)=(((pre++[(v:Int)]).length:Nat):Int) by simp]
     exact ihs (pre++[(v:Int)]) (by rw [he];simp) (fun y hy=>by
      rcases List.mem_append.1 hy with hy|hy
      ·exact hp y hy
      ·rw [List.mem_singleton.1 hy,Int.toNat_natCast];exact e)
    ·refine Ev.no e (Ev.yes (by omega) ?_)
     rw [w64 (by omega) (by omega),show ((i:Int)+1)=((i+1:Nat):Int) by omega,knownRow]
     have hk:knownOf ((v0:Int) :: W') i = -1:=by
      have m0:(v0:Int)∈((v0:Int) :: W'):=by simp
      have m1:(v:Int)∈((v0:Int) :: W'):=by rw [he];simp
      unfold knownOf
      rw [if_neg (fun h=>e (by have h0:=h _ m0;have h1:=h _ m1;rw [Int.toNat_natCast] at h0 h1;rw [←hb,h0,h1])),if_neg (fun h=>e (by have h0:=h _ m0;have h1:=h _ m1;rw [Int.toNat_natCast] at h0 h1;rw [←hb,h0,h1]))]
     rw [hk]
     exact hnx (-1)
  exact inner ((v0:Int) :: W') [] rfl (fun x hx=>by cases hx)
theorem spec_may_ev {p i:Int} {t:List M} (h2:tok p t=true) (h0:0≤i) (h1:i<p) {w:Nat} (hw:w<16):Ev (fun k=>spec_l4May.f k i t (w:Int)) (may i t w):=by
 have h4:=(tok_iff.1 h2).2.1
 obtain ⟨j,rfl⟩:=Int.eq_ofNat_of_zero_le h0
 unfold spec_l4May.f
 refine Ev.yes h0 (Ev.bind (spec_holds_hv h2 hw) (Ev.cast (Ev.some _) ?_))
 rw [bit_mod' hw (show j<4 by omega)]
 unfold may
 exact Bool.beq_comm
theorem spec_l4May_ev {p i:Int} {t:List M} (h:clok p i t=true) {w:Nat} (hw:w<16):Ev (fun k=>spec_l4May.f k i t (w:Int)) (may i t w):=by
 obtain ⟨h0,h1,h2,_⟩:=clok_iff.1 h
 exact spec_may_ev h2 h0 h1 hw
theorem l4Table_l0 {q:Nat} {i:Int} {t:List M} (hq:q≤4) (hq2:2^q≤16) (h:clok (q:Int) i t=true) : ∀ d j,d+j=2^q →
  Ev (fun k=>spec_l4Table.l0 k (q:Int) ((tabL (may i t) j:Nat):Int) (j:Int) i t) ((tabL (may i t) (2^q):Nat):Int):=by
 intro d
 induction d with
 | zero =>
  intro j hj
  rw [Nat.zero_add] at hj
  refine Ev.step (fun k=>by simp only [spec_l4Table.l0];rfl) ?_
  rw [shl_nat (by omega)]
  refine Ev.yes (by omega) (Ev.no (by omega) (Ev.cast (Ev.some _) ?_))
  rw [hj]
 | succ d ih =>
  intro j hj
  refine Ev.step (fun k=>by simp only [spec_l4Table.l0];rfl) ?_
  rw [shl_nat (by omega)]
  refine Ev.yes (by omega) (Ev.yes (by omega) (Ev.bind (spec_l4May_ev h (by omega)) ?_))
  rw [w64 (by omega) (by omega),show ((j:Int)+1)=((j+1:Nat):Int) by omega]
  by_cases hb:may i t j=true
  ·refine Ev.yes hb (Ev.yes (by omega) ?_)
   rw [or_step (by omega) hb]
   exact ih (j+1) (by omega)
  ·refine Ev.no hb ?_
   have:=ih (j+1) (by omega)
   rwa [not_step hb] at this
theorem spec_l4Table_ev {p i:Int} {t:List M} (h:clok p i t=true):Ev (fun k=>spec_l4Table.f k p i t) ((ctab p i t:Nat):Int):=by
 unfold spec_l4Table.f
 obtain ⟨hp0,hp1,_⟩:=tok_iff.1 (clok_iff.1 h).2.2.1
 obtain ⟨q,rfl,_,hq,hq2,_⟩:=people_nat hp0 hp1
 exact l4Table_l0 hq hq2 h (2^q) 0 (by omega)
/-- Small enough for the reference's tests. -/
def Fit (l:List C):Prop:=∀ c∈l,c.f1.length≤4611686018427387904 ∧ ∀ m∈c.f1,m.f1≤9223372036854775807
theorem spec_StoryOk_l0 {p:Int} {l:List C} (hl:l.length≤4611686018427387904) : ∀ (suf pre:List C),l=pre++suf→Fit suf →
  Ev (fun k=>spec_StoryOk.l0 k p l ((pre.length:Nat):Int)) (suf.all (fun c=>clok p c.f0 c.f1)&&decide (1≤p∧p≤4∧l.length≤6)):=by
 intro suf
 induction suf with
 | nil =>
  intro pre he _
  have hle:l.length=pre.length:=by rw [he];simp
  refine Ev.step (fun k=>by simp only [spec_StoryOk.l0];rfl) ?_
  refine Ev.no (by omega) ?_
  simp only [l1In_eq,Option.bind_some,List.all_nil,Bool.true_and]
  by_cases h:1≤p∧p≤4
  ·refine Ev.yes (decide_eq_true h) (Ev.cast (Ev.some _) ?_)
   exact decide_eq_decide.mpr (by omega)
  ·refine Ev.no (by simpa using h) (Ev.cast (Ev.some _) ?_)
   exact (decide_eq_false (fun hh=>h ⟨hh.1,hh.2.1⟩)).symm
 | cons c t ih =>
  intro pre he hf
  have hle:l.length=pre.length+(t.length+1):=by rw [he];simp
  have hc:rd_T42 l ((pre.length:Nat):Int)=c:=by rw [he];exact rdC_at pre c t
  have hfc:=hf c (by simp)
  refine Ev.step (fun k=>by simp only [spec_StoryOk.l0];rfl) ?_
  rw [hc,w64 (by omega) (by omega),show (((pre.length:Nat):Int)+1)=(((pre++[c]).length:Nat):Int) by simp]
  refine Ev.yes (by omega) (Ev.yes (by omega) (Ev.bind (spec_ClaimOk_ev p c.f0 c.f1 hfc.1 hfc.2) ?_))
  by_cases h:clok p c.f0 c.f1=true
  ·exact Ev.yes h (Ev.cast (ih (pre++[c]) (by rw [he];simp) (fun x hx=>hf x (List.mem_cons_of_mem _ hx))) (by rw [List.all_cons,h,Bool.true_and]))
  ·rw [Bool.not_eq_true] at h
   rw [h]
   exact Ev.no (by simp) (Ev.cast (Ev.some _) (by rw [List.all_cons,h];simp))
theorem spec_StoryOk_ev (p:Int) (l:List C) (hl:l.length≤4611686018427387904) (hf:Fit l):Ev (fun k=>spec_StoryOk.f k p l) (sok p l):=by
 unfold spec_StoryOk.f
 exact spec_StoryOk_l0 hl l [] rfl hf
theorem spec_l4Story_l0 {p:Int} {l:List C} (hl:l.length≤4611686018427387904) : ∀ (suf pre:List C) (a:Nat),l=pre++suf→(∀ c∈suf,clok p c.f0 c.f1=true)→a<65536 →
  Ev (fun k=>spec_l4Story.l0 k p l (a:Int) ((pre.length:Nat):Int)) ((stabFrom p a suf:Nat):Int):=by
 intro suf
 induction suf with
 | nil =>
  intro pre a he _ _
  have hle:l.length=pre.length:=by rw [he];simp
  exact Ev.step (fun k=>by simp only [spec_l4Story.l0];rfl) (Ev.no (by omega) (Ev.some _))
 | cons c t ih =>
  intro pre a he hc0 ha
  have hle:l.length=pre.length+(t.length+1):=by rw [he];simp
  have hc:rd_T42 l ((pre.length:Nat):Int)=c:=by rw [he];exact rdC_at pre c t
  have hk:=hc0 c (by simp)
  refine Ev.step (fun k=>by simp only [spec_l4Story.l0];rfl) ?_
  rw [hc,w64 (by omega) (by omega),show (((pre.length:Nat):Int)+1)=(((pre++[c]).length:Nat):Int) by simp]
  refine Ev.yes (by omega) (Ev.yes (by omega) (Ev.bind (spec_l4Table_ev hk) ?_))
  have hb:=ctab_lt' hk
  rw [and_nat (by omega) (by omega)]
  exact ih (pre++[c]) _ (by rw [he];simp) (fun x hx=>hc0 x (List.mem_cons_of_mem _ hx)) (and_lt ha)
theorem spec_l4Story_ev {p:Int} {l:List C} (h:sok p l=true):Ev (fun k=>spec_l4Story.f k p l) ((stab p l:Nat):Int):=by
 obtain ⟨h1,hp0,hp1,h6⟩:=sok_iff.1 h
 obtain ⟨q,rfl,hq1,hq,hq2,e⟩:=people_nat hp0 hp1
 unfold spec_l4Story.f stab
 rw [full_eq hq1 hq,e]
 exact Ev.yes (by omega) (spec_l4Story_l0 (by omega) l [] _ rfl h1 (full_lt hq))
theorem spec_StoryTable_ev (p:Int) (l:List C) (hl:l.length≤4611686018427387904) (hf:Fit l):Ev (fun k=>spec_StoryTable.f k p l) (if sok p l=true then ((stab p l:Nat):Int) else -1):=by
 unfold spec_StoryTable.f
 refine Ev.bind (spec_StoryOk_ev p l hl hf) ?_
 by_cases h:sok p l=true
 ·rw [if_pos h]
  exact Ev.yes h (Ev.bind (spec_l4Story_ev h) (Ev.some _))
 ·rw [if_neg h]
  exact Ev.no h (Ev.some _)
/-- In how many worlds a person tells the truth. -/
def cnt1 (i:Nat):List Int→Nat
 | []=>0
 | x :: l=>(if x.toNat.testBit i then 1 else 0)+cnt1 i l
theorem cnt1_app (i:Nat) : ∀ a b:List Int,cnt1 i (a++b)=cnt1 i a+cnt1 i b
 | [],b=>by simp [cnt1]
 | x :: a,b=>by rw [List.cons_append,cnt1,cnt1,cnt1_app i a b];omega
theorem cnt1_le (i:Nat) : ∀ a:List Int,cnt1 i a≤a.length
 | []=>Nat.le_refl 0
 | x :: a=>by have:=cnt1_le i a;rw [cnt1,List.length_cons];split<;>omega
theorem cnt1_zero (i:Nat) : ∀ a:List Int,cnt1 i a=0 ↔ ∀ x∈a,x.toNat.testBit i=false
 | []=>by simp [cnt1]
 | x :: a=>by
  rw [cnt1]
  have ih:=cnt1_zero i a
  by_cases h:x.toNat.testBit i=true
  ·rw [if_pos h]
   exact ⟨fun e=>by omega,fun e=>by have:=e x (by simp);rw [h] at this;cases this⟩
  ·rw [if_neg h,Nat.zero_add,ih]
   rw [Bool.not_eq_true] at h
   exact ⟨fun e y hy=>by rcases List.mem_cons.1 hy with rfl|hy;exact h;exact e y hy,fun e y hy=>e y (List.mem_cons_of_mem _ hy)⟩
theorem cnt1_all (i:Nat) : ∀ a:List Int,cnt1 i a=a.length ↔ ∀ x∈a,x.toNat.testBit i=true
 | []=>by simp [cnt1]
 | x :: a=>by
  rw [cnt1,List.length_cons]
  have ih:=cnt1_all i a
  have hle:=cnt1_le i a
  by_cases h:x.toNat.testBit i=true
  ·rw [if_pos h]
   exact ⟨fun e y hy=>by rcases List.mem_cons.1 hy with rfl|hy;exact h;exact ih.1 (by omega) y hy,fun e=>by have:=ih.2 (fun y hy=>e y (List.mem_cons_of_mem _ hy));omega⟩
  ·rw [if_neg h]
   exact ⟨fun e=>by omega,fun e=>absurd (e x (by simp)) h⟩
theorem spec_Known_l {q:Nat} (hq4:q≤4) {W:List Int} (hW:Wl W) (hne:0<W.length) (hlen:W.length≤100000) : ∀ (d i:Nat) (acc:List Int),d+i=q→acc.length≤i →
  Ev (fun k=>spec_KnownPeople.l0 k (q:Int) acc W (i:Int)) (knownRow W d i acc):=by
 intro d
 induction d with
 | zero =>
  intro i acc hi _
  refine Ev.step (fun k=>by simp only [spec_KnownPeople.l0];rfl) (Ev.no (by omega) ?_)
  exact Ev.step (fun k=>by simp only [spec_KnownPeople.j1];rfl) (Ev.no (by simp) (Ev.some _))
 | succ d ih =>
  intro i acc hi ha
  have hnx:=fun y:Int=>ih (i+1) (acc++[y]) (by omega) (by simp;omega)
  have inner : ∀ (suf pre:List Int),W=pre++suf→Ev (fun k=>spec_KnownPeople.l1 k (q:Int) acc W (i:Int) ((cnt1 i pre:Nat):Int) ((pre.length:Nat):Int)) (knownRow W (d+1) i acc):=by
   intro suf
   induction suf with
   | nil =>
    intro pre he
    rw [List.append_nil] at he
    subst he
    refine Ev.step (fun k=>by simp only [spec_KnownPeople.l1];rfl) (Ev.no (by omega) ?_)
    rw [w64 (by omega) (by omega),show ((i:Int)+1)=((i+1:Nat):Int) by omega,knownRow]
    by_cases h0:cnt1 i W=0
    ·have hall:=(cnt1_zero i W).1 h0
     have hk:knownOf W i=0:=by
      unfold knownOf
      rw [if_neg (fun h=>by have:=(cnt1_all i W).2 h;omega),if_pos hall]
     rw [hk]
     exact Ev.yes (by omega) (Ev.yes (by omega) (hnx 0))
    ·refine Ev.no (by omega) ?_
     by_cases h1:cnt1 i W=W.length
     ·have hk:knownOf W i=1:=if_pos ((cnt1_all i W).1 h1)
      rw [hk]
      exact Ev.yes (by omega) (Ev.yes (by omega) (hnx 1))
     ·have hk:knownOf W i = -1:=by
       unfold knownOf
       rw [if_neg (fun h=>h1 ((cnt1_all i W).2 h)),if_neg (fun h=>h0 ((cnt1_zero i W).2 h))]
      rw [hk]
      exact Ev.no (by omega) (Ev.yes (by omega) (hnx (-1)))
   | cons x suf ihs =>
    intro pre he
    have hle:W.length=pre.length+(suf.length+1):=by rw [he];simp
    have hx:rd W ((pre.length:Nat):Int)=x:=by rw [he];exact rdW pre x suf
    obtain ⟨v,rfl,hv⟩:=hW x (by rw [he];simp)
    have hcl:=cnt1_le i pre
    have h:=ihs (pre++[(v:Int)]) (by rw [he];simp)
    refine Ev.step (fun k=>by simp only [spec_KnownPeople.l1];rfl) ?_
    rw [hx,bit_int hv (by omega)]
    refine Ev.yes (by omega) (Ev.yes (by omega) (Ev.yes (by omega) ?_))
    have e:((cnt1 i pre:Nat):Int)+(if v.testBit i then 1 else 0)=((cnt1 i (pre++[(v:Int)]):Nat):Int):=by
     rw [cnt1_app,cnt1,cnt1,Int.toNat_natCast]
     split<;>omega
    rw [e,w64 (by omega) (by have:=cnt1_le i (pre++[(v:Int)]);simp at this;omega),w64 (by omega) (by omega),show (((pre.length:Nat):Int)+1)=(((pre++[(v:Int)]).length:Nat):Int) by simp]
    exact h
  refine Ev.step (fun k=>by simp only [spec_KnownPeople.l0];rfl) (Ev.yes (by omega) ?_)
  rw [decide_eq_true (by omega)]
  exact Ev.step (fun k=>by simp only [spec_KnownPeople.j1];rfl) (Ev.yes (by simp) (inner W [] rfl))
end Go.Proofs.Ytbhjeiphmnanoaa.L
