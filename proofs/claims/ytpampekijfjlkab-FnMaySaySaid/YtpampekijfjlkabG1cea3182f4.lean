/- Joined by a program of this session's: X62, X63. -/
import Derived.Test.YtpampekijfjlkabG44e43c9cff
import Derived.Test.YtpampekijfjlkabG5ff050bb90

namespace Go.Proofs.Ytpampekijfjlkab.X
open Go.RowKit Go.Proofs.YtpampekijfjlkabW.PrintWords Go.Proofs.YtpampekijfjlkabW.PrintLast Go.Proofs.YtpampekijfjlkabW.PrintMore
open Go.Proofs.YtpampekijfjlkabW.PrintWords renaming Aside0.mk → mA, pw_below_drewN → bN, below_drew1 → bD, below_alloc → bA, below_set → bS, blk_alloc → kA, blk_drewN → kN, blk_drew → kD, blk_cell → kC, blk_frozen → kF, below_size → bZ, below_step → bT, Kd.R_alloc → rA, Kd.R_drewN → rN, Kd.R_drew → rD, Kd.R_mono → rM, Kd.R_far → rF, Kd.R_below → rB, Kd.C_alloc → cA, Kd.C_drewN → cN, Kd.C_drew → cD
open List renaming length_take → lT, length_drop → lD, map_toArray → mT, map_cons → mC, map_nil → mN
attribute [local go_sem] max2_int min2_int max_two min_two max_three min_three max_four min_four   -- for this text's walks alone
set_option linter.unusedVariables false
set_option linter.unusedSimpArgs false
/-! ### impl_MirrorTerm: function 40 -/
def impl_MirrorTerm.l0:Nat→Int→List (S33)→List (S33)→Int→Int→Option ((List (S33))×Bool)
 | 0,_,_,_,_,_=>none
 | k+1,x0,x6,x14,x15,x16=>if x16<x15 then (if 0≤x16 then (if x16<(x14.length:Int) then (if ((rd_T33 x14 x16).f0)=1 then (if x6.length<8796093022208 then ((some (x6++[(⟨(rd_T33 x14 x16).f0,wrap64 ((wrap64 (x0+1))-((rd_T33 x14 x16).f1))⟩:S33)]:List (S33))).bind fun y107=>(if ((rd_T33 x14 x16).f0)=0 then (if y107.length<8796093022208 then (impl_MirrorTerm.l0 k x0 (y107++[(⟨2,0⟩:S33)]) x14 x15 (wrap64 (x16+1))) else (none)) else (if y107.length<8796093022208 then (impl_MirrorTerm.l0 k x0 (y107++[(⟨2,0⟩:S33)]) x14 x15 (wrap64 (x16+1))) else (none)))) else (none)) else (if x6.length<8796093022208 then ((some (x6++[(⟨(rd_T33 x14 x16).f0,(rd_T33 x14 x16).f1⟩:S33)]:List (S33))).bind fun y116=>(if ((rd_T33 x14 x16).f0)=0 then (if y116.length<8796093022208 then (impl_MirrorTerm.l0 k x0 (y116++[(⟨2,0⟩:S33)]) x14 x15 (wrap64 (x16+1))) else (none)) else (impl_MirrorTerm.l0 k x0 y116 x14 x15 (wrap64 (x16+1))))) else (none))) else (none)) else (none)) else (if (x6.length:Int)>15 then (some (([]:List (S33)),false)) else (some (x6,true)))
def impl_MirrorTerm.f (k:Nat) (a0:Int) (l1:List (S33)):Option ((List (S33))×Bool):=(impl_TermOk.f k a0 l1).bind fun t101=>(if t101=true then (impl_MirrorTerm.l0 k a0 (([]:List (S33))) l1 (l1.length:Int) 0) else (some (([]:List (S33)),false)))
theorem impl_MirrorTerm.mono_l : ∀ k,(∀ y0 y1 y2 y3 y4,LeO (impl_MirrorTerm.l0 k y0 y1 y2 y3 y4) (impl_MirrorTerm.l0 (k+1) y0 y1 y2 y3 y4))
 | 0=>fun _ _ _ _ _ r h=>by simp [impl_MirrorTerm.l0] at h
 | k+1=>by
  have ih0:=impl_MirrorTerm.mono_l k
  ·intro y0 y1 y2 y3 y4
   unfold impl_MirrorTerm.l0
   repeat' first
   | (with_reducible exact ih0 _ _ _ _ _)
   | (with_reducible exact impl_TermOk.mono _ _ _)
   | (with_reducible exact LeO.refl _)
   | (with_reducible exact LeO.none _)
   | (with_reducible refine LeO.ite ?_ ?_)
   | (with_reducible refine LeO.bind ?_ (fun _=>?_))
   | exact ih0 _ _ _ _ _
   | exact impl_TermOk.mono _ _ _
   | exact LeO.none _
   | refine LeO.ite ?_ ?_
   | refine LeO.bind ?_ (fun _=>?_)
theorem impl_MirrorTerm.mono : ∀ a0 a1 k,LeO (impl_MirrorTerm.f k a0 a1) (impl_MirrorTerm.f (k+1) a0 a1):=by
 intro a0 a1 k
 have ih0:=impl_MirrorTerm.mono_l k
 unfold impl_MirrorTerm.f
 repeat' first
   | (with_reducible exact ih0 _ _ _ _ _)
   | (with_reducible exact impl_TermOk.mono _ _ _)
   | (with_reducible exact LeO.refl _)
   | (with_reducible exact LeO.none _)
   | (with_reducible refine LeO.ite ?_ ?_)
   | (with_reducible refine LeO.bind ?_ (fun _=>?_))
   | exact ih0 _ _ _ _ _
   | exact impl_TermOk.mono _ _ _
   | exact LeO.none _
   | refine LeO.ite ?_ ?_
   | refine LeO.bind ?_ (fun _=>?_)
set_option maxHeartbeats 8000000 in
set_option maxRecDepth 100000 in
theorem impl_MirrorTerm.calls (k:Nat) (a0:Int) (A1:Option Addr) (c1:Nat) (l1:List (S33)) (r1:List (S33)) (r2:Bool) (w:World) (hr1:Kd.C k33 w A1 l1.length l1) (hc1:l1.length≤c1) (h:impl_MirrorTerm.f k a0 l1=some (r1,r2)) :
  Calls Try.prog 40 #[.int .i64 a0,.slice A1 l1.length c1] w fun e w'=>∃ v0_:Value,e = .returned (.tuple #[v0_,.bool r2])∧Kd.R k33 33 w' w.heap.size (fun _=>True) v0_ r1∧Below w.heap.size w w':=by
 have hu33:=Try.underlying33
 have HR1:=mA hr1
 have HC1:=mA hc1
 clear hr1 hc1
 have HB:=mA (Below.refl w.heap.size w)
 have H:((impl_TermOk.f k a0 l1).bind fun t101=>(if t101=true then (impl_MirrorTerm.l0 k a0 (([]:List (S33))) l1 (l1.length:Int) 0) else (some (([]:List (S33)),false))))=some (r1,r2):=h
 clear h
 replace H:=Option.bind_eq_some_iff.mp H
 obtain ⟨t101,A30,H⟩:=H
 replace H:(if t101=true then (impl_MirrorTerm.l0 k a0 (([]:List (S33))) l1 (l1.length:Int) 0) else (some (([]:List (S33)),false)))=some (r1,r2):=H
 have A3:=mA A30
 clear A30
 by_cases c4:t101=true
 ·subst c4
  have H1:(impl_MirrorTerm.l0 k a0 (([]:List (S33))) l1 (l1.length:Int) 0)=some (r1,r2):=by rw [if_pos rfl] at H;exact H
  clear H
  have H:=H1
  clear H1
  obtain ⟨y102,hy102⟩ : ∃ y_:List (S33),y_=(([]:List (S33))):=⟨_,rfl⟩
  replace H:(impl_MirrorTerm.l0 k a0 y102 l1 (l1.length:Int) 0)=some (r1,r2):=by first|(rw [hy102];with_reducible exact H)|(have H2_:=(Option.bind_some _ _).symm.trans H;rw [hy102];with_reducible exact H2_)|(have H2_:=(Option.bind_some _ _).symm.trans H;with_reducible exact H2_)|with_reducible exact H|(rw [hy102];exact H)|exact H
  have Ny102:=mA hy102
  clear hy102
  have H':=mA H
  clear H
  go_enter Try.func40,Try.ntmps40
  go_wp2_with (first|((with_reducible refine gate_callee (f:=111) rfl ?_);refine goesL_ (some 11) rfl rfl Try.func111 (by kernel_rfl) rfl #[.int .i64 a0,.slice A1 l1.length c1] rfl (by (try simp only [mT,mC,mN]);first|done|rfl|(simp only [lD,lT];rfl)) ?_;(with_reducible refine (impl_TermOk.calls k a0 _ _ l1 true _ ?side1 ?side2 A3.out).mono ?_);(case side1=>repeat (first|exact HR1.out|(with_reducible refine cA ?_ _)|(with_reducible refine cN ?_ _)|(with_reducible refine cD ?_)));(case side2=>exact HC1.out);rintro e w5 ⟨rfl,hb⟩;refine ⟨_,rfl,?_⟩;have n0_:=mA (bT (by repeat (first|(with_reducible first|exact HB.out|apply bA|apply bN|apply bD)|exact HB.out)) hb);clear HB;have HB:=n0_;clear n0_;(try clear hb);(try clear hb2);(try clear hk);(try clear hi))|((with_reducible refine gate_dst (N:=13) rfl ?_);refine Kd.R_lit k33 _ 33 ?hg (N:=13) ?hd (xs:=([]:List (S33))) (inner:=[]) (ok:=fun _=>True) (okp:=fun _=>True) ?hr ?hp (fun _ hk=>hk) trivial (Below.refl _ _) (Nat.le_refl _) (by simp) ?_;(case hd=>rfl);(case hg=>rfl);(case hr=>first|(go_simp;done)|(go_simp;rfl));(case hp=>exact (Reps.none _ _));intro v103 w6 ho7 hb hg_ hnew_;clear hg_ hnew_;(first|rw [←Ny102.out] at ho7|(simp only [Int.reduceToNat] at ho7;rw [←Ny102.out] at ho7));have n0_:=mA (Kd.R_lower ho7 (bZ (by repeat (first|(with_reducible first|exact HB.out|apply bA|apply bN|apply bD)|exact HB.out))));have n1_:=mA (bT (by repeat (first|(with_reducible first|exact HB.out|apply bA|apply bN|apply bD)|exact HB.out)) hb);clear HB;have HO104:=n0_;have HB:=n1_;clear n0_ n1_ hb ho7))
  go_loopg [6,16] k (fun kq v6 v16 w'=>∃ (x6_1:List (S33)) (x16_1:Int),v16 = .int .i64 x16_1∧Aside0 (impl_MirrorTerm.l0 kq a0 x6_1 l1 (l1.length:Int) x16_1=some (r1,r2))∧Aside0 (kq≤k)∧Aside0 (Kd.R k33 33 w' w.heap.size (fun _=>True) v6 x6_1)∧Aside0 (Below w.heap.size w w'))
  case atStart=>exact ⟨(y102),(0),(by first|rfl|(simp;done)|(simp [*];done)),H',⟨Nat.le_refl _⟩,⟨by (with_reducible repeat (first|apply rA|apply rN|apply rD));exact HO104.out⟩,⟨by repeat (first|(with_reducible first|exact HB.out|apply bA|apply bN|apply bD)|exact HB.out)⟩⟩
  case round =>
   clear H'
   try clear c1
   try clear p2
   try clear c4
   obtain ⟨x6_1,x16_1,rfl,HA,HK1,HO_6,HB⟩:=hrel
   cases gk with
   | zero=>exact absurd HA.out (by simp [impl_MirrorTerm.l0])
   | succ k1 =>
    have H:=HA.out
    clear HA
    simp only [impl_MirrorTerm.l0] at H
    by_cases c8:x16_1<(l1.length:Int)
    ·rw [if_pos c8] at H
     have c8b0:decide (x16_1<(l1.length:Int))=true:=decide_eq_true c8
     clear c8
     by_cases c9:0≤x16_1
     ·rw [if_pos c9] at H
      have c9b0:decide (0≤x16_1)=true:=decide_eq_true c9
      clear c9
      by_cases c10:x16_1<(l1.length:Int)
      ·rw [if_pos c10] at H
       have c10b0:decide (x16_1<(l1.length:Int))=true:=decide_eq_true c10
       clear c10
       by_cases c11:((rd_T33 l1 x16_1).f0)=1
       ·rw [if_pos c11] at H
        have c11b0:(((rd_T33 l1 x16_1).f0)==1)=true:=beq_iff_eq.mpr c11
        have c11b1:(((rd_T33 l1 x16_1).f0) != 1)=false:=bne_eq_false_iff_eq.mpr c11
        clear c11
        by_cases c12:x6_1.length<8796093022208
        ·rw [if_pos c12] at H
         have LMc12:=mA c12
         clear c12
         obtain ⟨y107,hy107⟩ : ∃ y_:List (S33),y_=(x6_1++[(⟨(rd_T33 l1 x16_1).f0,wrap64 ((wrap64 (a0+1))-((rd_T33 l1 x16_1).f1))⟩:S33)]):=⟨_,rfl⟩
         replace H:(if ((rd_T33 l1 x16_1).f0)=0 then (if y107.length<8796093022208 then (impl_MirrorTerm.l0 k1 a0 (y107++[(⟨2,0⟩:S33)]) l1 (l1.length:Int) (wrap64 (x16_1+1))) else (none)) else (if y107.length<8796093022208 then (impl_MirrorTerm.l0 k1 a0 (y107++[(⟨2,0⟩:S33)]) l1 (l1.length:Int) (wrap64 (x16_1+1))) else (none)))=some (r1,r2):=by first|(rw [hy107];with_reducible exact H)|(have H2_:=(Option.bind_some _ _).symm.trans H;rw [hy107];with_reducible exact H2_)|(have H2_:=(Option.bind_some _ _).symm.trans H;with_reducible exact H2_)|with_reducible exact H|(rw [hy107];exact H)|exact H
         have Ny107:=mA hy107
         clear hy107
         by_cases c13:((rd_T33 l1 x16_1).f0)=0
         ·rw [if_pos c13] at H
          have c13b0:(((rd_T33 l1 x16_1).f0)==0)=true:=beq_iff_eq.mpr c13
          have c13b1:(((rd_T33 l1 x16_1).f0) != 0)=false:=bne_eq_false_iff_eq.mpr c13
          clear c13
          by_cases c14:y107.length<8796093022208
          ·rw [if_pos c14] at H
           have LMc14:=mA c14
           clear c14
           obtain ⟨y110,hy110⟩ : ∃ y_:List (S33),y_=(y107++[(⟨2,0⟩:S33)]):=⟨_,rfl⟩
           replace H:(impl_MirrorTerm.l0 k1 a0 y110 l1 (l1.length:Int) (wrap64 (x16_1+1)))=some (r1,r2):=by first|(rw [hy110];with_reducible exact H)|(have H2_:=(Option.bind_some _ _).symm.trans H;rw [hy110];with_reducible exact H2_)|(have H2_:=(Option.bind_some _ _).symm.trans H;with_reducible exact H2_)|with_reducible exact H|(rw [hy110];exact H)|exact H
           have Ny110:=mA hy110
           clear hy110
           have H':=mA H
           clear H
           have p105:0≤(x16_1:Int):=of_decide_eq_true (by first|(with_reducible assumption)|assumption)
           have q105:x16_1<(l1.length:Int):=of_decide_eq_true (by first|(with_reducible assumption)|assumption)
           obtain ⟨ad105,e105,hx105_0,hx105_1⟩:=at_T33 HR1.out x16_1 p105 q105
           cases e105
           replace hx105_0:=(HB.out.cell (World.block_lt_of_cell? w _ hx105_0)).trans hx105_0
           replace hx105_1:=(HB.out.cell (World.block_lt_of_cell? w _ hx105_1)).trans hx105_1
           replace p105:=eq_true p105
           replace q105:=eq_true q105
           go_wp2_with (first|((with_reducible refine gate_dst (N:=8) rfl ?_);refine box_event ?hg (N:=8) ?hd (cs:=#[.int .i64 0,.int .i64 0]) (t:=33) ?hr ?_;(case hd=>rfl);(case hg=>rfl);(case hr=>first|(go_simp;done)|(go_simp;rfl));intro gb106 hg w15 hbox hb;have n0_:=mA (rB (Kd.R_elderB (by (with_reducible repeat (first|apply rA|apply rN|apply rD));exact HO_6.out) gb106 (Nat.le_of_eq hg.symm)) hb);have n1_:=mA (bT (by repeat (first|(with_reducible first|exact HB.out|apply bA|apply bN|apply bD)|exact HB.out)) hb);have n2_:=mA (hbox);have n3_:=mA ((by rw [hg];exact (bZ (by repeat (first|(with_reducible first|exact HB.out|apply bA|apply bN|apply bD)|exact HB.out))):w.heap.size≤gb106));have n4_:=mA ((by rw [hg];exact (bZ (by repeat (first|(with_reducible first|exact HB.out|apply bA|apply bN|apply bD)|exact HB.out))):w.heap.size≤gb106));clear HO_6 HB;have HO_6:=n0_;have HB:=n1_;have BK106:=n2_;have GW106:=n3_;have GE106:=n4_;clear n0_ n1_ n2_ n3_ n4_ hb hbox hg;have hcz16_0:w15.cell? ⟨gb106,0,none⟩=some (.int .i64 0):=(kC BK106.out 0).trans rfl;have hcz16_1:w15.cell? ⟨gb106,1,none⟩=some (.int .i64 0):=(kC BK106.out 1).trans rfl;have hfz16_0:=kF BK106.out 0;have hfz16_1:=kF BK106.out 1;have hq106_0 : ∀ A B C:Value,(((w15.setCell ⟨gb106,0,none⟩ A).setCell ⟨gb106,1,none⟩ B).setCell ⟨gb106,1,none⟩ C).cell? ⟨gb106,0,none⟩=some A:=fun A B C=>(kC (blk_put (cs':=#[A,C]) (blk_put (cs':=#[A,B]) (blk_put (cs':=#[A,.int .i64 0]) BK106.out 0 A rfl) 1 B rfl) 1 C rfl) 0).trans rfl;have hq106_1 : ∀ A B C:Value,(((w15.setCell ⟨gb106,0,none⟩ A).setCell ⟨gb106,1,none⟩ B).setCell ⟨gb106,1,none⟩ C).cell? ⟨gb106,1,none⟩=some C:=fun A B C=>(kC (blk_put (cs':=#[A,C]) (blk_put (cs':=#[A,B]) (blk_put (cs':=#[A,.int .i64 0]) BK106.out 0 A rfl) 1 B rfl) 1 C rfl) 1).trans rfl)|((with_reducible refine gate_builtin (b:=.append) (xs:=#[.tmp 29,.tmp 31]) rfl ?_);at_builtin;refine Kd.R_append k33 (w0:=w) w.heap.size rfl (.tmp 29) (.tmp 31) 34 33 (.agg #[(.int .i64 0),(.int .i64 0)]) 16 rfl Try.underlying34 info33 rfl (by decide) (by omega) u6 x6_1 (⟨(rd_T33 l1 x16_1).f0,wrap64 ((wrap64 (a0+1))-((rd_T33 l1 x16_1).f1))⟩:S33) [.int .i64 ((rd_T33 l1 x16_1).f0),.int .i64 (wrap64 ((wrap64 (a0+1))-((rd_T33 l1 x16_1).f1)))] (fun k_=>k_≠gb106) (fun _=>False) rfl (by first|(go_simp;done)|(go_simp;rfl)) ?aP (fun _ hk=>hk.elim) ?aF ?aO ?aB ?aS ?aL ?_;(case aP=>exact k33_mkM _ _ _ (⟨(rd_T33 l1 x16_1).f0,wrap64 ((wrap64 (a0+1))-((rd_T33 l1 x16_1).f1))⟩:S33));(case aB=>exact (by repeat (first|(with_reducible first|exact HB.out|apply bA|apply bN|apply bD|refine bS ?_ GE106.out)|exact HB.out)));(case aF=>exact (fun k_ hk=>Kd.freshB (g:=gb106) (o:=.cells #[.int .i64 ((rd_T33 l1 x16_1).f0),.int .i64 (wrap64 ((wrap64 (a0+1))-((rd_T33 l1 x16_1).f1)))] 33 (0,0)) (by (with_reducible repeat (first|refine kN ?_ _|refine kD ?_|refine kA ?_ _));refine blk_put (cs:=#[.int .i64 ((rd_T33 l1 x16_1).f0),.int .i64 ((rd_T33 l1 x16_1).f1)]) ?_ 1 _ rfl;(with_reducible repeat (first|refine kN ?_ _|refine kD ?_|refine kA ?_ _));refine blk_put (cs:=#[.int .i64 ((rd_T33 l1 x16_1).f0),.int .i64 0]) ?_ 1 _ rfl;(with_reducible repeat (first|refine kN ?_ _|refine kD ?_|refine kA ?_ _));refine blk_put (cs:=#[.int .i64 0,.int .i64 0]) ?_ 0 _ rfl;(with_reducible repeat (first|refine kN ?_ _|refine kD ?_|refine kA ?_ _));exact BK106.out) k_ hk));(case aO=>exact (by (with_reducible repeat (first|apply rA|apply rN|apply rD));exact rM (rF (p:=⟨gb106,1,none⟩) (rF (p:=⟨gb106,1,none⟩) (rF (p:=⟨gb106,0,none⟩) (rM HO_6.out (fun k_ hk=>(⟨hk,hk.2⟩:_∧k_≠gb106))) (fun _ hk=>hk.2) (.int .i64 ((rd_T33 l1 x16_1).f0))) (fun _ hk=>hk.2) (.int .i64 ((rd_T33 l1 x16_1).f1))) (fun _ hk=>hk.2) (.int .i64 (wrap64 ((wrap64 (a0+1))-((rd_T33 l1 x16_1).f1))))) (fun _ hk=>hk.1.2)));(case aS=>exact (bZ (by repeat (first|(with_reducible first|exact HB.out|apply bA|apply bN|apply bD|refine bS ?_ GE106.out)|exact HB.out))));(case aL=>have:=LMc12.out;omega);intro v108 w17 ho hb hg hat;rw [←Ny107.out] at ho;have n0_:=mA (blk_grown (g:=gb106) (o:=.cells #[.int .i64 ((rd_T33 l1 x16_1).f0),.int .i64 (wrap64 ((wrap64 (a0+1))-((rd_T33 l1 x16_1).f1)))] 33 (0,0)) (by (with_reducible repeat (first|refine kN ?_ _|refine kD ?_|refine kA ?_ _));refine blk_put (cs:=#[.int .i64 ((rd_T33 l1 x16_1).f0),.int .i64 ((rd_T33 l1 x16_1).f1)]) ?_ 1 _ rfl;(with_reducible repeat (first|refine kN ?_ _|refine kD ?_|refine kA ?_ _));refine blk_put (cs:=#[.int .i64 ((rd_T33 l1 x16_1).f0),.int .i64 0]) ?_ 1 _ rfl;(with_reducible repeat (first|refine kN ?_ _|refine kD ?_|refine kA ?_ _));refine blk_put (cs:=#[.int .i64 0,.int .i64 0]) ?_ 0 _ rfl;(with_reducible repeat (first|refine kN ?_ _|refine kD ?_|refine kA ?_ _));exact BK106.out) hg (Kd.R_away HO_6.out (fun _ hk=>hk.2)));have n1_:=mA (hb);have n2_:=mA (ho);clear BK106 HB HO_6;have BK106:=n0_;have HB:=n1_;have HO109:=n2_;clear n0_ n1_ n2_ ho hb hg hat;have hcz18_0:w17.cell? ⟨gb106,0,none⟩=some (.int .i64 ((rd_T33 l1 x16_1).f0)):=(kC BK106.out 0).trans rfl;have hcz18_1:w17.cell? ⟨gb106,1,none⟩=some (.int .i64 (wrap64 ((wrap64 (a0+1))-((rd_T33 l1 x16_1).f1)))):=(kC BK106.out 1).trans rfl;have hfz18_0:=kF BK106.out 0;have hfz18_1:=kF BK106.out 1)|((with_reducible refine gate_builtin (b:=.append) (xs:=#[.tmp 41,.tmp 43]) rfl ?_);at_builtin;refine Kd.R_append k33 (w0:=w) w.heap.size rfl (.tmp 41) (.tmp 43) 34 33 (.agg #[(.int .i64 0),(.int .i64 0)]) 16 rfl Try.underlying34 info33 rfl (by decide) (by omega) v108 y107 (⟨2,0⟩:S33) [.int .i64 2,.int .i64 0] (fun k_=>k_≠gb106) (fun _=>False) rfl rfl ?aP (fun _ hk=>hk.elim) ?aF ?aO ?aB ?aS ?aL ?_;(case aP=>exact k33_mkM _ _ _ (⟨2,0⟩:S33));(case aB=>exact (by repeat (first|(with_reducible first|exact HB.out|apply bA|apply bN|apply bD|refine bS ?_ GE106.out)|exact HB.out)));(case aF=>exact (fun k_ hk=>Kd.freshB (g:=gb106) (o:=.cells #[.int .i64 ((rd_T33 l1 x16_1).f0),.int .i64 (wrap64 ((wrap64 (a0+1))-((rd_T33 l1 x16_1).f1)))] 33 (0,0)) (by (with_reducible repeat (first|refine kN ?_ _|refine kD ?_|refine kA ?_ _));exact BK106.out) k_ hk));(case aO=>exact (by (with_reducible repeat (first|apply rA|apply rN|apply rD));exact HO109.out));(case aS=>exact (bZ (by repeat (first|(with_reducible first|exact HB.out|apply bA|apply bN|apply bD|refine bS ?_ GE106.out)|exact HB.out))));(case aL=>have:=LMc14.out;omega);intro v111 w19 ho hb hg hat;rw [←Ny110.out] at ho;have n0_:=mA (blk_grown (g:=gb106) (o:=.cells #[.int .i64 ((rd_T33 l1 x16_1).f0),.int .i64 (wrap64 ((wrap64 (a0+1))-((rd_T33 l1 x16_1).f1)))] 33 (0,0)) (by (with_reducible repeat (first|refine kN ?_ _|refine kD ?_|refine kA ?_ _));exact BK106.out) hg (Kd.R_away HO109.out (fun _ hk=>hk)));have n1_:=mA (hb);have n2_:=mA (ho);clear BK106 HB HO109;have BK106:=n0_;have HB:=n1_;have HO112:=n2_;clear n0_ n1_ n2_ ho hb hg hat))
           go_roundg k1
           case measure=>have:=HK1.out;omega
           case rel=>exact ⟨(y110),(wrap64 (x16_1+1)),(by first|rfl|(simp;done)|(simp [*];done)),H',⟨by have:=HK1.out;omega⟩,⟨by (with_reducible repeat (first|apply rA|apply rN|apply rD));exact rM HO112.out (fun _ hk=>trivial)⟩,⟨by repeat (first|(with_reducible first|exact HB.out|apply bA|apply bN|apply bD|refine bS ?_ GE106.out)|exact HB.out)⟩⟩
          ·rw [if_neg c14] at H
           exact absurd H (by simp)
         ·rw [if_neg c13] at H
          have c13b0:(((rd_T33 l1 x16_1).f0)==0)=false:=beq_eq_false_iff_ne.mpr c13
          have c13b1:(((rd_T33 l1 x16_1).f0) != 0)=true:=bne_iff_ne.mpr c13
          by_cases c20:y107.length<8796093022208
          ·rw [if_pos c20] at H
           have LMc20:=mA c20
           clear c20
           obtain ⟨y113,hy113⟩ : ∃ y_:List (S33),y_=(y107++[(⟨2,0⟩:S33)]):=⟨_,rfl⟩
           replace H:(impl_MirrorTerm.l0 k1 a0 y113 l1 (l1.length:Int) (wrap64 (x16_1+1)))=some (r1,r2):=by first|(rw [hy113];with_reducible exact H)|(have H2_:=(Option.bind_some _ _).symm.trans H;rw [hy113];with_reducible exact H2_)|(have H2_:=(Option.bind_some _ _).symm.trans H;with_reducible exact H2_)|with_reducible exact H|(rw [hy113];exact H)|exact H
           have Ny113:=mA hy113
           clear hy113
           have H':=mA H
           clear H
           have p105:0≤(x16_1:Int):=of_decide_eq_true (by first|(with_reducible assumption)|assumption)
           have q105:x16_1<(l1.length:Int):=of_decide_eq_true (by first|(with_reducible assumption)|assumption)
           obtain ⟨ad105,e105,hx105_0,hx105_1⟩:=at_T33 HR1.out x16_1 p105 q105
           cases e105
           replace hx105_0:=(HB.out.cell (World.block_lt_of_cell? w _ hx105_0)).trans hx105_0
           replace hx105_1:=(HB.out.cell (World.block_lt_of_cell? w _ hx105_1)).trans hx105_1
           replace p105:=eq_true p105
           replace q105:=eq_true q105
           go_wp2_with (first|((with_reducible refine gate_dst (N:=8) rfl ?_);refine box_event ?hg (N:=8) ?hd (cs:=#[.int .i64 0,.int .i64 0]) (t:=33) ?hr ?_;(case hd=>rfl);(case hg=>rfl);(case hr=>first|(go_simp;done)|(go_simp;rfl));intro gb106 hg w21 hbox hb;have n0_:=mA (rB (Kd.R_elderB (by (with_reducible repeat (first|apply rA|apply rN|apply rD));exact HO_6.out) gb106 (Nat.le_of_eq hg.symm)) hb);have n1_:=mA (bT (by repeat (first|(with_reducible first|exact HB.out|apply bA|apply bN|apply bD)|exact HB.out)) hb);have n2_:=mA (hbox);have n3_:=mA ((by rw [hg];exact (bZ (by repeat (first|(with_reducible first|exact HB.out|apply bA|apply bN|apply bD)|exact HB.out))):w.heap.size≤gb106));have n4_:=mA ((by rw [hg];exact (bZ (by repeat (first|(with_reducible first|exact HB.out|apply bA|apply bN|apply bD)|exact HB.out))):w.heap.size≤gb106));clear HO_6 HB;have HO_6:=n0_;have HB:=n1_;have BK106:=n2_;have GW106:=n3_;have GE106:=n4_;clear n0_ n1_ n2_ n3_ n4_ hb hbox hg;have hcz22_0:w21.cell? ⟨gb106,0,none⟩=some (.int .i64 0):=(kC BK106.out 0).trans rfl;have hcz22_1:w21.cell? ⟨gb106,1,none⟩=some (.int .i64 0):=(kC BK106.out 1).trans rfl;have hfz22_0:=kF BK106.out 0;have hfz22_1:=kF BK106.out 1;have hq106_0 : ∀ A B C:Value,(((w21.setCell ⟨gb106,0,none⟩ A).setCell ⟨gb106,1,none⟩ B).setCell ⟨gb106,1,none⟩ C).cell? ⟨gb106,0,none⟩=some A:=fun A B C=>(kC (blk_put (cs':=#[A,C]) (blk_put (cs':=#[A,B]) (blk_put (cs':=#[A,.int .i64 0]) BK106.out 0 A rfl) 1 B rfl) 1 C rfl) 0).trans rfl;have hq106_1 : ∀ A B C:Value,(((w21.setCell ⟨gb106,0,none⟩ A).setCell ⟨gb106,1,none⟩ B).setCell ⟨gb106,1,none⟩ C).cell? ⟨gb106,1,none⟩=some C:=fun A B C=>(kC (blk_put (cs':=#[A,C]) (blk_put (cs':=#[A,B]) (blk_put (cs':=#[A,.int .i64 0]) BK106.out 0 A rfl) 1 B rfl) 1 C rfl) 1).trans rfl)|((with_reducible refine gate_builtin (b:=.append) (xs:=#[.tmp 29,.tmp 31]) rfl ?_);at_builtin;refine Kd.R_append k33 (w0:=w) w.heap.size rfl (.tmp 29) (.tmp 31) 34 33 (.agg #[(.int .i64 0),(.int .i64 0)]) 16 rfl Try.underlying34 info33 rfl (by decide) (by omega) u6 x6_1 (⟨(rd_T33 l1 x16_1).f0,wrap64 ((wrap64 (a0+1))-((rd_T33 l1 x16_1).f1))⟩:S33) [.int .i64 ((rd_T33 l1 x16_1).f0),.int .i64 (wrap64 ((wrap64 (a0+1))-((rd_T33 l1 x16_1).f1)))] (fun k_=>k_≠gb106) (fun _=>False) rfl (by first|(go_simp;done)|(go_simp;rfl)) ?aP (fun _ hk=>hk.elim) ?aF ?aO ?aB ?aS ?aL ?_;(case aP=>exact k33_mkM _ _ _ (⟨(rd_T33 l1 x16_1).f0,wrap64 ((wrap64 (a0+1))-((rd_T33 l1 x16_1).f1))⟩:S33));(case aB=>exact (by repeat (first|(with_reducible first|exact HB.out|apply bA|apply bN|apply bD|refine bS ?_ GE106.out)|exact HB.out)));(case aF=>exact (fun k_ hk=>Kd.freshB (g:=gb106) (o:=.cells #[.int .i64 ((rd_T33 l1 x16_1).f0),.int .i64 (wrap64 ((wrap64 (a0+1))-((rd_T33 l1 x16_1).f1)))] 33 (0,0)) (by (with_reducible repeat (first|refine kN ?_ _|refine kD ?_|refine kA ?_ _));refine blk_put (cs:=#[.int .i64 ((rd_T33 l1 x16_1).f0),.int .i64 ((rd_T33 l1 x16_1).f1)]) ?_ 1 _ rfl;(with_reducible repeat (first|refine kN ?_ _|refine kD ?_|refine kA ?_ _));refine blk_put (cs:=#[.int .i64 ((rd_T33 l1 x16_1).f0),.int .i64 0]) ?_ 1 _ rfl;(with_reducible repeat (first|refine kN ?_ _|refine kD ?_|refine kA ?_ _));refine blk_put (cs:=#[.int .i64 0,.int .i64 0]) ?_ 0 _ rfl;(with_reducible repeat (first|refine kN ?_ _|refine kD ?_|refine kA ?_ _));exact BK106.out) k_ hk));(case aO=>exact (by (with_reducible repeat (first|apply rA|apply rN|apply rD));exact rM (rF (p:=⟨gb106,1,none⟩) (rF (p:=⟨gb106,1,none⟩) (rF (p:=⟨gb106,0,none⟩) (rM HO_6.out (fun k_ hk=>(⟨hk,hk.2⟩:_∧k_≠gb106))) (fun _ hk=>hk.2) (.int .i64 ((rd_T33 l1 x16_1).f0))) (fun _ hk=>hk.2) (.int .i64 ((rd_T33 l1 x16_1).f1))) (fun _ hk=>hk.2) (.int .i64 (wrap64 ((wrap64 (a0+1))-((rd_T33 l1 x16_1).f1))))) (fun _ hk=>hk.1.2)));(case aS=>exact (bZ (by repeat (first|(with_reducible first|exact HB.out|apply bA|apply bN|apply bD|refine bS ?_ GE106.out)|exact HB.out))));(case aL=>have:=LMc12.out;omega);intro v108 w23 ho hb hg hat;rw [←Ny107.out] at ho;have n0_:=mA (blk_grown (g:=gb106) (o:=.cells #[.int .i64 ((rd_T33 l1 x16_1).f0),.int .i64 (wrap64 ((wrap64 (a0+1))-((rd_T33 l1 x16_1).f1)))] 33 (0,0)) (by (with_reducible repeat (first|refine kN ?_ _|refine kD ?_|refine kA ?_ _));refine blk_put (cs:=#[.int .i64 ((rd_T33 l1 x16_1).f0),.int .i64 ((rd_T33 l1 x16_1).f1)]) ?_ 1 _ rfl;(with_reducible repeat (first|refine kN ?_ _|refine kD ?_|refine kA ?_ _));refine blk_put (cs:=#[.int .i64 ((rd_T33 l1 x16_1).f0),.int .i64 0]) ?_ 1 _ rfl;(with_reducible repeat (first|refine kN ?_ _|refine kD ?_|refine kA ?_ _));refine blk_put (cs:=#[.int .i64 0,.int .i64 0]) ?_ 0 _ rfl;(with_reducible repeat (first|refine kN ?_ _|refine kD ?_|refine kA ?_ _));exact BK106.out) hg (Kd.R_away HO_6.out (fun _ hk=>hk.2)));have n1_:=mA (hb);have n2_:=mA (ho);clear BK106 HB HO_6;have BK106:=n0_;have HB:=n1_;have HO109:=n2_;clear n0_ n1_ n2_ ho hb hg hat;have hcz24_0:w23.cell? ⟨gb106,0,none⟩=some (.int .i64 ((rd_T33 l1 x16_1).f0)):=(kC BK106.out 0).trans rfl;have hcz24_1:w23.cell? ⟨gb106,1,none⟩=some (.int .i64 (wrap64 ((wrap64 (a0+1))-((rd_T33 l1 x16_1).f1)))):=(kC BK106.out 1).trans rfl;have hfz24_0:=kF BK106.out 0;have hfz24_1:=kF BK106.out 1)|((with_reducible refine gate_builtin (b:=.append) (xs:=#[.tmp 41,.tmp 43]) rfl ?_);at_builtin;refine Kd.R_append k33 (w0:=w) w.heap.size rfl (.tmp 41) (.tmp 43) 34 33 (.agg #[(.int .i64 0),(.int .i64 0)]) 16 rfl Try.underlying34 info33 rfl (by decide) (by omega) v108 y107 (⟨2,0⟩:S33) [.int .i64 2,.int .i64 0] (fun k_=>k_≠gb106) (fun _=>False) rfl rfl ?aP (fun _ hk=>hk.elim) ?aF ?aO ?aB ?aS ?aL ?_;(case aP=>exact k33_mkM _ _ _ (⟨2,0⟩:S33));(case aB=>exact (by repeat (first|(with_reducible first|exact HB.out|apply bA|apply bN|apply bD|refine bS ?_ GE106.out)|exact HB.out)));(case aF=>exact (fun k_ hk=>Kd.freshB (g:=gb106) (o:=.cells #[.int .i64 ((rd_T33 l1 x16_1).f0),.int .i64 (wrap64 ((wrap64 (a0+1))-((rd_T33 l1 x16_1).f1)))] 33 (0,0)) (by (with_reducible repeat (first|refine kN ?_ _|refine kD ?_|refine kA ?_ _));exact BK106.out) k_ hk));(case aO=>exact (by (with_reducible repeat (first|apply rA|apply rN|apply rD));exact HO109.out));(case aS=>exact (bZ (by repeat (first|(with_reducible first|exact HB.out|apply bA|apply bN|apply bD|refine bS ?_ GE106.out)|exact HB.out))));(case aL=>have:=LMc20.out;omega);intro v114 w25 ho hb hg hat;rw [←Ny113.out] at ho;have n0_:=mA (blk_grown (g:=gb106) (o:=.cells #[.int .i64 ((rd_T33 l1 x16_1).f0),.int .i64 (wrap64 ((wrap64 (a0+1))-((rd_T33 l1 x16_1).f1)))] 33 (0,0)) (by (with_reducible repeat (first|refine kN ?_ _|refine kD ?_|refine kA ?_ _));exact BK106.out) hg (Kd.R_away HO109.out (fun _ hk=>hk)));have n1_:=mA (hb);have n2_:=mA (ho);clear BK106 HB HO109;have BK106:=n0_;have HB:=n1_;have HO115:=n2_;clear n0_ n1_ n2_ ho hb hg hat))
           go_roundg k1
           case measure=>have:=HK1.out;omega
           case rel=>exact ⟨(y113),(wrap64 (x16_1+1)),(by first|rfl|(simp;done)|(simp [*];done)),H',⟨by have:=HK1.out;omega⟩,⟨by (with_reducible repeat (first|apply rA|apply rN|apply rD));exact rM HO115.out (fun _ hk=>trivial)⟩,⟨by repeat (first|(with_reducible first|exact HB.out|apply bA|apply bN|apply bD|refine bS ?_ GE106.out)|exact HB.out)⟩⟩
          ·rw [if_neg c20] at H
           exact absurd H (by simp)
        ·rw [if_neg c12] at H
         exact absurd H (by simp)
       ·rw [if_neg c11] at H
        have c11b0:(((rd_T33 l1 x16_1).f0)==1)=false:=beq_eq_false_iff_ne.mpr c11
        have c11b1:(((rd_T33 l1 x16_1).f0) != 1)=true:=bne_iff_ne.mpr c11
        by_cases c26:x6_1.length<8796093022208
        ·rw [if_pos c26] at H
         have LMc26:=mA c26
         clear c26
         obtain ⟨y116,hy116⟩ : ∃ y_:List (S33),y_=(x6_1++[(⟨(rd_T33 l1 x16_1).f0,(rd_T33 l1 x16_1).f1⟩:S33)]):=⟨_,rfl⟩
         replace H:(if ((rd_T33 l1 x16_1).f0)=0 then (if y116.length<8796093022208 then (impl_MirrorTerm.l0 k1 a0 (y116++[(⟨2,0⟩:S33)]) l1 (l1.length:Int) (wrap64 (x16_1+1))) else (none)) else (impl_MirrorTerm.l0 k1 a0 y116 l1 (l1.length:Int) (wrap64 (x16_1+1))))=some (r1,r2):=by first|(rw [hy116];with_reducible exact H)|(have H2_:=(Option.bind_some _ _).symm.trans H;rw [hy116];with_reducible exact H2_)|(have H2_:=(Option.bind_some _ _).symm.trans H;with_reducible exact H2_)|with_reducible exact H|(rw [hy116];exact H)|exact H
         have Ny116:=mA hy116
         clear hy116
         by_cases c27:((rd_T33 l1 x16_1).f0)=0
         ·rw [if_pos c27] at H
          have c27b0:(((rd_T33 l1 x16_1).f0)==0)=true:=beq_iff_eq.mpr c27
          have c27b1:(((rd_T33 l1 x16_1).f0) != 0)=false:=bne_eq_false_iff_eq.mpr c27
          clear c27
          by_cases c28:y116.length<8796093022208
          ·rw [if_pos c28] at H
           have LMc28:=mA c28
           clear c28
           obtain ⟨y119,hy119⟩ : ∃ y_:List (S33),y_=(y116++[(⟨2,0⟩:S33)]):=⟨_,rfl⟩
           replace H:(impl_MirrorTerm.l0 k1 a0 y119 l1 (l1.length:Int) (wrap64 (x16_1+1)))=some (r1,r2):=by first|(rw [hy119];with_reducible exact H)|(have H2_:=(Option.bind_some _ _).symm.trans H;rw [hy119];with_reducible exact H2_)|(have H2_:=(Option.bind_some _ _).symm.trans H;with_reducible exact H2_)|with_reducible exact H|(rw [hy119];exact H)|exact H
           have Ny119:=mA hy119
           clear hy119
           have H':=mA H
           clear H
           have p105:0≤(x16_1:Int):=of_decide_eq_true (by first|(with_reducible assumption)|assumption)
           have q105:x16_1<(l1.length:Int):=of_decide_eq_true (by first|(with_reducible assumption)|assumption)
           obtain ⟨ad105,e105,hx105_0,hx105_1⟩:=at_T33 HR1.out x16_1 p105 q105
           cases e105
           replace hx105_0:=(HB.out.cell (World.block_lt_of_cell? w _ hx105_0)).trans hx105_0
           replace hx105_1:=(HB.out.cell (World.block_lt_of_cell? w _ hx105_1)).trans hx105_1
           replace p105:=eq_true p105
           replace q105:=eq_true q105
           go_wp2_with (first|((with_reducible refine gate_dst (N:=8) rfl ?_);refine box_event ?hg (N:=8) ?hd (cs:=#[.int .i64 0,.int .i64 0]) (t:=33) ?hr ?_;(case hd=>rfl);(case hg=>rfl);(case hr=>first|(go_simp;done)|(go_simp;rfl));intro gb106 hg w29 hbox hb;have n0_:=mA (rB (Kd.R_elderB (by (with_reducible repeat (first|apply rA|apply rN|apply rD));exact HO_6.out) gb106 (Nat.le_of_eq hg.symm)) hb);have n1_:=mA (bT (by repeat (first|(with_reducible first|exact HB.out|apply bA|apply bN|apply bD)|exact HB.out)) hb);have n2_:=mA (hbox);have n3_:=mA ((by rw [hg];exact (bZ (by repeat (first|(with_reducible first|exact HB.out|apply bA|apply bN|apply bD)|exact HB.out))):w.heap.size≤gb106));have n4_:=mA ((by rw [hg];exact (bZ (by repeat (first|(with_reducible first|exact HB.out|apply bA|apply bN|apply bD)|exact HB.out))):w.heap.size≤gb106));clear HO_6 HB;have HO_6:=n0_;have HB:=n1_;have BK106:=n2_;have GW106:=n3_;have GE106:=n4_;clear n0_ n1_ n2_ n3_ n4_ hb hbox hg;have hcz30_0:w29.cell? ⟨gb106,0,none⟩=some (.int .i64 0):=(kC BK106.out 0).trans rfl;have hcz30_1:w29.cell? ⟨gb106,1,none⟩=some (.int .i64 0):=(kC BK106.out 1).trans rfl;have hfz30_0:=kF BK106.out 0;have hfz30_1:=kF BK106.out 1;have hq106_0 : ∀ A B C:Value,(((w29.setCell ⟨gb106,0,none⟩ A).setCell ⟨gb106,1,none⟩ B).setCell ⟨gb106,1,none⟩ C).cell? ⟨gb106,0,none⟩=some A:=fun A B C=>(kC (blk_put (cs':=#[A,C]) (blk_put (cs':=#[A,B]) (blk_put (cs':=#[A,.int .i64 0]) BK106.out 0 A rfl) 1 B rfl) 1 C rfl) 0).trans rfl;have hq106_1 : ∀ A B C:Value,(((w29.setCell ⟨gb106,0,none⟩ A).setCell ⟨gb106,1,none⟩ B).setCell ⟨gb106,1,none⟩ C).cell? ⟨gb106,1,none⟩=some C:=fun A B C=>(kC (blk_put (cs':=#[A,C]) (blk_put (cs':=#[A,B]) (blk_put (cs':=#[A,.int .i64 0]) BK106.out 0 A rfl) 1 B rfl) 1 C rfl) 1).trans rfl)|((with_reducible refine gate_builtin (b:=.append) (xs:=#[.tmp 29,.tmp 31]) rfl ?_);at_builtin;refine Kd.R_append k33 (w0:=w) w.heap.size rfl (.tmp 29) (.tmp 31) 34 33 (.agg #[(.int .i64 0),(.int .i64 0)]) 16 rfl Try.underlying34 info33 rfl (by decide) (by omega) u6 x6_1 (⟨(rd_T33 l1 x16_1).f0,(rd_T33 l1 x16_1).f1⟩:S33) [.int .i64 ((rd_T33 l1 x16_1).f0),.int .i64 ((rd_T33 l1 x16_1).f1)] (fun k_=>k_≠gb106) (fun _=>False) rfl (by first|(go_simp;done)|(go_simp;rfl)) ?aP (fun _ hk=>hk.elim) ?aF ?aO ?aB ?aS ?aL ?_;(case aP=>exact k33_mkM _ _ _ (⟨(rd_T33 l1 x16_1).f0,(rd_T33 l1 x16_1).f1⟩:S33));(case aB=>exact (by repeat (first|(with_reducible first|exact HB.out|apply bA|apply bN|apply bD|refine bS ?_ GE106.out)|exact HB.out)));(case aF=>exact (fun k_ hk=>Kd.freshB (g:=gb106) (o:=.cells #[.int .i64 ((rd_T33 l1 x16_1).f0),.int .i64 ((rd_T33 l1 x16_1).f1)] 33 (0,0)) (by (with_reducible repeat (first|refine kN ?_ _|refine kD ?_|refine kA ?_ _));refine blk_put (cs:=#[.int .i64 ((rd_T33 l1 x16_1).f0),.int .i64 0]) ?_ 1 _ rfl;(with_reducible repeat (first|refine kN ?_ _|refine kD ?_|refine kA ?_ _));refine blk_put (cs:=#[.int .i64 0,.int .i64 0]) ?_ 0 _ rfl;(with_reducible repeat (first|refine kN ?_ _|refine kD ?_|refine kA ?_ _));exact BK106.out) k_ hk));(case aO=>exact (by (with_reducible repeat (first|apply rA|apply rN|apply rD));exact rM (rF (p:=⟨gb106,1,none⟩) (rF (p:=⟨gb106,0,none⟩) (rM HO_6.out (fun k_ hk=>(⟨hk,hk.2⟩:_∧k_≠gb106))) (fun _ hk=>hk.2) (.int .i64 ((rd_T33 l1 x16_1).f0))) (fun _ hk=>hk.2) (.int .i64 ((rd_T33 l1 x16_1).f1))) (fun _ hk=>hk.1.2)));(case aS=>exact (bZ (by repeat (first|(with_reducible first|exact HB.out|apply bA|apply bN|apply bD|refine bS ?_ GE106.out)|exact HB.out))));(case aL=>have:=LMc26.out;omega);intro v117 w31 ho hb hg hat;rw [←Ny116.out] at ho;have n0_:=mA (blk_grown (g:=gb106) (o:=.cells #[.int .i64 ((rd_T33 l1 x16_1).f0),.int .i64 ((rd_T33 l1 x16_1).f1)] 33 (0,0)) (by (with_reducible repeat (first|refine kN ?_ _|refine kD ?_|refine kA ?_ _));refine blk_put (cs:=#[.int .i64 ((rd_T33 l1 x16_1).f0),.int .i64 0]) ?_ 1 _ rfl;(with_reducible repeat (first|refine kN ?_ _|refine kD ?_|refine kA ?_ _));refine blk_put (cs:=#[.int .i64 0,.int .i64 0]) ?_ 0 _ rfl;(with_reducible repeat (first|refine kN ?_ _|refine kD ?_|refine kA ?_ _));exact BK106.out) hg (Kd.R_away HO_6.out (fun _ hk=>hk.2)));have n1_:=mA (hb);have n2_:=mA (ho);clear BK106 HB HO_6;have BK106:=n0_;have HB:=n1_;have HO118:=n2_;clear n0_ n1_ n2_ ho hb hg hat;have hcz32_0:w31.cell? ⟨gb106,0,none⟩=some (.int .i64 ((rd_T33 l1 x16_1).f0)):=(kC BK106.out 0).trans rfl;have hcz32_1:w31.cell? ⟨gb106,1,none⟩=some (.int .i64 ((rd_T33 l1 x16_1).f1)):=(kC BK106.out 1).trans rfl;have hfz32_0:=kF BK106.out 0;have hfz32_1:=kF BK106.out 1)|((with_reducible refine gate_builtin (b:=.append) (xs:=#[.tmp 41,.tmp 43]) rfl ?_);at_builtin;refine Kd.R_append k33 (w0:=w) w.heap.size rfl (.tmp 41) (.tmp 43) 34 33 (.agg #[(.int .i64 0),(.int .i64 0)]) 16 rfl Try.underlying34 info33 rfl (by decide) (by omega) v117 y116 (⟨2,0⟩:S33) [.int .i64 2,.int .i64 0] (fun k_=>k_≠gb106) (fun _=>False) rfl rfl ?aP (fun _ hk=>hk.elim) ?aF ?aO ?aB ?aS ?aL ?_;(case aP=>exact k33_mkM _ _ _ (⟨2,0⟩:S33));(case aB=>exact (by repeat (first|(with_reducible first|exact HB.out|apply bA|apply bN|apply bD|refine bS ?_ GE106.out)|exact HB.out)));(case aF=>exact (fun k_ hk=>Kd.freshB (g:=gb106) (o:=.cells #[.int .i64 ((rd_T33 l1 x16_1).f0),.int .i64 ((rd_T33 l1 x16_1).f1)] 33 (0,0)) (by (with_reducible repeat (first|refine kN ?_ _|refine kD ?_|refine kA ?_ _));exact BK106.out) k_ hk));(case aO=>exact (by (with_reducible repeat (first|apply rA|apply rN|apply rD));exact HO118.out));(case aS=>exact (bZ (by repeat (first|(with_reducible first|exact HB.out|apply bA|apply bN|apply bD|refine bS ?_ GE106.out)|exact HB.out))));(case aL=>have:=LMc28.out;omega);intro v120 w33 ho hb hg hat;rw [←Ny119.out] at ho;have n0_:=mA (blk_grown (g:=gb106) (o:=.cells #[.int .i64 ((rd_T33 l1 x16_1).f0),.int .i64 ((rd_T33 l1 x16_1).f1)] 33 (0,0)) (by (with_reducible repeat (first|refine kN ?_ _|refine kD ?_|refine kA ?_ _));exact BK106.out) hg (Kd.R_away HO118.out (fun _ hk=>hk)));have n1_:=mA (hb);have n2_:=mA (ho);clear BK106 HB HO118;have BK106:=n0_;have HB:=n1_;have HO121:=n2_;clear n0_ n1_ n2_ ho hb hg hat))
           go_roundg k1
           case measure=>have:=HK1.out;omega
           case rel=>exact ⟨(y119),(wrap64 (x16_1+1)),(by first|rfl|(simp;done)|(simp [*];done)),H',⟨by have:=HK1.out;omega⟩,⟨by (with_reducible repeat (first|apply rA|apply rN|apply rD));exact rM HO121.out (fun _ hk=>trivial)⟩,⟨by repeat (first|(with_reducible first|exact HB.out|apply bA|apply bN|apply bD|refine bS ?_ GE106.out)|exact HB.out)⟩⟩
          ·rw [if_neg c28] at H
           exact absurd H (by simp)
         ·rw [if_neg c27] at H
          have c27b0:(((rd_T33 l1 x16_1).f0)==0)=false:=beq_eq_false_iff_ne.mpr c27
          have c27b1:(((rd_T33 l1 x16_1).f0) != 0)=true:=bne_iff_ne.mpr c27
          have H':=mA H
          clear H
          have p105:0≤(x16_1:Int):=of_decide_eq_true (by first|(with_reducible assumption)|assumption)
          have q105:x16_1<(l1.length:Int):=of_decide_eq_true (by first|(with_reducible assumption)|assumption)
          obtain ⟨ad105,e105,hx105_0,hx105_1⟩:=at_T33 HR1.out x16_1 p105 q105
          cases e105
          replace hx105_0:=(HB.out.cell (World.block_lt_of_cell? w _ hx105_0)).trans hx105_0
          replace hx105_1:=(HB.out.cell (World.block_lt_of_cell? w _ hx105_1)).trans hx105_1
          replace p105:=eq_true p105
          replace q105:=eq_true q105
          go_wp2_with (first|((with_reducible refine gate_dst (N:=8) rfl ?_);refine box_event ?hg (N:=8) ?hd (cs:=#[.int .i64 0,.int .i64 0]) (t:=33) ?hr ?_;(case hd=>rfl);(case hg=>rfl);(case hr=>first|(go_simp;done)|(go_simp;rfl));intro gb106 hg w34 hbox hb;have n0_:=mA (rB (Kd.R_elderB (by (with_reducible repeat (first|apply rA|apply rN|apply rD));exact HO_6.out) gb106 (Nat.le_of_eq hg.symm)) hb);have n1_:=mA (bT (by repeat (first|(with_reducible first|exact HB.out|apply bA|apply bN|apply bD)|exact HB.out)) hb);have n2_:=mA (hbox);have n3_:=mA ((by rw [hg];exact (bZ (by repeat (first|(with_reducible first|exact HB.out|apply bA|apply bN|apply bD)|exact HB.out))):w.heap.size≤gb106));have n4_:=mA ((by rw [hg];exact (bZ (by repeat (first|(with_reducible first|exact HB.out|apply bA|apply bN|apply bD)|exact HB.out))):w.heap.size≤gb106));clear HO_6 HB;have HO_6:=n0_;have HB:=n1_;have BK106:=n2_;have GW106:=n3_;have GE106:=n4_;clear n0_ n1_ n2_ n3_ n4_ hb hbox hg;have hcz35_0:w34.cell? ⟨gb106,0,none⟩=some (.int .i64 0):=(kC BK106.out 0).trans rfl;have hcz35_1:w34.cell? ⟨gb106,1,none⟩=some (.int .i64 0):=(kC BK106.out 1).trans rfl;have hfz35_0:=kF BK106.out 0;have hfz35_1:=kF BK106.out 1;have hq106_0 : ∀ A B C:Value,(((w34.setCell ⟨gb106,0,none⟩ A).setCell ⟨gb106,1,none⟩ B).setCell ⟨gb106,1,none⟩ C).cell? ⟨gb106,0,none⟩=some A:=fun A B C=>(kC (blk_put (cs':=#[A,C]) (blk_put (cs':=#[A,B]) (blk_put (cs':=#[A,.int .i64 0]) BK106.out 0 A rfl) 1 B rfl) 1 C rfl) 0).trans rfl;have hq106_1 : ∀ A B C:Value,(((w34.setCell ⟨gb106,0,none⟩ A).setCell ⟨gb106,1,none⟩ B).setCell ⟨gb106,1,none⟩ C).cell? ⟨gb106,1,none⟩=some C:=fun A B C=>(kC (blk_put (cs':=#[A,C]) (blk_put (cs':=#[A,B]) (blk_put (cs':=#[A,.int .i64 0]) BK106.out 0 A rfl) 1 B rfl) 1 C rfl) 1).trans rfl)|((with_reducible refine gate_builtin (b:=.append) (xs:=#[.tmp 29,.tmp 31]) rfl ?_);at_builtin;refine Kd.R_append k33 (w0:=w) w.heap.size rfl (.tmp 29) (.tmp 31) 34 33 (.agg #[(.int .i64 0),(.int .i64 0)]) 16 rfl Try.underlying34 info33 rfl (by decide) (by omega) u6 x6_1 (⟨(rd_T33 l1 x16_1).f0,(rd_T33 l1 x16_1).f1⟩:S33) [.int .i64 ((rd_T33 l1 x16_1).f0),.int .i64 ((rd_T33 l1 x16_1).f1)] (fun k_=>k_≠gb106) (fun _=>False) rfl (by first|(go_simp;done)|(go_simp;rfl)) ?aP (fun _ hk=>hk.elim) ?aF ?aO ?aB ?aS ?aL ?_;(case aP=>exact k33_mkM _ _ _ (⟨(rd_T33 l1 x16_1).f0,(rd_T33 l1 x16_1).f1⟩:S33));(case aB=>exact (by repeat (first|(with_reducible first|exact HB.out|apply bA|apply bN|apply bD|refine bS ?_ GE106.out)|exact HB.out)));(case aF=>exact (fun k_ hk=>Kd.freshB (g:=gb106) (o:=.cells #[.int .i64 ((rd_T33 l1 x16_1).f0),.int .i64 ((rd_T33 l1 x16_1).f1)] 33 (0,0)) (by (with_reducible repeat (first|refine kN ?_ _|refine kD ?_|refine kA ?_ _));refine blk_put (cs:=#[.int .i64 ((rd_T33 l1 x16_1).f0),.int .i64 0]) ?_ 1 _ rfl;(with_reducible repeat (first|refine kN ?_ _|refine kD ?_|refine kA ?_ _));refine blk_put (cs:=#[.int .i64 0,.int .i64 0]) ?_ 0 _ rfl;(with_reducible repeat (first|refine kN ?_ _|refine kD ?_|refine kA ?_ _));exact BK106.out) k_ hk));(case aO=>exact (by (with_reducible repeat (first|apply rA|apply rN|apply rD));exact rM (rF (p:=⟨gb106,1,none⟩) (rF (p:=⟨gb106,0,none⟩) (rM HO_6.out (fun k_ hk=>(⟨hk,hk.2⟩:_∧k_≠gb106))) (fun _ hk=>hk.2) (.int .i64 ((rd_T33 l1 x16_1).f0))) (fun _ hk=>hk.2) (.int .i64 ((rd_T33 l1 x16_1).f1))) (fun _ hk=>hk.1.2)));(case aS=>exact (bZ (by repeat (first|(with_reducible first|exact HB.out|apply bA|apply bN|apply bD|refine bS ?_ GE106.out)|exact HB.out))));(case aL=>have:=LMc26.out;omega);intro v117 w36 ho hb hg hat;rw [←Ny116.out] at ho;have n0_:=mA (blk_grown (g:=gb106) (o:=.cells #[.int .i64 ((rd_T33 l1 x16_1).f0),.int .i64 ((rd_T33 l1 x16_1).f1)] 33 (0,0)) (by (with_reducible repeat (first|refine kN ?_ _|refine kD ?_|refine kA ?_ _));refine blk_put (cs:=#[.int .i64 ((rd_T33 l1 x16_1).f0),.int .i64 0]) ?_ 1 _ rfl;(with_reducible repeat (first|refine kN ?_ _|refine kD ?_|refine kA ?_ _));refine blk_put (cs:=#[.int .i64 0,.int .i64 0]) ?_ 0 _ rfl;(with_reducible repeat (first|refine kN ?_ _|refine kD ?_|refine kA ?_ _));exact BK106.out) hg (Kd.R_away HO_6.out (fun _ hk=>hk.2)));have n1_:=mA (hb);have n2_:=mA (ho);clear BK106 HB HO_6;have BK106:=n0_;have HB:=n1_;have HO118:=n2_;clear n0_ n1_ n2_ ho hb hg hat;have hcz37_0:w36.cell? ⟨gb106,0,none⟩=some (.int .i64 ((rd_T33 l1 x16_1).f0)):=(kC BK106.out 0).trans rfl;have hcz37_1:w36.cell? ⟨gb106,1,none⟩=some (.int .i64 ((rd_T33 l1 x16_1).f1)):=(kC BK106.out 1).trans rfl;have hfz37_0:=kF BK106.out 0;have hfz37_1:=kF BK106.out 1))
          go_roundg k1
          case measure=>have:=HK1.out;omega
          case rel=>exact ⟨(y116),(wrap64 (x16_1+1)),(by first|rfl|(simp;done)|(simp [*];done)),H',⟨by have:=HK1.out;omega⟩,⟨by (with_reducible repeat (first|apply rA|apply rN|apply rD));exact rM HO118.out (fun _ hk=>trivial)⟩,⟨by repeat (first|(with_reducible first|exact HB.out|apply bA|apply bN|apply bD|refine bS ?_ GE106.out)|exact HB.out)⟩⟩
        ·rw [if_neg c26] at H
         exact absurd H (by simp)
      ·rw [if_neg c10] at H
       exact absurd H (by simp)
     ·rw [if_neg c9] at H
      exact absurd H (by simp)
    ·rw [if_neg c8] at H
     have c8b0:decide (x16_1<(l1.length:Int))=false:=decide_eq_false c8
     clear c8
     by_cases c38:(x6_1.length:Int)>15
     ·rw [if_pos c38] at H
      have c38b0:decide (15<(x6_1.length:Int))=true:=decide_eq_true c38
      have c38b1:decide (15<x6_1.length)=true:=decide_eq_true (by omega)
      clear c38
      simp only [Option.some.injEq,Prod.mk.injEq] at H
      obtain ⟨rfl,rfl⟩:=H
      obtain ⟨Ao39,co39,eo39⟩:=Kd.R_slice HO_6.out
      subst eo39
      go_wp2
      go_ret2
      exact ⟨_,by first|rfl|(simp [errW_none,errW_some]<;>rfl)|(simp [*, errW_none,errW_some]<;>rfl),by first|exact Kd.R_nil _ _ _ _ _|exact Kd.N_nil _ _ _ _ _|exact Kd.V_nil _ _ _ _ _|exact Kd.Q_nil _ _ _ _ _|exact Kd.S_nil _ _ _ _ _,by repeat (first|(with_reducible first|exact HB.out|apply bA|apply bN|apply bD)|exact HB.out)⟩
     ·rw [if_neg c38] at H
      have c38b0:decide (15<(x6_1.length:Int))=false:=decide_eq_false c38
      have c38b1:decide (15<x6_1.length)=false:=decide_eq_false (by omega)
      clear c38
      simp only [Option.some.injEq,Prod.mk.injEq] at H
      obtain ⟨rfl,rfl⟩:=H
      obtain ⟨Ao40,co40,eo40⟩:=Kd.R_slice HO_6.out
      subst eo40
      go_wp2
      go_ret2
      exact ⟨_,by first|rfl|(simp [errW_none,errW_some]<;>rfl)|(simp [*, errW_none,errW_some]<;>rfl),by (with_reducible repeat (first|apply rA|apply rN|apply rD));exact HO_6.out,by repeat (first|(with_reducible first|exact HB.out|apply bA|apply bN|apply bD)|exact HB.out)⟩
 ·replace c4:=Bool.eq_false_iff.mpr c4
  subst c4
  have H1:(some (([]:List (S33)),false))=some (r1,r2):=by rw [if_neg (show ¬ (false=true) by decide)] at H;exact H
  clear H
  have H:=H1
  clear H1
  simp only [Option.some.injEq,Prod.mk.injEq] at H
  obtain ⟨rfl,rfl⟩:=H
  go_enter Try.func40,Try.ntmps40
  go_wp2_with (first|((with_reducible refine gate_callee (f:=111) rfl ?_);refine goesL_ (some 11) rfl rfl Try.func111 (by kernel_rfl) rfl #[.int .i64 a0,.slice A1 l1.length c1] rfl (by (try simp only [mT,mC,mN]);first|done|rfl|(simp only [lD,lT];rfl)) ?_;(with_reducible refine (impl_TermOk.calls k a0 _ _ l1 false _ ?side1 ?side2 A3.out).mono ?_);(case side1=>repeat (first|exact HR1.out|(with_reducible refine cA ?_ _)|(with_reducible refine cN ?_ _)|(with_reducible refine cD ?_)));(case side2=>exact HC1.out);rintro e w41 ⟨rfl,hb⟩;refine ⟨_,rfl,?_⟩;have n0_:=mA (bT (by repeat (first|(with_reducible first|exact HB.out|apply bA|apply bN|apply bD)|exact HB.out)) hb);clear HB;have HB:=n0_;clear n0_;(try clear hb);(try clear hb2);(try clear hk);(try clear hi)))
  go_ret2
  exact ⟨_,by first|rfl|(simp [errW_none,errW_some]<;>rfl)|(simp [*, errW_none,errW_some]<;>rfl),by first|exact Kd.R_nil _ _ _ _ _|exact Kd.N_nil _ _ _ _ _|exact Kd.V_nil _ _ _ _ _|exact Kd.Q_nil _ _ _ _ _|exact Kd.S_nil _ _ _ _ _,by repeat (first|(with_reducible first|exact HB.out|apply bA|apply bN|apply bD)|exact HB.out)⟩
/-! ### impl_OppositeWorld: function 41 -/
def impl_OppositeWorld.f (a0:Int) (a1:Int):Option (Int):=(impl_WorldOk.f a0 a1).bind fun t101=>(if t101=true then (if 0≤a0 then (some (wrap64 ((wrap64 ((shl .i64 1 a0)-1))-a1))) else (none)) else (some (-1)))
set_option maxHeartbeats 8000000 in
set_option maxRecDepth 100000 in
theorem impl_OppositeWorld.calls (a0:Int) (a1:Int) (r:Int) (w:World) (h:impl_OppositeWorld.f a0 a1=some r) :
  Calls Try.prog 41 #[.int .i64 a0,.int .i64 a1] w fun e w'=>e = .returned (.int .i64 r)∧Drawn0 w w':=by
 have H:((impl_WorldOk.f a0 a1).bind fun t101=>(if t101=true then (if 0≤a0 then (some (wrap64 ((wrap64 ((shl .i64 1 a0)-1))-a1))) else (none)) else (some (-1))))=some r:=h
 clear h
 replace H:=Option.bind_eq_some_iff.mp H
 obtain ⟨t101,A30,H⟩:=H
 replace H:(if t101=true then (if 0≤a0 then (some (wrap64 ((wrap64 ((shl .i64 1 a0)-1))-a1))) else (none)) else (some (-1)))=some r:=H
 have A3:=mA A30
 clear A30
 by_cases c4:t101=true
 ·subst c4
  have H1:(if 0≤a0 then (some (wrap64 ((wrap64 ((shl .i64 1 a0)-1))-a1))) else (none))=some r:=by rw [if_pos rfl] at H;exact H
  clear H
  have H:=H1
  clear H1
  by_cases c5:0≤a0
  ·rw [if_pos c5] at H
   have c5b0:=eq_true c5
   have c5b1:decide (0≤a0)=true:=decide_eq_true c5
   clear c5
   obtain ⟨ji6,hji6⟩ : ∃ j_:Int,(shl .i64 1 a0)=j_:=⟨_,rfl⟩
   replace H:(some (wrap64 ((wrap64 ((ji6)-1))-a1)))=some r:=by first|(rw [hji6] at H;exact H)|(simp only [hji6] at H ⊢;exact H)
   (try rw [hji6] at A3)
   have hji6_:(IntKind.i64.wrap (1*2^min a0.toNat 64))=ji6:=hji6
   have hji6z:a0≤64→(IntKind.i64.wrap (1*2^a0.toNat))=ji6:=shl_small hji6
   have hji6u:(IntKind.i64.wrap (2^min a0.toNat 64))=ji6:=by have h_:=hji6_;rw [Int.one_mul] at h_;exact h_
   have hji6v:a0≤64→(IntKind.i64.wrap (2^a0.toNat))=ji6:=fun hle_=>by have h_:=hji6z hle_;rw [Int.one_mul] at h_;exact h_
   have hji6y:(wrap64 (1*2^min a0.toNat 64))=ji6:=(i64_w _).symm.trans hji6_
   have hji6x:a0≤64→(wrap64 (1*2^a0.toNat))=ji6:=fun h_=>(i64_w _).symm.trans (hji6z h_)
   obtain rfl:=Option.some.inj H
   go_enter Try.func41,Try.ntmps41
   go_wp2_with (first|((with_reducible refine gate_callee (f:=99) rfl ?_);refine goesL_ (some 7) rfl rfl Try.func99 (by kernel_rfl) rfl #[.int .i64 a0,.int .i64 a1] rfl (by (try simp only [mT,mC,mN]);first|done|rfl|(simp only [lD,lT];rfl)) ?_;(with_reducible refine (impl_WorldOk.calls a0 a1 true _ A3.out).mono ?_);rintro e w' ⟨rfl,⟨nd,rfl⟩⟩;refine ⟨_,rfl,?_⟩))
   go_ret
   exact ⟨by first|rfl|(simp;done)|(simp only [←hji6]<;>(first|rfl|simp))|(simp [*];done),by repeat (first|exact Drawn0.refl _|apply Drawn0.step)⟩
  ·rw [if_neg c5] at H
   exact absurd H (by simp)
 ·replace c4:=Bool.eq_false_iff.mpr c4
  subst c4
  have H1:(some (-1))=some r:=by rw [if_neg (show ¬ (false=true) by decide)] at H;exact H
  clear H
  have H:=H1
  clear H1
  obtain rfl:=Option.some.inj H
  go_enter Try.func41,Try.ntmps41
  go_wp2_with (first|((with_reducible refine gate_callee (f:=99) rfl ?_);refine goesL_ (some 7) rfl rfl Try.func99 (by kernel_rfl) rfl #[.int .i64 a0,.int .i64 a1] rfl (by (try simp only [mT,mC,mN]);first|done|rfl|(simp only [lD,lT];rfl)) ?_;(with_reducible refine (impl_WorldOk.calls a0 a1 false _ A3.out).mono ?_);rintro e w' ⟨rfl,⟨nd,rfl⟩⟩;refine ⟨_,rfl,?_⟩))
  go_ret
  exact ⟨by first|rfl|(simp;done)|(simp [*];done),by repeat (first|exact Drawn0.refl _|apply Drawn0.step)⟩
end Go.Proofs.Ytpampekijfjlkab.X
