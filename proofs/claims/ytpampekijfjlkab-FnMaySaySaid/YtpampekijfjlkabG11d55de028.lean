/- Joined by a program of this session's: X64. -/
import Derived.Test.YtpampekijfjlkabG44e43c9cff
import Derived.Test.YtpampekijfjlkabG5ff050bb90
import Derived.Test.YtpampekijfjlkabGf66b3cdfb9
import Derived.Test.YtpampekijfjlkabG1cea3182f4

namespace Go.Proofs.Ytpampekijfjlkab.X
open Go.RowKit Go.Proofs.YtpampekijfjlkabW.PrintWords Go.Proofs.YtpampekijfjlkabW.PrintLast Go.Proofs.YtpampekijfjlkabW.PrintMore
open Go.Proofs.YtpampekijfjlkabW.PrintWords renaming Aside0.mk → mA, pw_below_drewN → bN, below_drew1 → bD, below_alloc → bA, below_set → bS, blk_alloc → kA, blk_drewN → kN, blk_drew → kD, blk_cell → kC, blk_frozen → kF, below_size → bZ, below_step → bT, Kd.R_alloc → rA, Kd.R_drewN → rN, Kd.R_drew → rD, Kd.R_mono → rM, Kd.R_reads' → rR, Kd.R_far → rF, Kd.R_lt → rL, Kd.R_below → rB, Kd.C_alloc → cA, Kd.C_drewN → cN, Kd.C_drew → cD
open List renaming setIfInBounds_toArray → sA, set_cons_zero → sZ, set_cons_succ → sS, length_take → lT, length_drop → lD, map_toArray → mT, map_cons → mC, map_nil → mN
open Bool renaming true → I, false → O
attribute [local go_sem] max2_int min2_int max_two min_two max_three min_three max_four min_four   -- for this text's walks alone
set_option linter.unusedVariables false
set_option linter.unusedSimpArgs false
/-! ### laws_FnMaySay: function 5 -/
def laws_FnMaySay.j0:Nat→Int→Int→Bool→Bool→Int→List (S33)→Option (Bool)
 | 0,_,_,_,_,_,_=>none
 | k+1,x3,x5,x6,x40,x108000,x108001=>if x40=true then (if x6=true then (some false) else ((laws_alive.f).bind fun t112=>(some t112))) else ((impl_DenyClaim.f k x3 x108000 x108001).bind fun bt113=>((impl_MirrorTerm.f k x3 x108001).bind fun bt119=>(if bt113.2.2=true then ((impl_MaySay.f k x3 bt113.1 bt113.2.1 x5).bind fun t124=>(if (t124 != x6)=true then (if bt119.2=true then ((spec_ClaimOk.f k x3 x108000 bt119.1).bind fun t125=>(if t125=true then ((impl_OppositeWorld.f x3 x5).bind fun t126=>((impl_MaySay.f k x3 x108000 bt119.1 t126).bind fun t127=>(if (t127 != x6)=true then ((laws_alive.f).bind fun t128=>(some t128)) else (some false)))) else ((laws_alive.f).bind fun t129=>(some t129)))) else ((laws_alive.f).bind fun t130=>(some t130))) else (some false))) else (if bt119.2=true then ((spec_ClaimOk.f k x3 x108000 bt119.1).bind fun t131=>(if t131=true then ((impl_OppositeWorld.f x3 x5).bind fun t132=>((impl_MaySay.f k x3 x108000 bt119.1 t132).bind fun t133=>(if (t133 != x6)=true then ((laws_alive.f).bind fun t134=>(some t134)) else (some false)))) else ((laws_alive.f).bind fun t135=>(some t135)))) else ((laws_alive.f).bind fun t136=>(some t136))))))
def laws_FnMaySay.f (k:Nat) (l0:List Int):Option (Bool):=if (l0.length:Int)>1048576 then (some true) else ((spec_DrawMaySay.f k l0).bind fun bt101=>((impl_MaySay.f k bt101.1 bt101.2.1 bt101.2.2.1 bt101.2.2.2).bind fun t108=>((spec_MaySay.f k bt101.1 bt101.2.1 bt101.2.2.1 bt101.2.2.2).bind fun t109=>(if (t108 != t109)=true then (some false) else ((spec_ClaimOk.f k bt101.1 bt101.2.1 bt101.2.2.1).bind fun t110=>(if t110=true then ((spec_WorldOk.f bt101.1 bt101.2.2.2).bind fun t111=>(laws_FnMaySay.j0 k bt101.1 bt101.2.2.2 t108 (!t111) bt101.2.1 bt101.2.2.1)) else (laws_FnMaySay.j0 k bt101.1 bt101.2.2.2 t108 true bt101.2.1 bt101.2.2.1)))))))
theorem laws_FnMaySay.mono_l : ∀ k,(∀ y0 y1 y2 y3 y4 y5,LeO (laws_FnMaySay.j0 k y0 y1 y2 y3 y4 y5) (laws_FnMaySay.j0 (k+1) y0 y1 y2 y3 y4 y5))
 | 0=>fun _ _ _ _ _ _ r h=>by simp [laws_FnMaySay.j0] at h
 | k+1=>by
  have ih0:=laws_FnMaySay.mono_l k
  ·intro y0 y1 y2 y3 y4 y5
   unfold laws_FnMaySay.j0
   repeat' first
   | (with_reducible exact ih0 _ _ _ _ _ _)
   | (with_reducible exact impl_DenyClaim.mono _ _ _ _)
   | (with_reducible exact impl_MaySay.mono _ _ _ _ _)
   | (with_reducible exact impl_MirrorTerm.mono _ _ _)
   | (with_reducible exact spec_ClaimOk.mono _ _ _ _)
   | (with_reducible exact spec_DrawMaySay.mono _ _)
   | (with_reducible exact spec_MaySay.mono _ _ _ _ _)
   | (with_reducible exact LeO.refl _)
   | (with_reducible exact LeO.none _)
   | (with_reducible refine LeO.ite ?_ ?_)
   | (with_reducible refine LeO.bind ?_ (fun _=>?_))
   | exact ih0 _ _ _ _ _ _
   | exact impl_DenyClaim.mono _ _ _ _
   | exact impl_MaySay.mono _ _ _ _ _
   | exact impl_MirrorTerm.mono _ _ _
   | exact spec_ClaimOk.mono _ _ _ _
   | exact spec_DrawMaySay.mono _ _
   | exact spec_MaySay.mono _ _ _ _ _
   | exact LeO.none _
   | refine LeO.ite ?_ ?_
   | refine LeO.bind ?_ (fun _=>?_)
theorem laws_FnMaySay.mono : ∀ a0 k,LeO (laws_FnMaySay.f k a0) (laws_FnMaySay.f (k+1) a0):=by
 intro a0 k
 have ih0:=laws_FnMaySay.mono_l k
 unfold laws_FnMaySay.f
 repeat' first
   | (with_reducible exact ih0 _ _ _ _ _ _)
   | (with_reducible exact impl_DenyClaim.mono _ _ _ _)
   | (with_reducible exact impl_MaySay.mono _ _ _ _ _)
   | (with_reducible exact impl_MirrorTerm.mono _ _ _)
   | (with_reducible exact spec_ClaimOk.mono _ _ _ _)
   | (with_reducible exact spec_DrawMaySay.mono _ _)
   | (with_reducible exact spec_MaySay.mono _ _ _ _ _)
   | (with_reducible exact LeO.refl _)
   | (with_reducible exact LeO.none _)
   | (with_reducible refine LeO.ite ?_ ?_)
   | (with_reducible refine LeO.bind ?_ (fun _=>?_))
   | exact ih0 _ _ _ _ _ _
   | exact impl_DenyClaim.mono _ _ _ _
   | exact impl_MaySay.mono _ _ _ _ _
   | exact impl_MirrorTerm.mono _ _ _
   | exact spec_ClaimOk.mono _ _ _ _
   | exact spec_DrawMaySay.mono _ _
   | exact spec_MaySay.mono _ _ _ _ _
   | exact LeO.none _
   | refine LeO.ite ?_ ?_
   | refine LeO.bind ?_ (fun _=>?_)
def laws_FnMaySay.T12:Bool×List (List Nat×List Nat):=(true,[([],[]),([0],[0]),([1],[1]),([2],[2]),([2],[2]),([2],[2]),([3,4,5,2,2],[2,3,4,5]),([2],[2]),([6,7,2],[2,6,7]),([2,8],[2,8]),([9,6],[9]),([10],[10]),([11,10],[10,11]),([12,10,10],[10,12]),([13],[13]),([13],[13]),([14,15,13,13],[13,14,15]),([16,13],[13,16]),([13,17,10],[10,13,17]),([18,16,10],[10,18]),([19],[19]),([19],[19]),([19],[19]),([19],[19]),([22,23,19,19],[19,22,23]),([20,21,24,24,19],[19,20,21,24]),([19],[19]),([25,26,19],[19,25,26]),([19,27,10],[10,19,27]),([10,28],[10,28]),([29,25],[29]),([30,30],[30]),([30,31],[30,31]),([32,31,0,1,2,3,4,5,6,7,8,9,10,11,12,13,14,15,16,17,18,19,20,21,22,23,24,25,26,27,28,29,30,31,32],[32])])
def laws_FnMaySay.B12:List Nat:=[0,1,3,7,7,7,63,7,255,511,1023,2047,4095,8191,16383,16383,65535,131071,262143,524287,1048575,1048575,1048575,1048575,13631487,33554431,1048575,134217727,268435455,536870911,1073741823,2147483647,4294967295,8589934591]
theorem laws_FnMaySay.tab12:rtab .any (opsOf Try.f5 12)=laws_FnMaySay.T12:=by kernel_rfl
theorem laws_FnMaySay.bits12:waitsOk laws_FnMaySay.T12.2 laws_FnMaySay.B12=true:=by kernel_rfl
set_option maxHeartbeats 8000000 in
set_option maxRecDepth 100000 in
theorem laws_FnMaySay.calls (k:Nat) (A0:Option Addr) (c0:Nat) (l0:List Int) (r:Bool) (w:World) (hr0:Kd.C (Kd.int .u8) w A0 l0.length l0) (hc0:l0.length≤c0) (hr_:Aside0 (r=true)) (h:laws_FnMaySay.f k l0=some r) :
  Calls Try.prog 5 #[.slice A0 l0.length c0] w fun e w'=>e = .returned (.bool r)∧Below w.heap.size w w':=by
 have hu36:=Try.underlying36
 have HR0:=mA hr0
 have HC0:=mA hc0
 clear hr0 hc0
 have HB:=mA (Below.refl w.heap.size w)
 have H:(if (l0.length:Int)>1048576 then (some true) else ((spec_DrawMaySay.f k l0).bind fun bt101=>((impl_MaySay.f k bt101.1 bt101.2.1 bt101.2.2.1 bt101.2.2.2).bind fun t108=>((spec_MaySay.f k bt101.1 bt101.2.1 bt101.2.2.1 bt101.2.2.2).bind fun t109=>(if (t108 != t109)=true then (some false) else ((spec_ClaimOk.f k bt101.1 bt101.2.1 bt101.2.2.1).bind fun t110=>(if t110=true then ((spec_WorldOk.f bt101.1 bt101.2.2.2).bind fun t111=>(laws_FnMaySay.j0 k bt101.1 bt101.2.2.2 t108 (!t111) bt101.2.1 bt101.2.2.1)) else (laws_FnMaySay.j0 k bt101.1 bt101.2.2.2 t108 true bt101.2.1 bt101.2.2.1))))))))=some r:=h
 clear h
 by_cases c2:(l0.length:Int)>1048576
 ·rw [if_pos c2] at H
  have c2b0:decide (1048576<(l0.length:Int))=true:=decide_eq_true c2
  have c2b1:decide (1048576<l0.length)=true:=decide_eq_true (by omega)
  clear c2
  obtain rfl:=Option.some.inj H
  go_enter Try.func5,Try.ntmps5
  go_wp2
  go_ret
  exact ⟨by first|rfl|(simp [errW_none,errW_some]<;>rfl)|(simp [*, errW_none,errW_some]<;>rfl),by repeat (first|(with_reducible first|exact HB.out|apply bA|apply bN|apply bD)|exact HB.out)⟩
 ·rw [if_neg c2] at H
  have c2b0:decide (1048576<(l0.length:Int))=false:=decide_eq_false c2
  have c2b1:decide (1048576<l0.length)=false:=decide_eq_false (by omega)
  clear c2
  replace H:=Option.bind_eq_some_iff.mp H
  obtain ⟨⟨t101,t102,t103,t106⟩,A30,H⟩:=H
  replace H:((impl_MaySay.f k t101 t102 t103 t106).bind fun t108=>((spec_MaySay.f k t101 t102 t103 t106).bind fun t109=>(if (t108 != t109)=true then (some false) else ((spec_ClaimOk.f k t101 t102 t103).bind fun t110=>(if t110=true then ((spec_WorldOk.f t101 t106).bind fun t111=>(laws_FnMaySay.j0 k t101 t106 t108 (!t111) t102 t103)) else (laws_FnMaySay.j0 k t101 t106 t108 true t102 t103))))))=some r:=H
  have A3:=mA A30
  clear A30
  replace H:=Option.bind_eq_some_iff.mp H
  obtain ⟨t108,A40,H⟩:=H
  replace H:((spec_MaySay.f k t101 t102 t103 t106).bind fun t109=>(if (t108 != t109)=true then (some false) else ((spec_ClaimOk.f k t101 t102 t103).bind fun t110=>(if t110=true then ((spec_WorldOk.f t101 t106).bind fun t111=>(laws_FnMaySay.j0 k t101 t106 t108 (!t111) t102 t103)) else (laws_FnMaySay.j0 k t101 t106 t108 true t102 t103)))))=some r:=H
  have A4:=mA A40
  clear A40
  replace H:=Option.bind_eq_some_iff.mp H
  obtain ⟨t109,A50,H⟩:=H
  replace H:(if (t108 != t109)=true then (some false) else ((spec_ClaimOk.f k t101 t102 t103).bind fun t110=>(if t110=true then ((spec_WorldOk.f t101 t106).bind fun t111=>(laws_FnMaySay.j0 k t101 t106 t108 (!t111) t102 t103)) else (laws_FnMaySay.j0 k t101 t106 t108 true t102 t103))))=some r:=H
  have A5:=mA A50
  clear A50
  by_cases c6:(t108 != t109)=true
  ·rw [if_pos c6] at H
   have c6b0:(t108 != t109)=true:=c6
   (try (have c6b1:decide (t108=t109)=false:=by simpa using c6))
   (try (have c6b2:(t108==t109)=false:=by simpa using c6))
   (try (have c6b3 : ¬ (t108=t109):=by simpa using c6))
   clear c6
   exact absurd ((Option.some.inj H).trans hr_.out) (by decide)
  ·rw [if_neg c6] at H
   have c6b0:(t108 != t109)=false:=by simpa using c6
   (try (have c6b1:decide (t108=t109)=true:=by simpa using c6))
   (try (have c6b2:(t108==t109)=true:=by simpa using c6))
   clear c6
   have HC7:=mA H
   clear H
   go_enter Try.func5,Try.ntmps5
   go_upto_region 7 with (first|((with_reducible refine gate_callee (f:=34) rfl ?_);refine goesL_ (some 17) rfl rfl Try.func34 (by kernel_rfl) rfl #[.slice A0 l0.length c0] rfl (by (try simp only [mT,mC,mN]);first|done|rfl|(simp only [lD,lT];rfl)) ?_;(with_reducible refine (spec_DrawMaySay.calls k _ _ l0 t101 t102 t103 t106 _ ?side1 ?side2 A3.out).mono ?_);(case side1=>repeat (first|exact HR0.out|(with_reducible refine cA ?_ _)|(with_reducible refine cN ?_ _)|(with_reducible refine cD ?_)));(case side2=>exact HC0.out);rintro e w8 ⟨v104,rfl,ho0,hb⟩;refine ⟨_,rfl,?_⟩;have n0_:=mA (Kd.R_lower ho0 (bZ (by repeat (first|(with_reducible first|exact HB.out|apply bA|apply bN|apply bD)|exact HB.out))));have n1_:=mA (bT (by repeat (first|(with_reducible first|exact HB.out|apply bA|apply bN|apply bD)|exact HB.out)) hb);clear HB;have HO105:=n0_;have HB:=n1_;clear n0_ n1_;(try clear hb);(try clear hb2);(try clear hk);(try clear hi);(try clear ho0))|((with_reducible refine gate_dst (N:=4) rfl ?_);refine box_event ?hg (N:=4) ?hd (cs:=#[.int .i64 0,.slice none 0 0]) (t:=36) ?hr ?_;(case hd=>rfl);(case hg=>rfl);(case hr=>first|(go_simp;done)|(go_simp;rfl));intro gb107 hg w9 hbox hb;have n0_:=mA (rB (by (with_reducible repeat (first|apply rA|apply rN|apply rD));exact HO105.out) hb);have n1_:=mA (bT (by repeat (first|(with_reducible first|exact HB.out|apply bA|apply bN|apply bD)|exact HB.out)) hb);have n2_:=mA (hbox);have n3_:=mA ((by rw [hg];exact (bZ (by repeat (first|(with_reducible first|exact HB.out|apply bA|apply bN|apply bD)|exact HB.out))):w.heap.size≤gb107));have n4_:=mA ((by rw [hg];exact (bZ (by repeat (first|(with_reducible first|exact HB.out|apply bA|apply bN|apply bD)|exact HB.out))):w.heap.size≤gb107));clear HO105 HB;have HO105:=n0_;have HB:=n1_;have BK107:=n2_;have GW107:=n3_;have GE107:=n4_;clear n0_ n1_ n2_ n3_ n4_ hb hbox hg;have hcz10_0:w9.cell? ⟨gb107,0,none⟩=some (.int .i64 0):=(kC BK107.out 0).trans rfl;have hcz10_1:w9.cell? ⟨gb107,1,none⟩=some (.slice none 0 0):=(kC BK107.out 1).trans rfl;have hfz10_0:=kF BK107.out 0;have hfz10_1:=kF BK107.out 1;obtain ⟨Ao11,co11,eo11⟩:=Kd.R_slice HO105.out;subst eo11)|((with_reducible refine gate_callee (f:=35) rfl ?_);refine goesL_ (some 24) rfl rfl Try.func35 (by kernel_rfl) rfl #[.int .i64 t101,.agg #[.int .i64 t102,.slice Ao11 t103.length co11],.int .i64 t106] rfl (by (try simp only [mT,mC,mN]);first|done|rfl|(simp only [lD,lT];rfl)) ?_;(with_reducible refine (impl_MaySay.calls k t101 t102 _ _ t103 t106 t108 _ ?side1 ?side2 A4.out).mono ?_);(case side1=>refine (rR (e:=33) (base:=w.heap.size) (ok:=fun k_=>True) (n:=t103.length) (c:=co11) ?_).2.2;exact (by (with_reducible repeat (first|apply rA|apply rN|apply rD));exact (rM (rF (p:=⟨gb107,1,none⟩) (rF (p:=⟨gb107,0,none⟩) (Kd.R_types HO105.out BK107.out (by decide)) (fun _ hk=>hk.2) (.int .i64 t102)) (fun _ hk=>hk.2) (.slice Ao11 t103.length co11)) (fun _ h_=>h_.1))));(case side2=>exact (rR HO105.out).2.1);rintro e w12 ⟨rfl,hb⟩;refine ⟨_,rfl,?_⟩;have n0_:=mA (rB (by (with_reducible repeat (first|apply rA|apply rN|apply rD));exact (rM (rF (p:=⟨gb107,1,none⟩) (rF (p:=⟨gb107,0,none⟩) (Kd.R_types HO105.out BK107.out (by decide)) (fun _ hk=>hk.2) (.int .i64 t102)) (fun _ hk=>hk.2) (.slice Ao11 t103.length co11)) (fun _ h_=>h_.1))) hb);have n1_:=mA (blk_below (g:=gb107) (o:=.cells #[.int .i64 t102,.slice Ao11 t103.length co11] 36 (0,0)) (by (with_reducible repeat (first|refine kN ?_ _|refine kD ?_|refine kA ?_ _));refine blk_put (cs:=#[.int .i64 t102,.slice none 0 0]) ?_ 1 _ rfl;(with_reducible repeat (first|refine kN ?_ _|refine kD ?_|refine kA ?_ _));refine blk_put (cs:=#[.int .i64 0,.slice none 0 0]) ?_ 0 _ rfl;(with_reducible repeat (first|refine kN ?_ _|refine kD ?_|refine kA ?_ _));exact BK107.out) hb);have n2_:=mA (bT (by repeat (first|(with_reducible first|exact HB.out|apply bA|apply bN|apply bD|refine bS ?_ GE107.out)|exact HB.out)) hb);clear HO105 BK107 HB;have HO105:=n0_;have BK107:=n1_;have HB:=n2_;clear n0_ n1_ n2_;(try clear hb);(try clear hb2);(try clear hk);(try clear hi);have hcz13_0:w12.cell? ⟨gb107,0,none⟩=some (.int .i64 t102):=(kC BK107.out 0).trans rfl;have hcz13_1:w12.cell? ⟨gb107,1,none⟩=some (.slice Ao11 t103.length co11):=(kC BK107.out 1).trans rfl;have hfz13_0:=kF BK107.out 0;have hfz13_1:=kF BK107.out 1)|((with_reducible refine gate_callee (f:=36) rfl ?_);refine goesL_ (some 29) rfl rfl Try.func36 (by kernel_rfl) rfl #[.int .i64 t101,.agg #[.int .i64 t102,.slice Ao11 t103.length co11],.int .i64 t106] rfl (by (try simp only [mT,mC,mN]);first|done|rfl|(simp only [lD,lT];rfl)) ?_;(with_reducible refine (spec_MaySay.calls k t101 t102 _ _ t103 t106 t109 _ ?side1 ?side2 A5.out).mono ?_);(case side1=>repeat (first|exact (rR HO105.out).2.2|(with_reducible refine cA ?_ _)|(with_reducible refine cN ?_ _)|(with_reducible refine cD ?_)));(case side2=>exact (rR HO105.out).2.1);rintro e w14 ⟨rfl,hb⟩;refine ⟨_,rfl,?_⟩;have n0_:=mA (rB (by (with_reducible repeat (first|apply rA|apply rN|apply rD));exact HO105.out) hb);have n1_:=mA (blk_below (g:=gb107) (o:=.cells #[.int .i64 t102,.slice Ao11 t103.length co11] 36 (0,0)) (by (with_reducible repeat (first|refine kN ?_ _|refine kD ?_|refine kA ?_ _));exact BK107.out) hb);have n2_:=mA (bT (by repeat (first|(with_reducible first|exact HB.out|apply bA|apply bN|apply bD|refine bS ?_ GE107.out)|exact HB.out)) hb);clear HO105 BK107 HB;have HO105:=n0_;have BK107:=n1_;have HB:=n2_;clear n0_ n1_ n2_;(try clear hb);(try clear hb2);(try clear hk);(try clear hi)))
   (try simp only [Act.put,sA,sZ,sS])
   go_cut [40] (fun v40 wc=>∃ (kq:Nat) (x40_6:Bool),v40 = .bool x40_6∧Aside0 (laws_FnMaySay.j0 kq t101 t106 t108 x40_6 t102 t103=some r)∧Aside0 (kq≤k)∧Aside0 (Kd.R k33 33 wc w.heap.size (fun _=>True) (.slice Ao11 t103.length co11) t103)∧Aside0 (wc.heap[gb107]?=some (.cells #[.int .i64 t102,(.slice Ao11 t103.length co11)] 36 (0,0)))∧Aside0 (Below w.heap.size w wc))
   case first =>
    have H:=HC7.out
    clear HC7
    replace H:=Option.bind_eq_some_iff.mp H
    obtain ⟨t110,A150,H⟩:=H
    replace H:(if t110=true then ((spec_WorldOk.f t101 t106).bind fun t111=>(laws_FnMaySay.j0 k t101 t106 t108 (!t111) t102 t103)) else (laws_FnMaySay.j0 k t101 t106 t108 true t102 t103))=some r:=H
    have A15:=mA A150
    clear A150
    by_cases c16:t110=true
    ·subst c16
     have H1:((spec_WorldOk.f t101 t106).bind fun t111=>(laws_FnMaySay.j0 k t101 t106 t108 (!t111) t102 t103))=some r:=by rw [if_pos rfl] at H;exact H
     clear H
     have H:=H1
     clear H1
     replace H:=Option.bind_eq_some_iff.mp H
     obtain ⟨t111,A170,H⟩:=H
     replace H:(laws_FnMaySay.j0 k t101 t106 t108 (!t111) t102 t103)=some r:=H
     have A17:=mA A170
     clear A170
     have H':=mA H
     clear H
     have hcz18_0:w14.cell? ⟨gb107,0,none⟩=some (.int .i64 t102):=(kC BK107.out 0).trans rfl
     have hcz18_1:w14.cell? ⟨gb107,1,none⟩=some (.slice Ao11 t103.length co11):=(kC BK107.out 1).trans rfl
     have hfz18_0:=kF BK107.out 0
     have hfz18_1:=kF BK107.out 1
     go_wp2_with (first|((with_reducible refine gate_callee (f:=37) rfl ?_);refine goesL_ (some 33) rfl rfl Try.func37 (by kernel_rfl) rfl #[.int .i64 t101,.agg #[.int .i64 t102,.slice Ao11 t103.length co11]] rfl (by (try simp only [mT,mC,mN]);first|done|rfl|(simp only [lD,lT];rfl)) ?_;(with_reducible refine (spec_ClaimOk.calls k t101 t102 _ _ t103 true _ ?side1 ?side2 A15.out).mono ?_);(case side1=>repeat (first|exact (rR HO105.out).2.2|(with_reducible refine cA ?_ _)|(with_reducible refine cN ?_ _)|(with_reducible refine cD ?_)));(case side2=>exact (rR HO105.out).2.1);rintro e w19 ⟨rfl,hb⟩;refine ⟨_,rfl,?_⟩;have n0_:=mA (rB (by (with_reducible repeat (first|apply rA|apply rN|apply rD));exact HO105.out) hb);have n1_:=mA (blk_below (g:=gb107) (o:=.cells #[.int .i64 t102,.slice Ao11 t103.length co11] 36 (0,0)) (by (with_reducible repeat (first|refine kN ?_ _|refine kD ?_|refine kA ?_ _));exact BK107.out) hb);have n2_:=mA (bT (by repeat (first|(with_reducible first|exact HB.out|apply bA|apply bN|apply bD|refine bS ?_ GE107.out)|exact HB.out)) hb);clear HO105 BK107 HB;have HO105:=n0_;have BK107:=n1_;have HB:=n2_;clear n0_ n1_ n2_;(try clear hb);(try clear hb2);(try clear hk);(try clear hi))|(go_at_call 38;(with_reducible refine (spec_WorldOk.calls t101 t106 t111 _ A17.out).mono ?_);rintro e w' ⟨rfl,⟨nd,rfl⟩⟩))
     go_meet
     case rel=>exact ⟨_,(!t111),(by first|rfl|(simp;done)|(simp [*];done)),H',⟨by first|omega|exact Nat.le_refl _⟩,⟨by (with_reducible repeat (first|apply rA|apply rN|apply rD));exact HO105.out⟩,⟨by (with_reducible repeat (first|refine kN ?_ _|refine kD ?_|refine kA ?_ _));exact BK107.out⟩,⟨by repeat (first|(with_reducible first|exact HB.out|apply bA|apply bN|apply bD|refine bS ?_ GE107.out)|exact HB.out)⟩⟩
    ·replace c16:=Bool.eq_false_iff.mpr c16
     subst c16
     have H1:(laws_FnMaySay.j0 k t101 t106 t108 true t102 t103)=some r:=by rw [if_neg (show ¬ (false=true) by decide)] at H;exact H
     clear H
     have H:=H1
     clear H1
     have H':=mA H
     clear H
     have hcz20_0:w14.cell? ⟨gb107,0,none⟩=some (.int .i64 t102):=(kC BK107.out 0).trans rfl
     have hcz20_1:w14.cell? ⟨gb107,1,none⟩=some (.slice Ao11 t103.length co11):=(kC BK107.out 1).trans rfl
     have hfz20_0:=kF BK107.out 0
     have hfz20_1:=kF BK107.out 1
     go_wp2_with (first|((with_reducible refine gate_callee (f:=37) rfl ?_);refine goesL_ (some 33) rfl rfl Try.func37 (by kernel_rfl) rfl #[.int .i64 t101,.agg #[.int .i64 t102,.slice Ao11 t103.length co11]] rfl (by (try simp only [mT,mC,mN]);first|done|rfl|(simp only [lD,lT];rfl)) ?_;(with_reducible refine (spec_ClaimOk.calls k t101 t102 _ _ t103 false _ ?side1 ?side2 A15.out).mono ?_);(case side1=>repeat (first|exact (rR HO105.out).2.2|(with_reducible refine cA ?_ _)|(with_reducible refine cN ?_ _)|(with_reducible refine cD ?_)));(case side2=>exact (rR HO105.out).2.1);rintro e w21 ⟨rfl,hb⟩;refine ⟨_,rfl,?_⟩;have n0_:=mA (rB (by (with_reducible repeat (first|apply rA|apply rN|apply rD));exact HO105.out) hb);have n1_:=mA (blk_below (g:=gb107) (o:=.cells #[.int .i64 t102,.slice Ao11 t103.length co11] 36 (0,0)) (by (with_reducible repeat (first|refine kN ?_ _|refine kD ?_|refine kA ?_ _));exact BK107.out) hb);have n2_:=mA (bT (by repeat (first|(with_reducible first|exact HB.out|apply bA|apply bN|apply bD|refine bS ?_ GE107.out)|exact HB.out)) hb);clear HO105 BK107 HB;have HO105:=n0_;have BK107:=n1_;have HB:=n2_;clear n0_ n1_ n2_;(try clear hb);(try clear hb2);(try clear hk);(try clear hi)))
     go_meet
     case rel=>exact ⟨_,(true),(by first|rfl|(simp;done)|(simp [*];done)),H',⟨by first|omega|exact Nat.le_refl _⟩,⟨by (with_reducible repeat (first|apply rA|apply rN|apply rD));exact HO105.out⟩,⟨by (with_reducible repeat (first|refine kN ?_ _|refine kD ?_|refine kA ?_ _));exact BK107.out⟩,⟨by repeat (first|(with_reducible first|exact HB.out|apply bA|apply bN|apply bD|refine bS ?_ GE107.out)|exact HB.out)⟩⟩
   case rest =>
    clear HC7
    try clear c1
    try clear c2
    try clear c2b0
    try clear c2b1
    try clear p2
    try clear c3
    try clear c5
    try clear c6
    try clear c6b0
    try clear c6b1
    try clear c6b2
    try clear c16
    try clear hcz10_0
    try clear hcz10_1
    try clear hcz13_0
    try clear hcz13_1
    try clear hcz18_0
    try clear hcz18_1
    try clear hcz20_0
    try clear hcz20_1
    try clear hfz10_0
    try clear hfz10_1
    try clear hfz13_0
    try clear hfz13_1
    try clear hfz18_0
    try clear hfz18_1
    try clear hfz20_0
    try clear hfz20_1
    obtain ⟨kq,x40_6,rfl,HA,HJ6,HO_108001,BK107,HB⟩:=hcut
    cases kq with
    | zero=>exact absurd HA.out (by simp [laws_FnMaySay.j0])
    | succ kj6 =>
     have H:=HA.out
     clear HA
     simp only [laws_FnMaySay.j0] at H
     by_cases c22:x40_6=true
     ·subst c22
      have H1:(if t108=true then (some false) else ((laws_alive.f).bind fun t112=>(some t112)))=some r:=by rw [if_pos rfl] at H;exact H
      clear H
      have H:=H1
      clear H1
      by_cases c23:t108=true
      ·subst c23
       have H1:(some false)=some r:=by rw [if_pos rfl] at H;exact H
       clear H
       have H:=H1
       clear H1
       exact absurd ((Option.some.inj H).trans hr_.out) (by decide)
      ·replace c23:=Bool.eq_false_iff.mpr c23
       subst c23
       have H1:((laws_alive.f).bind fun t112=>(some t112))=some r:=by rw [if_neg (show ¬ (false=true) by decide)] at H;exact H
       clear H
       have H:=H1
       clear H1
       replace H:=Option.bind_eq_some_iff.mp H
       obtain ⟨t112,A240,H⟩:=H
       replace H:(some t112)=some r:=H
       have A24:=mA A240
       clear A240
       obtain rfl:=Option.some.inj H
       go_wp2_with (first|(go_at_call 26;(with_reducible refine (laws_alive.calls  t112 _ A24.out).mono ?_);rintro e w' ⟨rfl,⟨nd,rfl⟩⟩))
       go_ret
       exact ⟨by first|rfl|(simp [errW_none,errW_some]<;>rfl)|(simp [*, errW_none,errW_some]<;>rfl),by repeat (first|(with_reducible first|exact HB.out|apply bA|apply bN|apply bD|refine bS ?_ GE107.out)|exact HB.out)⟩
     ·replace c22:=Bool.eq_false_iff.mpr c22
      subst c22
      have H1:((impl_DenyClaim.f kj6 t101 t102 t103).bind fun bt113=>((impl_MirrorTerm.f kj6 t101 t103).bind fun bt119=>(if bt113.2.2=true then ((impl_MaySay.f kj6 t101 bt113.1 bt113.2.1 t106).bind fun t124=>(if (t124 != t108)=true then (if bt119.2=true then ((spec_ClaimOk.f kj6 t101 t102 bt119.1).bind fun t125=>(if t125=true then ((impl_OppositeWorld.f t101 t106).bind fun t126=>((impl_MaySay.f kj6 t101 t102 bt119.1 t126).bind fun t127=>(if (t127 != t108)=true then ((laws_alive.f).bind fun t128=>(some t128)) else (some false)))) else ((laws_alive.f).bind fun t129=>(some t129)))) else ((laws_alive.f).bind fun t130=>(some t130))) else (some false))) else (if bt119.2=true then ((spec_ClaimOk.f kj6 t101 t102 bt119.1).bind fun t131=>(if t131=true then ((impl_OppositeWorld.f t101 t106).bind fun t132=>((impl_MaySay.f kj6 t101 t102 bt119.1 t132).bind fun t133=>(if (t133 != t108)=true then ((laws_alive.f).bind fun t134=>(some t134)) else (some false)))) else ((laws_alive.f).bind fun t135=>(some t135)))) else ((laws_alive.f).bind fun t136=>(some t136))))))=some r:=by rw [if_neg (show ¬ (false=true) by decide)] at H;exact H
      clear H
      have H:=H1
      clear H1
      replace H:=Option.bind_eq_some_iff.mp H
      obtain ⟨⟨t113,t114,t117⟩,A250,H⟩:=H
      replace H:((impl_MirrorTerm.f kj6 t101 t103).bind fun bt119=>(if t117=true then ((impl_MaySay.f kj6 t101 t113 t114 t106).bind fun t124=>(if (t124 != t108)=true then (if bt119.2=true then ((spec_ClaimOk.f kj6 t101 t102 bt119.1).bind fun t125=>(if t125=true then ((impl_OppositeWorld.f t101 t106).bind fun t126=>((impl_MaySay.f kj6 t101 t102 bt119.1 t126).bind fun t127=>(if (t127 != t108)=true then ((laws_alive.f).bind fun t128=>(some t128)) else (some false)))) else ((laws_alive.f).bind fun t129=>(some t129)))) else ((laws_alive.f).bind fun t130=>(some t130))) else (some false))) else (if bt119.2=true then ((spec_ClaimOk.f kj6 t101 t102 bt119.1).bind fun t131=>(if t131=true then ((impl_OppositeWorld.f t101 t106).bind fun t132=>((impl_MaySay.f kj6 t101 t102 bt119.1 t132).bind fun t133=>(if (t133 != t108)=true then ((laws_alive.f).bind fun t134=>(some t134)) else (some false)))) else ((laws_alive.f).bind fun t135=>(some t135)))) else ((laws_alive.f).bind fun t136=>(some t136)))))=some r:=H
      have A25:=mA A250
      clear A250
      replace H:=Option.bind_eq_some_iff.mp H
      obtain ⟨⟨t119,t120⟩,A260,H⟩:=H
      replace H:(if t117=true then ((impl_MaySay.f kj6 t101 t113 t114 t106).bind fun t124=>(if (t124 != t108)=true then (if t120=true then ((spec_ClaimOk.f kj6 t101 t102 t119).bind fun t125=>(if t125=true then ((impl_OppositeWorld.f t101 t106).bind fun t126=>((impl_MaySay.f kj6 t101 t102 t119 t126).bind fun t127=>(if (t127 != t108)=true then ((laws_alive.f).bind fun t128=>(some t128)) else (some false)))) else ((laws_alive.f).bind fun t129=>(some t129)))) else ((laws_alive.f).bind fun t130=>(some t130))) else (some false))) else (if t120=true then ((spec_ClaimOk.f kj6 t101 t102 t119).bind fun t131=>(if t131=true then ((impl_OppositeWorld.f t101 t106).bind fun t132=>((impl_MaySay.f kj6 t101 t102 t119 t132).bind fun t133=>(if (t133 != t108)=true then ((laws_alive.f).bind fun t134=>(some t134)) else (some false)))) else ((laws_alive.f).bind fun t135=>(some t135)))) else ((laws_alive.f).bind fun t136=>(some t136))))=some r:=H
      have A26:=mA A260
      clear A260
      by_cases c27:t117=true
      ·subst c27
       have H1:((impl_MaySay.f kj6 t101 t113 t114 t106).bind fun t124=>(if (t124 != t108)=true then (if t120=true then ((spec_ClaimOk.f kj6 t101 t102 t119).bind fun t125=>(if t125=true then ((impl_OppositeWorld.f t101 t106).bind fun t126=>((impl_MaySay.f kj6 t101 t102 t119 t126).bind fun t127=>(if (t127 != t108)=true then ((laws_alive.f).bind fun t128=>(some t128)) else (some false)))) else ((laws_alive.f).bind fun t129=>(some t129)))) else ((laws_alive.f).bind fun t130=>(some t130))) else (some false)))=some r:=by rw [if_pos rfl] at H;exact H
       clear H
       have H:=H1
       clear H1
       replace H:=Option.bind_eq_some_iff.mp H
       obtain ⟨t124,A280,H⟩:=H
       replace H:(if (t124 != t108)=true then (if t120=true then ((spec_ClaimOk.f kj6 t101 t102 t119).bind fun t125=>(if t125=true then ((impl_OppositeWorld.f t101 t106).bind fun t126=>((impl_MaySay.f kj6 t101 t102 t119 t126).bind fun t127=>(if (t127 != t108)=true then ((laws_alive.f).bind fun t128=>(some t128)) else (some false)))) else ((laws_alive.f).bind fun t129=>(some t129)))) else ((laws_alive.f).bind fun t130=>(some t130))) else (some false))=some r:=H
       have A28:=mA A280
       clear A280
       by_cases c29:(t124 != t108)=true
       ·rw [if_pos c29] at H
        have c29b0:(t124 != t108)=true:=c29
        (try (have c29b1:decide (t124=t108)=false:=by simpa using c29))
        (try (have c29b2:(t124==t108)=false:=by simpa using c29))
        (try (have c29b3 : ¬ (t124=t108):=by simpa using c29))
        clear c29
        by_cases c30:t120=true
        ·subst c30
         have H1:((spec_ClaimOk.f kj6 t101 t102 t119).bind fun t125=>(if t125=true then ((impl_OppositeWorld.f t101 t106).bind fun t126=>((impl_MaySay.f kj6 t101 t102 t119 t126).bind fun t127=>(if (t127 != t108)=true then ((laws_alive.f).bind fun t128=>(some t128)) else (some false)))) else ((laws_alive.f).bind fun t129=>(some t129))))=some r:=by rw [if_pos rfl] at H;exact H
         clear H
         have H:=H1
         clear H1
         replace H:=Option.bind_eq_some_iff.mp H
         obtain ⟨t125,A310,H⟩:=H
         replace H:(if t125=true then ((impl_OppositeWorld.f t101 t106).bind fun t126=>((impl_MaySay.f kj6 t101 t102 t119 t126).bind fun t127=>(if (t127 != t108)=true then ((laws_alive.f).bind fun t128=>(some t128)) else (some false)))) else ((laws_alive.f).bind fun t129=>(some t129)))=some r:=H
         have A31:=mA A310
         clear A310
         by_cases c32:t125=true
         ·subst c32
          have H1:((impl_OppositeWorld.f t101 t106).bind fun t126=>((impl_MaySay.f kj6 t101 t102 t119 t126).bind fun t127=>(if (t127 != t108)=true then ((laws_alive.f).bind fun t128=>(some t128)) else (some false))))=some r:=by rw [if_pos rfl] at H;exact H
          clear H
          have H:=H1
          clear H1
          replace H:=Option.bind_eq_some_iff.mp H
          obtain ⟨t126,A330,H⟩:=H
          replace H:((impl_MaySay.f kj6 t101 t102 t119 t126).bind fun t127=>(if (t127 != t108)=true then ((laws_alive.f).bind fun t128=>(some t128)) else (some false)))=some r:=H
          have A33:=mA A330
          clear A330
          replace H:=Option.bind_eq_some_iff.mp H
          obtain ⟨t127,A340,H⟩:=H
          replace H:(if (t127 != t108)=true then ((laws_alive.f).bind fun t128=>(some t128)) else (some false))=some r:=H
          have A34:=mA A340
          clear A340
          by_cases c35:(t127 != t108)=true
          ·rw [if_pos c35] at H
           have c35b0:(t127 != t108)=true:=c35
           (try (have c35b1:decide (t127=t108)=false:=by simpa using c35))
           (try (have c35b2:(t127==t108)=false:=by simpa using c35))
           (try (have c35b3 : ¬ (t127=t108):=by simpa using c35))
           clear c35
           replace H:=Option.bind_eq_some_iff.mp H
           obtain ⟨t128,A360,H⟩:=H
           replace H:(some t128)=some r:=H
           have A36:=mA A360
           clear A360
           obtain rfl:=Option.some.inj H
           have hcz37_0:wc.cell? ⟨gb107,0,none⟩=some (.int .i64 t102):=(kC BK107.out 0).trans rfl
           have hcz37_1:wc.cell? ⟨gb107,1,none⟩=some (.slice Ao11 t103.length co11):=(kC BK107.out 1).trans rfl
           have hfz37_0:=kF BK107.out 0
           have hfz37_1:=kF BK107.out 1
           try go_wp2_with (first|((with_reducible refine gate_callee (f:=39) rfl ?_);refine goesL_ (some 49) rfl rfl Try.func39 (by kernel_rfl) rfl #[.int .i64 t101,.agg #[.int .i64 t102,.slice Ao11 t103.length co11]] rfl (by (try simp only [mT,mC,mN]);first|done|rfl|(simp only [lD,lT];rfl)) ?_;(with_reducible refine (impl_DenyClaim.calls kj6 t101 t102 _ _ t103 t113 t114 true _ ?side1 ?side2 A25.out).mono ?_);(case side1=>repeat (first|exact (rR HO_108001.out).2.2|(with_reducible refine cA ?_ _)|(with_reducible refine cN ?_ _)|(with_reducible refine cD ?_)));(case side2=>exact (rR HO_108001.out).2.1);rintro e w38 ⟨v115,rfl,ho0,hb⟩;refine ⟨_,rfl,?_⟩;have n0_:=mA (Kd.R_elder' (by (with_reducible repeat (first|apply rA|apply rN|apply rD));exact HO_108001.out) (Kd.R_base ho0) hb);have n1_:=mA (Kd.R_lower (Kd.R_new' ho0 (rL (by (with_reducible repeat (first|apply rA|apply rN|apply rD));exact HO_108001.out))) (bZ (by repeat (first|(with_reducible first|exact HB.out|apply bA|apply bN|apply bD|refine bS ?_ GE107.out)|exact HB.out))));have n2_:=mA (blk_below (g:=gb107) (o:=.cells #[.int .i64 t102,.slice Ao11 t103.length co11] 36 (0,0)) (by (with_reducible repeat (first|refine kN ?_ _|refine kD ?_|refine kA ?_ _));exact BK107.out) hb);have n3_:=mA (bT (by repeat (first|(with_reducible first|exact HB.out|apply bA|apply bN|apply bD|refine bS ?_ GE107.out)|exact HB.out)) hb);clear HO_108001 BK107 HB;have HO_108001:=n0_;have HO116:=n1_;have BK107:=n2_;have HB:=n3_;clear n0_ n1_ n2_ n3_;(try clear hb);(try clear hb2);(try clear hk);(try clear hi);(try clear ho0))|((with_reducible refine gate_dst (N:=7) rfl ?_);refine box_event ?hg (N:=7) ?hd (cs:=#[.int .i64 0,.slice none 0 0]) (t:=36) ?hr ?_;(case hd=>rfl);(case hg=>rfl);(case hr=>first|(go_simp;done)|(go_simp;rfl));intro gb118 hg w39 hbox hb;have n0_:=mA (rB (by (with_reducible repeat (first|apply rA|apply rN|apply rD));exact HO_108001.out) hb);have n1_:=mA (rB (by (with_reducible repeat (first|apply rA|apply rN|apply rD));exact HO116.out) hb);have n2_:=mA (blk_below (g:=gb107) (o:=.cells #[.int .i64 t102,.slice Ao11 t103.length co11] 36 (0,0)) (by (with_reducible repeat (first|refine kN ?_ _|refine kD ?_|refine kA ?_ _));exact BK107.out) hb);have n3_:=mA (bT (by repeat (first|(with_reducible first|exact HB.out|apply bA|apply bN|apply bD|refine bS ?_ GE107.out)|exact HB.out)) hb);have n4_:=mA (hbox);have n5_:=mA ((by rw [hg];exact (bZ (by repeat (first|(with_reducible first|exact HB.out|apply bA|apply bN|apply bD|refine bS ?_ GE107.out)|exact HB.out))):w.heap.size≤gb118));have n6_:=mA ((by rw [hg];exact (bZ (by repeat (first|(with_reducible first|exact HB.out|apply bA|apply bN|apply bD|refine bS ?_ GE107.out)|exact HB.out))):w.heap.size≤gb118));have n7_:=mA ((by rw [hg];exact Nat.ne_of_lt (blk_lt (g:=gb107) (o:=.cells #[.int .i64 t102,.slice Ao11 t103.length co11] 36 (0,0)) (by (with_reducible repeat (first|refine kN ?_ _|refine kD ?_|refine kA ?_ _));exact BK107.out)):gb107≠gb118));have n8_:=mA ((by rw [hg];exact Nat.ne_of_gt (blk_lt (g:=gb107) (o:=.cells #[.int .i64 t102,.slice Ao11 t103.length co11] 36 (0,0)) (by (with_reducible repeat (first|refine kN ?_ _|refine kD ?_|refine kA ?_ _));exact BK107.out)):gb118≠gb107));clear HO_108001 HO116 BK107 HB;have HO_108001:=n0_;have HO116:=n1_;have BK107:=n2_;have HB:=n3_;have BK118:=n4_;have GW118:=n5_;have GE118:=n6_;have NB107_118:=n7_;have NB118_107:=n8_;clear n0_ n1_ n2_ n3_ n4_ n5_ n6_ n7_ n8_ hb hbox hg;have hnb40:=NB118_107.out;have hnc40:=NB107_118.out;have hcz41_0:w39.cell? ⟨gb118,0,none⟩=some (.int .i64 0):=(kC BK118.out 0).trans rfl;have hcz41_1:w39.cell? ⟨gb118,1,none⟩=some (.slice none 0 0):=(kC BK118.out 1).trans rfl;have hfz41_0:=kF BK118.out 0;have hfz41_1:=kF BK118.out 1;obtain ⟨Ao42,co42,eo42⟩:=Kd.R_slice HO116.out;subst eo42;have hcz43_0:w39.cell? ⟨gb107,0,none⟩=some (.int .i64 t102):=(kC BK107.out 0).trans rfl;have hcz43_1:w39.cell? ⟨gb107,1,none⟩=some (.slice Ao11 t103.length co11):=(kC BK107.out 1).trans rfl;have hfz43_0:=kF BK107.out 0;have hfz43_1:=kF BK107.out 1)|((with_reducible refine gate_callee (f:=40) rfl ?_);refine goesL_ (some 56) rfl rfl Try.func40 (by kernel_rfl) rfl #[.int .i64 t101,.slice Ao11 t103.length co11] rfl (by (try simp only [mT,mC,mN]);first|done|rfl|(simp only [lD,lT];rfl)) ?_;(with_reducible refine (impl_MirrorTerm.calls kj6 t101 _ _ t103 t119 true _ ?side1 ?side2 A26.out).mono ?_);(case side1=>refine (rR (e:=33) (base:=w.heap.size) (ok:=fun k_=>(True∧some k_≠(.slice Ao42 t114.length co42:Value).ownBlock)) (n:=t103.length) (c:=co11) ?_).2.2;exact (by (with_reducible repeat (first|apply rA|apply rN|apply rD));exact (rM (rF (p:=⟨gb118,1,none⟩) (rF (p:=⟨gb118,0,none⟩) (Kd.R_types HO_108001.out BK118.out (by decide)) (fun _ hk=>hk.2) (.int .i64 t113)) (fun _ hk=>hk.2) (.slice Ao42 t114.length co42)) (fun _ h_=>h_.1))));(case side2=>exact (rR HO_108001.out).2.1);rintro e w44 ⟨v121,rfl,ho0,hb⟩;refine ⟨_,rfl,?_⟩;have n0_:=mA (Kd.R_elder' (by (with_reducible repeat (first|apply rA|apply rN|apply rD));exact (rM (rF (p:=⟨gb118,1,none⟩) (rF (p:=⟨gb118,0,none⟩) (Kd.R_types HO_108001.out BK118.out (by decide)) (fun _ hk=>hk.2) (.int .i64 t113)) (fun _ hk=>hk.2) (.slice Ao42 t114.length co42)) (fun _ h_=>h_.1))) (Kd.R_base ho0) hb);have n1_:=mA (Kd.R_elder' (by (with_reducible repeat (first|apply rA|apply rN|apply rD));exact (rM (rF (p:=⟨gb118,1,none⟩) (rF (p:=⟨gb118,0,none⟩) (Kd.R_types HO116.out BK118.out (by decide)) (fun _ hk=>hk.2) (.int .i64 t113)) (fun _ hk=>hk.2) (.slice Ao42 t114.length co42)) (fun _ h_=>h_.1))) (Kd.R_base ho0) hb);have n2_:=mA (Kd.R_lower (Kd.R_new' (Kd.R_new' ho0 (rL (by (with_reducible repeat (first|apply rA|apply rN|apply rD));exact (rM (rF (p:=⟨gb118,1,none⟩) (rF (p:=⟨gb118,0,none⟩) (Kd.R_types HO_108001.out BK118.out (by decide)) (fun _ hk=>hk.2) (.int .i64 t113)) (fun _ hk=>hk.2) (.slice Ao42 t114.length co42)) (fun _ h_=>h_.1))))) (rL (by (with_reducible repeat (first|apply rA|apply rN|apply rD));exact (rM (rF (p:=⟨gb118,1,none⟩) (rF (p:=⟨gb118,0,none⟩) (Kd.R_types HO116.out BK118.out (by decide)) (fun _ hk=>hk.2) (.int .i64 t113)) (fun _ hk=>hk.2) (.slice Ao42 t114.length co42)) (fun _ h_=>h_.1))))) (bZ (by repeat (first|(with_reducible first|exact HB.out|apply bA|apply bN|apply bD|refine bS ?_ GE107.out|refine bS ?_ GE118.out)|exact HB.out))));have n3_:=mA (blk_below (g:=gb107) (o:=.cells #[.int .i64 t102,.slice Ao11 t103.length co11] 36 (0,0)) (by (with_reducible repeat (first|refine kN ?_ _|refine kD ?_|refine kA ?_ _));refine blk_far ?_ NB107_118.out _;(with_reducible repeat (first|refine kN ?_ _|refine kD ?_|refine kA ?_ _));refine blk_far ?_ NB107_118.out _;(with_reducible repeat (first|refine kN ?_ _|refine kD ?_|refine kA ?_ _));exact BK107.out) hb);have n4_:=mA (blk_below (g:=gb118) (o:=.cells #[.int .i64 t113,.slice Ao42 t114.length co42] 36 (0,0)) (by (with_reducible repeat (first|refine kN ?_ _|refine kD ?_|refine kA ?_ _));refine blk_put (cs:=#[.int .i64 t113,.slice none 0 0]) ?_ 1 _ rfl;(with_reducible repeat (first|refine kN ?_ _|refine kD ?_|refine kA ?_ _));refine blk_put (cs:=#[.int .i64 0,.slice none 0 0]) ?_ 0 _ rfl;(with_reducible repeat (first|refine kN ?_ _|refine kD ?_|refine kA ?_ _));exact BK118.out) hb);have n5_:=mA (bT (by repeat (first|(with_reducible first|exact HB.out|apply bA|apply bN|apply bD|refine bS ?_ GE107.out|refine bS ?_ GE118.out)|exact HB.out)) hb);clear HO_108001 HO116 BK107 BK118 HB;have HO_108001:=n0_;have HO116:=n1_;have HO122:=n2_;have BK107:=n3_;have BK118:=n4_;have HB:=n5_;clear n0_ n1_ n2_ n3_ n4_ n5_;(try clear hb);(try clear hb2);(try clear hk);(try clear hi);(try clear ho0);have hcz45_0:w44.cell? ⟨gb107,0,none⟩=some (.int .i64 t102):=(kC BK107.out 0).trans rfl;have hcz45_1:w44.cell? ⟨gb107,1,none⟩=some (.slice Ao11 t103.length co11):=(kC BK107.out 1).trans rfl;have hfz45_0:=kF BK107.out 0;have hfz45_1:=kF BK107.out 1;obtain ⟨Ao46,co46,eo46⟩:=Kd.R_slice HO122.out;subst eo46)|((with_reducible refine gate_dst (N:=11) rfl ?_);refine box_event ?hg (N:=11) ?hd (cs:=#[.int .i64 0,.slice none 0 0]) (t:=36) ?hr ?_;(case hd=>rfl);(case hg=>rfl);(case hr=>first|(go_simp;done)|(go_simp;rfl));intro gb123 hg w47 hbox hb;have n0_:=mA (rB (by (with_reducible repeat (first|apply rA|apply rN|apply rD));exact HO_108001.out) hb);have n1_:=mA (rB (by (with_reducible repeat (first|apply rA|apply rN|apply rD));exact HO116.out) hb);have n2_:=mA (rB (by (with_reducible repeat (first|apply rA|apply rN|apply rD));exact HO122.out) hb);have n3_:=mA (blk_below (g:=gb107) (o:=.cells #[.int .i64 t102,.slice Ao11 t103.length co11] 36 (0,0)) (by (with_reducible repeat (first|refine kN ?_ _|refine kD ?_|refine kA ?_ _));exact BK107.out) hb);have n4_:=mA (blk_below (g:=gb118) (o:=.cells #[.int .i64 t113,.slice Ao42 t114.length co42] 36 (0,0)) (by (with_reducible repeat (first|refine kN ?_ _|refine kD ?_|refine kA ?_ _));exact BK118.out) hb);have n5_:=mA (bT (by repeat (first|(with_reducible first|exact HB.out|apply bA|apply bN|apply bD|refine bS ?_ GE107.out|refine bS ?_ GE118.out)|exact HB.out)) hb);have n6_:=mA (hbox);have n7_:=mA ((by rw [hg];exact (bZ (by repeat (first|(with_reducible first|exact HB.out|apply bA|apply bN|apply bD|refine bS ?_ GE107.out|refine bS ?_ GE118.out)|exact HB.out))):w.heap.size≤gb123));have n8_:=mA ((by rw [hg];exact (bZ (by repeat (first|(with_reducible first|exact HB.out|apply bA|apply bN|apply bD|refine bS ?_ GE107.out|refine bS ?_ GE118.out)|exact HB.out))):w.heap.size≤gb123));have n9_:=mA ((by rw [hg];exact Nat.ne_of_lt (blk_lt (g:=gb107) (o:=.cells #[.int .i64 t102,.slice Ao11 t103.length co11] 36 (0,0)) (by (with_reducible repeat (first|refine kN ?_ _|refine kD ?_|refine kA ?_ _));exact BK107.out)):gb107≠gb123));have n10_:=mA ((by rw [hg];exact Nat.ne_of_gt (blk_lt (g:=gb107) (o:=.cells #[.int .i64 t102,.slice Ao11 t103.length co11] 36 (0,0)) (by (with_reducible repeat (first|refine kN ?_ _|refine kD ?_|refine kA ?_ _));exact BK107.out)):gb123≠gb107));have n11_:=mA ((by rw [hg];exact Nat.ne_of_lt (blk_lt (g:=gb118) (o:=.cells #[.int .i64 t113,.slice Ao42 t114.length co42] 36 (0,0)) (by (with_reducible repeat (first|refine kN ?_ _|refine kD ?_|refine kA ?_ _));exact BK118.out)):gb118≠gb123));have n12_:=mA ((by rw [hg];exact Nat.ne_of_gt (blk_lt (g:=gb118) (o:=.cells #[.int .i64 t113,.slice Ao42 t114.length co42] 36 (0,0)) (by (with_reducible repeat (first|refine kN ?_ _|refine kD ?_|refine kA ?_ _));exact BK118.out)):gb123≠gb118));clear HO_108001 HO116 HO122 BK107 BK118 HB;have HO_108001:=n0_;have HO116:=n1_;have HO122:=n2_;have BK107:=n3_;have BK118:=n4_;have HB:=n5_;have BK123:=n6_;have GW123:=n7_;have GE123:=n8_;have NB107_123:=n9_;have NB123_107:=n10_;have NB118_123:=n11_;have NB123_118:=n12_;clear n0_ n1_ n2_ n3_ n4_ n5_ n6_ n7_ n8_ n9_ n10_ n11_ n12_ hb hbox hg;have hnb48:=NB123_107.out;have hnc48:=NB107_123.out;have hnb49:=NB123_118.out;have hnc49:=NB118_123.out;have hcz50_0:w47.cell? ⟨gb123,0,none⟩=some (.int .i64 0):=(kC BK123.out 0).trans rfl;have hcz50_1:w47.cell? ⟨gb123,1,none⟩=some (.slice none 0 0):=(kC BK123.out 1).trans rfl;have hfz50_0:=kF BK123.out 0;have hfz50_1:=kF BK123.out 1))
           have n0_:Aside0 (Kd.R k33 33 ((w47.setCell ⟨gb123,0,none⟩ (.int .i64 t102)).setCell ⟨gb123,1,none⟩ (.slice Ao46 t119.length co46)) w.heap.size (fun k_=>some k_≠(.slice Ao42 t114.length co42:Value).ownBlock∧some k_≠(.slice Ao46 t119.length co46:Value).ownBlock) (.slice Ao11 t103.length co11) t103):=⟨by (with_reducible repeat (first|apply rA|apply rN|apply rD));exact rM (rF (p:=⟨gb123,1,none⟩) (rF (p:=⟨gb123,0,none⟩) (Kd.R_types HO_108001.out BK123.out (by decide)) (fun _ hk=>hk.2) (.int .i64 t102)) (fun _ hk=>hk.2) (.slice Ao46 t119.length co46)) (fun _ hk=>⟨hk.1.1.2,hk.1.2⟩)⟩
           have n1_:Aside0 (Kd.R k33 33 ((w47.setCell ⟨gb123,0,none⟩ (.int .i64 t102)).setCell ⟨gb123,1,none⟩ (.slice Ao46 t119.length co46)) w.heap.size (fun k_=>some k_≠(.slice Ao11 t103.length co11:Value).ownBlock∧some k_≠(.slice Ao46 t119.length co46:Value).ownBlock) (.slice Ao42 t114.length co42) t114):=⟨by (with_reducible repeat (first|apply rA|apply rN|apply rD));exact rM (rF (p:=⟨gb123,1,none⟩) (rF (p:=⟨gb123,0,none⟩) (Kd.R_types HO116.out BK123.out (by decide)) (fun _ hk=>hk.2) (.int .i64 t102)) (fun _ hk=>hk.2) (.slice Ao46 t119.length co46)) (fun _ hk=>⟨hk.1.1.2,hk.1.2⟩)⟩
           have n2_:Aside0 (Kd.R k33 33 ((w47.setCell ⟨gb123,0,none⟩ (.int .i64 t102)).setCell ⟨gb123,1,none⟩ (.slice Ao46 t119.length co46)) w.heap.size (fun k_=>some k_≠(.slice Ao11 t103.length co11:Value).ownBlock∧some k_≠(.slice Ao42 t114.length co42:Value).ownBlock) (.slice Ao46 t119.length co46) t119):=⟨by (with_reducible repeat (first|apply rA|apply rN|apply rD));exact rM (rF (p:=⟨gb123,1,none⟩) (rF (p:=⟨gb123,0,none⟩) (Kd.R_types HO122.out BK123.out (by decide)) (fun _ hk=>hk.2) (.int .i64 t102)) (fun _ hk=>hk.2) (.slice Ao46 t119.length co46)) (fun _ hk=>⟨hk.1.1.2,hk.1.2⟩)⟩
           have n3_:Aside0 (((w47.setCell ⟨gb123,0,none⟩ (.int .i64 t102)).setCell ⟨gb123,1,none⟩ (.slice Ao46 t119.length co46)).heap[gb107]?=some (.cells #[.int .i64 t102,.slice Ao11 t103.length co11] 36 (0,0))):=⟨by (with_reducible repeat (first|refine kN ?_ _|refine kD ?_|refine kA ?_ _));refine blk_far ?_ NB107_123.out _;(with_reducible repeat (first|refine kN ?_ _|refine kD ?_|refine kA ?_ _));refine blk_far ?_ NB107_123.out _;(with_reducible repeat (first|refine kN ?_ _|refine kD ?_|refine kA ?_ _));exact BK107.out⟩
           have n4_:Aside0 (((w47.setCell ⟨gb123,0,none⟩ (.int .i64 t102)).setCell ⟨gb123,1,none⟩ (.slice Ao46 t119.length co46)).heap[gb118]?=some (.cells #[.int .i64 t113,.slice Ao42 t114.length co42] 36 (0,0))):=⟨by (with_reducible repeat (first|refine kN ?_ _|refine kD ?_|refine kA ?_ _));refine blk_far ?_ NB118_123.out _;(with_reducible repeat (first|refine kN ?_ _|refine kD ?_|refine kA ?_ _));refine blk_far ?_ NB118_123.out _;(with_reducible repeat (first|refine kN ?_ _|refine kD ?_|refine kA ?_ _));exact BK118.out⟩
           have n5_:Aside0 (((w47.setCell ⟨gb123,0,none⟩ (.int .i64 t102)).setCell ⟨gb123,1,none⟩ (.slice Ao46 t119.length co46)).heap[gb123]?=some (.cells #[.int .i64 t102,.slice Ao46 t119.length co46] 36 (0,0))):=⟨by (with_reducible repeat (first|refine kN ?_ _|refine kD ?_|refine kA ?_ _));refine blk_put (cs:=#[.int .i64 t102,.slice none 0 0]) ?_ 1 _ rfl;(with_reducible repeat (first|refine kN ?_ _|refine kD ?_|refine kA ?_ _));refine blk_put (cs:=#[.int .i64 0,.slice none 0 0]) ?_ 0 _ rfl;(with_reducible repeat (first|refine kN ?_ _|refine kD ?_|refine kA ?_ _));exact BK123.out⟩
           have n6_:Aside0 (Below w.heap.size w ((w47.setCell ⟨gb123,0,none⟩ (.int .i64 t102)).setCell ⟨gb123,1,none⟩ (.slice Ao46 t119.length co46))):=⟨by repeat (first|(with_reducible first|exact HB.out|apply bA|apply bN|apply bD|refine bS ?_ GE107.out|refine bS ?_ GE118.out|refine bS ?_ GE123.out)|exact HB.out)⟩
           (try clear HO_108001)
           (try clear HO116)
           (try clear HO122)
           (try clear BK107)
           (try clear BK118)
           (try clear BK123)
           (try clear HB)
           generalize ((w47.setCell ⟨gb123,0,none⟩ (.int .i64 t102)).setCell ⟨gb123,1,none⟩ (.slice Ao46 t119.length co46))=w51 at n0_ n1_ n2_ n3_ n4_ n5_ n6_ ⊢
           have HO_108001:=n0_
           have HO116:=n1_
           have HO122:=n2_
           have BK107:=n3_
           have BK118:=n4_
           have BK123:=n5_
           have HB:=n6_
           clear n0_ n1_ n2_ n3_ n4_ n5_ n6_
           have n0_:=mA (rD HO_108001.out)
           have n1_:=mA (rD HO116.out)
           have n2_:=mA (rD HO122.out)
           have n3_:=mA (kD BK107.out)
           have n4_:=mA (kD BK118.out)
           have n5_:=mA (kD BK123.out)
           have n6_:=mA (bD HB.out)
           clear HO_108001
           clear HO116
           clear HO122
           clear BK107
           clear BK118
           clear BK123
           clear HB
           have HO_108001:=n0_
           have HO116:=n1_
           have HO122:=n2_
           have BK107:=n3_
           have BK118:=n4_
           have BK123:=n5_
           have HB:=n6_
           clear n0_ n1_ n2_ n3_ n4_ n5_ n6_
           refine start_ (n:=34) (S:=fun w'=>w'.cell? ⟨gb118,0,none⟩=some (.int .i64 t113)∧w'.cell? ⟨gb118,1,none⟩=some (.slice Ao42 t114.length co42)∧w'.cell? ⟨gb123,0,none⟩=some (.int .i64 t102)∧w'.cell? ⟨gb123,1,none⟩=some (.slice Ao46 t119.length co46)) (ds:=[]) #[O,O,O,O,O,O,O,O,O,O,O,O,O,O,O,O,O,O,O,O,O,O,O,O,O,O,O,O,O,O,O,O,O,O] (by kernel_rfl) rfl rfl ⟨(kC BK118.out 0).trans rfl,(kC BK118.out 1).trans rfl,(kC BK123.out 0).trans rfl,(kC BK123.out 1).trans rfl⟩ (fun hHeld=>?_);refine with_tabW laws_FnMaySay.tab12 laws_FnMaySay.bits12 (fun HT_ HW_=>?_)
           generalize w51.drew=w52 at HO_108001 HO116 HO122 BK107 BK118 BK123 HB hHeld ⊢
           refine pure_ (i:=0) (N:=some 63) (v:=?_) (a':=?_) #[I,O,O,O,O,O,O,O,O,O,O,O,O,O,O,O,O,O,O,O,O,O,O,O,O,O,O,O,O,O,O,O,O,O] rfl rfl (any_of HT_.out (by kernel_rfl)) (fun _ _ _ h=>h) (Or.inl ⟨by rfl,?_⟩) ?_ ?_
           rotate_left
           ·intro w'
            go_simp
            with_reducible rfl
           rotate_left
           ·simp only [Act.put,sA,sZ,sS,i64_w,i32_w]
            rfl
           refine pure_ (i:=1) (N:=some 64) (v:=?_) (a':=?_) #[I,I,O,O,O,O,O,O,O,O,O,O,O,O,O,O,O,O,O,O,O,O,O,O,O,O,O,O,O,O,O,O,O,O] rfl rfl (any_of HT_.out (by kernel_rfl)) (fun _ _ _ h=>h) (Or.inl ⟨by rfl,?_⟩) ?_ ?_
           rotate_left
           ·intro w'
            go_simp
            with_reducible rfl
           rotate_left
           ·simp only [Act.put,sA,sZ,sS,i64_w,i32_w]
            rfl
           refine pure_ (i:=2) (N:=some 65) (v:=?_) (a':=?_) #[I,I,I,O,O,O,O,O,O,O,O,O,O,O,O,O,O,O,O,O,O,O,O,O,O,O,O,O,O,O,O,O,O,O] rfl rfl (any_of HT_.out (by kernel_rfl)) (fun _ _ _ h=>h) (Or.inl ⟨by rfl,?_⟩) ?_ ?_
           rotate_left
           ·intro w'
            go_simp
            with_reducible rfl
           rotate_left
           ·simp only [Act.put,sA,sZ,sS,i64_w,i32_w]
            rfl
           refine pure_ (i:=3) (N:=some 66) (v:=?_) (a':=?_) #[I,I,I,I,O,O,O,O,O,O,O,O,O,O,O,O,O,O,O,O,O,O,O,O,O,O,O,O,O,O,O,O,O,O] rfl rfl (any_of HT_.out (by kernel_rfl)) (fun _ _ _ h=>h) (Or.inl ⟨by rfl,?_⟩) ?_ ?_
           rotate_left
           ·intro w'
            go_simp
            with_reducible rfl
           rotate_left
           ·simp only [Act.put,sA,sZ,sS,i64_w,i32_w]
            rfl
           refine pure_ (i:=5) (N:=some 68) (v:=?_) (a':=?_) #[I,I,I,I,O,I,O,O,O,O,O,O,O,O,O,O,O,O,O,O,O,O,O,O,O,O,O,O,O,O,O,O,O,O] rfl rfl (any_of HT_.out (by kernel_rfl)) (fun _ _ _ h=>h) (Or.inl ⟨by rfl,?_⟩) ?_ ?_
           rotate_left
           ·intro w'
            go_simp
            with_reducible rfl
           rotate_left
           ·simp only [Act.put,sA,sZ,sS,i64_w,i32_w]
            rfl
           refine pure_ (i:=7) (N:=some 70) (v:=?_) (a':=?_) #[I,I,I,I,O,I,O,I,O,O,O,O,O,O,O,O,O,O,O,O,O,O,O,O,O,O,O,O,O,O,O,O,O,O] rfl rfl (any_of HT_.out (by kernel_rfl)) (fun _ _ _ h=>h) (Or.inl ⟨by rfl,?_⟩) ?_ ?_
           rotate_left
           ·intro w'
            go_simp
            with_reducible rfl
           rotate_left
           ·simp only [Act.put,sA,sZ,sS,i64_w,i32_w]
            rfl
           refine take_ (i:=4) (N:=some 67) (v:=?_) (a':=?_) #[I,I,I,I,I,I,O,I,O,O,O,O,O,O,O,O,O,O,O,O,O,O,O,O,O,O,O,O,O,O,O,O,O,O] rfl rfl (take_ofW HT_.out HW_.out (by kernel_rfl)) (fun _ _ _ h=>h) (Or.inl ⟨by rfl,?_⟩) hHeld ?_ ?_
           rotate_left
           ·rintro w' ⟨s0,s1,s2,s3⟩
            go_simp
            with_reducible rfl
           rotate_left
           ·simp only [Act.put,sA,sZ,sS,i64_w,i32_w]
            rfl
           refine one_ (i:=6) (N:=some 69) #[I,I,I,I,I,I,I,I,O,O,O,O,O,O,O,O,O,O,O,O,O,O,O,O,O,O,O,O,O,O,O,O,O,O] rfl rfl (one_of HT_.out (by kernel_rfl)) (by decide) (fun K hK=>?_)
           refine goes_ Try.func35 (by kernel_rfl) rfl #[.int .i64 t101,.agg #[.int .i64 t113,.slice Ao42 t114.length co42],.int .i64 t106] (by rfl) rfl rfl (by (try simp only [mT,mC,mN]);first|done|rfl|(simp only [lD,lT];rfl)) ?_
           with_reducible refine (impl_MaySay.calls kj6 t101 t113 _ _ t114 t106 t124 _ ?side1 ?side2 A28.out).mono ?_
           (case side1=>repeat (first|exact (rR HO116.out).2.2|(with_reducible refine cA ?_ _)|(with_reducible refine cN ?_ _)|(with_reducible refine cD ?_)))
           (case side2=>exact (rR HO116.out).2.1)
           rintro e w53 ⟨rfl,hb⟩
           refine ⟨_,rfl,?_⟩
           have n0_:=mA (rB (by (with_reducible repeat (first|apply rA|apply rN|apply rD));exact HO_108001.out) hb)
           have n1_:=mA (rB (by (with_reducible repeat (first|apply rA|apply rN|apply rD));exact HO116.out) hb)
           have n2_:=mA (rB (by (with_reducible repeat (first|apply rA|apply rN|apply rD));exact HO122.out) hb)
           have n3_:=mA (blk_below (g:=gb107) (o:=.cells #[.int .i64 t102,.slice Ao11 t103.length co11] 36 (0,0)) (by (with_reducible repeat (first|refine kN ?_ _|refine kD ?_|refine kA ?_ _));exact BK107.out) hb)
           have n4_:=mA (blk_below (g:=gb118) (o:=.cells #[.int .i64 t113,.slice Ao42 t114.length co42] 36 (0,0)) (by (with_reducible repeat (first|refine kN ?_ _|refine kD ?_|refine kA ?_ _));exact BK118.out) hb)
           have n5_:=mA (blk_below (g:=gb123) (o:=.cells #[.int .i64 t102,.slice Ao46 t119.length co46] 36 (0,0)) (by (with_reducible repeat (first|refine kN ?_ _|refine kD ?_|refine kA ?_ _));exact BK123.out) hb)
           have n6_:=mA (bT (by repeat (first|(with_reducible first|exact HB.out|apply bA|apply bN|apply bD|refine bS ?_ GE107.out|refine bS ?_ GE118.out|refine bS ?_ GE123.out)|exact HB.out)) hb)
           clear HO_108001
           clear HO116
           clear HO122
           clear BK107
           clear BK118
           clear BK123
           clear HB
           have HO_108001:=n0_
           have HO116:=n1_
           have HO122:=n2_
           have BK107:=n3_
           have BK118:=n4_
           have BK123:=n5_
           have HB:=n6_
           clear n0_ n1_ n2_ n3_ n4_ n5_ n6_
           (try clear hb)
           (try clear hb2)
           (try clear hk)
           (try clear hi)
           refine hK.out _ _ ⟨(kC BK118.out 0).trans rfl,(kC BK118.out 1).trans rfl,(kC BK123.out 0).trans rfl,(kC BK123.out 1).trans rfl⟩ (fun hHeld=>?_)
           clear hK K
           refine norm_ (a':=?_) ?_ ?_
           rotate_left
           ·show Act.put _ (some 69) _=_
            simp only [Act.put,sA,sZ,sS,i64_w,i32_w]
            rfl
           refine pure_ (i:=8) (N:=some 71) (v:=?_) (a':=?_) #[I,I,I,I,I,I,I,I,I,O,O,O,O,O,O,O,O,O,O,O,O,O,O,O,O,O,O,O,O,O,O,O,O,O] rfl rfl (any_of HT_.out (by kernel_rfl)) (fun _ _ _ h=>h) (Or.inl ⟨by rfl,?_⟩) ?_ ?_
           rotate_left
           ·intro w'
            go_simp
            with_reducible rfl
           rotate_left
           ·simp only [Act.put,sA,sZ,sS,i64_w,i32_w]
            rfl
           refine pure_ (i:=9) (N:=some 72) (v:=?_) (a':=?_) #[I,I,I,I,I,I,I,I,I,I,O,O,O,O,O,O,O,O,O,O,O,O,O,O,O,O,O,O,O,O,O,O,O,O] rfl rfl (any_of HT_.out (by kernel_rfl)) (fun _ _ _ h=>h) (Or.inl ⟨by rfl,?_⟩) ?_ ?_
           rotate_left
           ·intro w'
            go_simp
            with_reducible rfl
           rotate_left
           ·simp only [Act.put,sA,sZ,sS,i64_w,i32_w]
            rfl
           refine pure_ (i:=10) (N:=some 73) (v:=?_) (a':=?_) #[I,I,I,I,I,I,I,I,I,I,I,O,O,O,O,O,O,O,O,O,O,O,O,O,O,O,O,O,O,O,O,O,O,O] rfl rfl (any_of HT_.out (by kernel_rfl)) (fun _ _ _ h=>h) (Or.inl ⟨by rfl,?_⟩) ?_ ?_
           rotate_left
           ·intro w'
            go_simp
            with_reducible rfl
           rotate_left
           ·simp only [Act.put,sA,sZ,sS,i64_w,i32_w]
            rfl
           refine pure_ (i:=11) (N:=some 74) (v:=?_) (a':=?_) #[I,I,I,I,I,I,I,I,I,I,I,I,O,O,O,O,O,O,O,O,O,O,O,O,O,O,O,O,O,O,O,O,O,O] rfl rfl (any_of HT_.out (by kernel_rfl)) (fun _ _ _ h=>h) (Or.inl ⟨by rfl,?_⟩) ?_ ?_
           rotate_left
           ·intro w'
            go_simp
            with_reducible rfl
           rotate_left
           ·simp only [Act.put,sA,sZ,sS,i64_w,i32_w]
            rfl
           refine pure_ (i:=12) (N:=some 75) (v:=?_) (a':=?_) #[I,I,I,I,I,I,I,I,I,I,I,I,I,O,O,O,O,O,O,O,O,O,O,O,O,O,O,O,O,O,O,O,O,O] rfl rfl (any_of HT_.out (by kernel_rfl)) (fun _ _ _ h=>h) (Or.inl ⟨by rfl,?_⟩) ?_ ?_
           rotate_left
           ·intro w'
            go_simp
            with_reducible rfl
           rotate_left
           ·simp only [Act.put,sA,sZ,sS,i64_w,i32_w]
            rfl
           refine pure_ (i:=13) (N:=some 76) (v:=?_) (a':=?_) #[I,I,I,I,I,I,I,I,I,I,I,I,I,I,O,O,O,O,O,O,O,O,O,O,O,O,O,O,O,O,O,O,O,O] rfl rfl (any_of HT_.out (by kernel_rfl)) (fun _ _ _ h=>h) (Or.inl ⟨by rfl,?_⟩) ?_ ?_
           rotate_left
           ·intro w'
            go_simp
            with_reducible rfl
           rotate_left
           ·simp only [Act.put,sA,sZ,sS,i64_w,i32_w]
            rfl
           refine pure_ (i:=14) (N:=some 77) (v:=?_) (a':=?_) #[I,I,I,I,I,I,I,I,I,I,I,I,I,I,I,O,O,O,O,O,O,O,O,O,O,O,O,O,O,O,O,O,O,O] rfl rfl (any_of HT_.out (by kernel_rfl)) (fun _ _ _ h=>h) (Or.inl ⟨by rfl,?_⟩) ?_ ?_
           rotate_left
           ·intro w'
            go_simp
            with_reducible rfl
           rotate_left
           ·simp only [Act.put,sA,sZ,sS,i64_w,i32_w]
            rfl
           refine take_ (i:=15) (N:=some 78) (v:=?_) (a':=?_) #[I,I,I,I,I,I,I,I,I,I,I,I,I,I,I,I,O,O,O,O,O,O,O,O,O,O,O,O,O,O,O,O,O,O] rfl rfl (take_ofW HT_.out HW_.out (by kernel_rfl)) (fun _ _ _ h=>h) (Or.inl ⟨by rfl,?_⟩) hHeld ?_ ?_
           rotate_left
           ·rintro w' ⟨s0,s1,s2,s3⟩
            go_simp
            with_reducible rfl
           rotate_left
           ·simp only [Act.put,sA,sZ,sS,i64_w,i32_w]
            rfl
           refine one_ (i:=16) (N:=some 79) #[I,I,I,I,I,I,I,I,I,I,I,I,I,I,I,I,I,O,O,O,O,O,O,O,O,O,O,O,O,O,O,O,O,O] rfl rfl (one_of HT_.out (by kernel_rfl)) (by decide) (fun K hK=>?_)
           refine goes_ Try.func37 (by kernel_rfl) rfl #[.int .i64 t101,.agg #[.int .i64 t102,.slice Ao46 t119.length co46]] (by rfl) rfl rfl (by (try simp only [mT,mC,mN]);first|done|rfl|(simp only [lD,lT];rfl)) ?_
           with_reducible refine (spec_ClaimOk.calls kj6 t101 t102 _ _ t119 true _ ?side1 ?side2 A31.out).mono ?_
           (case side1=>repeat (first|exact (rR HO122.out).2.2|(with_reducible refine cA ?_ _)|(with_reducible refine cN ?_ _)|(with_reducible refine cD ?_)))
           (case side2=>exact (rR HO122.out).2.1)
           rintro e w54 ⟨rfl,hb⟩
           refine ⟨_,rfl,?_⟩
           have n0_:=mA (rB (by (with_reducible repeat (first|apply rA|apply rN|apply rD));exact HO_108001.out) hb)
           have n1_:=mA (rB (by (with_reducible repeat (first|apply rA|apply rN|apply rD));exact HO116.out) hb)
           have n2_:=mA (rB (by (with_reducible repeat (first|apply rA|apply rN|apply rD));exact HO122.out) hb)
           have n3_:=mA (blk_below (g:=gb107) (o:=.cells #[.int .i64 t102,.slice Ao11 t103.length co11] 36 (0,0)) (by (with_reducible repeat (first|refine kN ?_ _|refine kD ?_|refine kA ?_ _));exact BK107.out) hb)
           have n4_:=mA (blk_below (g:=gb118) (o:=.cells #[.int .i64 t113,.slice Ao42 t114.length co42] 36 (0,0)) (by (with_reducible repeat (first|refine kN ?_ _|refine kD ?_|refine kA ?_ _));exact BK118.out) hb)
           have n5_:=mA (blk_below (g:=gb123) (o:=.cells #[.int .i64 t102,.slice Ao46 t119.length co46] 36 (0,0)) (by (with_reducible repeat (first|refine kN ?_ _|refine kD ?_|refine kA ?_ _));exact BK123.out) hb)
           have n6_:=mA (bT (by repeat (first|(with_reducible first|exact HB.out|apply bA|apply bN|apply bD|refine bS ?_ GE107.out|refine bS ?_ GE118.out|refine bS ?_ GE123.out)|exact HB.out)) hb)
           clear HO_108001
           clear HO116
           clear HO122
           clear BK107
           clear BK118
           clear BK123
           clear HB
           have HO_108001:=n0_
           have HO116:=n1_
           have HO122:=n2_
           have BK107:=n3_
           have BK118:=n4_
           have BK123:=n5_
           have HB:=n6_
           clear n0_ n1_ n2_ n3_ n4_ n5_ n6_
           (try clear hb)
           (try clear hb2)
           (try clear hk)
           (try clear hi)
           refine hK.out _ _ ⟨(kC BK118.out 0).trans rfl,(kC BK118.out 1).trans rfl,(kC BK123.out 0).trans rfl,(kC BK123.out 1).trans rfl⟩ (fun hHeld=>?_)
           clear hK K
           refine norm_ (a':=?_) ?_ ?_
           rotate_left
           ·show Act.put _ (some 79) _=_
            simp only [Act.put,sA,sZ,sS,i64_w,i32_w]
            rfl
           refine pure_ (i:=17) (N:=some 80) (v:=?_) (a':=?_) #[I,I,I,I,I,I,I,I,I,I,I,I,I,I,I,I,I,I,O,O,O,O,O,O,O,O,O,O,O,O,O,O,O,O] rfl rfl (any_of HT_.out (by kernel_rfl)) (fun _ _ _ h=>h) (Or.inl ⟨by rfl,?_⟩) ?_ ?_
           rotate_left
           ·intro w'
            go_simp
            with_reducible rfl
           rotate_left
           ·simp only [Act.put,sA,sZ,sS,i64_w,i32_w]
            rfl
           refine pure_ (i:=18) (N:=some 81) (v:=?_) (a':=?_) #[I,I,I,I,I,I,I,I,I,I,I,I,I,I,I,I,I,I,I,O,O,O,O,O,O,O,O,O,O,O,O,O,O,O] rfl rfl (any_of HT_.out (by kernel_rfl)) (fun _ _ _ h=>h) (Or.inl ⟨by rfl,?_⟩) ?_ ?_
           rotate_left
           ·intro w'
            go_simp
            with_reducible rfl
           rotate_left
           ·simp only [Act.put,sA,sZ,sS,i64_w,i32_w]
            rfl
           refine pure_ (i:=19) (N:=some 82) (v:=?_) (a':=?_) #[I,I,I,I,I,I,I,I,I,I,I,I,I,I,I,I,I,I,I,I,O,O,O,O,O,O,O,O,O,O,O,O,O,O] rfl rfl (any_of HT_.out (by kernel_rfl)) (fun _ _ _ h=>h) (Or.inl ⟨by rfl,?_⟩) ?_ ?_
           rotate_left
           ·intro w'
            go_simp
            with_reducible rfl
           rotate_left
           ·simp only [Act.put,sA,sZ,sS,i64_w,i32_w]
            rfl
           refine pure_ (i:=20) (N:=some 83) (v:=?_) (a':=?_) #[I,I,I,I,I,I,I,I,I,I,I,I,I,I,I,I,I,I,I,I,I,O,O,O,O,O,O,O,O,O,O,O,O,O] rfl rfl (any_of HT_.out (by kernel_rfl)) (fun _ _ _ h=>h) (Or.inl ⟨by rfl,?_⟩) ?_ ?_
           rotate_left
           ·intro w'
            go_simp
            with_reducible rfl
           rotate_left
           ·simp only [Act.put,sA,sZ,sS,i64_w,i32_w]
            rfl
           refine pure_ (i:=22) (N:=some 85) (v:=?_) (a':=?_) #[I,I,I,I,I,I,I,I,I,I,I,I,I,I,I,I,I,I,I,I,I,O,I,O,O,O,O,O,O,O,O,O,O,O] rfl rfl (any_of HT_.out (by kernel_rfl)) (fun _ _ _ h=>h) (Or.inl ⟨by rfl,?_⟩) ?_ ?_
           rotate_left
           ·intro w'
            go_simp
            with_reducible rfl
           rotate_left
           ·simp only [Act.put,sA,sZ,sS,i64_w,i32_w]
            rfl
           refine pure_ (i:=23) (N:=some 86) (v:=?_) (a':=?_) #[I,I,I,I,I,I,I,I,I,I,I,I,I,I,I,I,I,I,I,I,I,O,I,I,O,O,O,O,O,O,O,O,O,O] rfl rfl (any_of HT_.out (by kernel_rfl)) (fun _ _ _ h=>h) (Or.inl ⟨by rfl,?_⟩) ?_ ?_
           rotate_left
           ·intro w'
            go_simp
            with_reducible rfl
           rotate_left
           ·simp only [Act.put,sA,sZ,sS,i64_w,i32_w]
            rfl
           refine pure_ (i:=26) (N:=some 89) (v:=?_) (a':=?_) #[I,I,I,I,I,I,I,I,I,I,I,I,I,I,I,I,I,I,I,I,I,O,I,I,O,O,I,O,O,O,O,O,O,O] rfl rfl (any_of HT_.out (by kernel_rfl)) (fun _ _ _ h=>h) (Or.inl ⟨by rfl,?_⟩) ?_ ?_
           rotate_left
           ·intro w'
            go_simp
            with_reducible rfl
           rotate_left
           ·simp only [Act.put,sA,sZ,sS,i64_w,i32_w]
            rfl
           refine take_ (i:=21) (N:=some 84) (v:=?_) (a':=?_) #[I,I,I,I,I,I,I,I,I,I,I,I,I,I,I,I,I,I,I,I,I,I,I,I,O,O,I,O,O,O,O,O,O,O] rfl rfl (take_ofW HT_.out HW_.out (by kernel_rfl)) (fun _ _ _ h=>h) (Or.inl ⟨by rfl,?_⟩) hHeld ?_ ?_
           rotate_left
           ·rintro w' ⟨s0,s1,s2,s3⟩
            go_simp
            with_reducible rfl
           rotate_left
           ·simp only [Act.put,sA,sZ,sS,i64_w,i32_w]
            rfl
           refine one_ (i:=24) (N:=some 87) #[I,I,I,I,I,I,I,I,I,I,I,I,I,I,I,I,I,I,I,I,I,I,I,I,I,O,I,O,O,O,O,O,O,O] rfl rfl (one_of HT_.out (by kernel_rfl)) (by decide) (fun K hK=>?_)
           refine goes_ Try.func41 (by kernel_rfl) rfl #[.int .i64 t101,.int .i64 t106] (by rfl) rfl rfl (by (try simp only [mT,mC,mN]);first|done|rfl|(simp only [lD,lT];rfl)) ?_
           with_reducible refine (impl_OppositeWorld.calls t101 t106 t126 _ A33.out).mono ?_
           rintro e w' ⟨rfl,⟨nd,rfl⟩⟩
           refine ⟨_,rfl,?_⟩
           refine hK.out _ _ ⟨(kC BK118.out 0).trans rfl,(kC BK118.out 1).trans rfl,(kC BK123.out 0).trans rfl,(kC BK123.out 1).trans rfl⟩ (fun hHeld=>?_)
           clear hK K
           refine norm_ (a':=?_) ?_ ?_
           rotate_left
           ·show Act.put _ (some 87) _=_
            simp only [Act.put,sA,sZ,sS,i64_w,i32_w]
            rfl
           refine one_ (i:=25) (N:=some 88) #[I,I,I,I,I,I,I,I,I,I,I,I,I,I,I,I,I,I,I,I,I,I,I,I,I,I,I,O,O,O,O,O,O,O] rfl rfl (one_of HT_.out (by kernel_rfl)) (by decide) (fun K hK=>?_)
           refine goes_ Try.func35 (by kernel_rfl) rfl #[.int .i64 t101,.agg #[.int .i64 t102,.slice Ao46 t119.length co46],.int .i64 t126] (by rfl) rfl rfl (by (try simp only [mT,mC,mN]);first|done|rfl|(simp only [lD,lT];rfl)) ?_
           with_reducible refine (impl_MaySay.calls kj6 t101 t102 _ _ t119 t126 t127 _ ?side1 ?side2 A34.out).mono ?_
           (case side1=>repeat (first|exact (rR HO122.out).2.2|(with_reducible refine cA ?_ _)|(with_reducible refine cN ?_ _)|(with_reducible refine cD ?_)))
           (case side2=>exact (rR HO122.out).2.1)
           rintro e w55 ⟨rfl,hb⟩
           refine ⟨_,rfl,?_⟩
           have n0_:=mA (rB (by (with_reducible repeat (first|apply rA|apply rN|apply rD));exact HO_108001.out) hb)
           have n1_:=mA (rB (by (with_reducible repeat (first|apply rA|apply rN|apply rD));exact HO116.out) hb)
           have n2_:=mA (rB (by (with_reducible repeat (first|apply rA|apply rN|apply rD));exact HO122.out) hb)
           have n3_:=mA (blk_below (g:=gb107) (o:=.cells #[.int .i64 t102,.slice Ao11 t103.length co11] 36 (0,0)) (by (with_reducible repeat (first|refine kN ?_ _|refine kD ?_|refine kA ?_ _));exact BK107.out) hb)
           have n4_:=mA (blk_below (g:=gb118) (o:=.cells #[.int .i64 t113,.slice Ao42 t114.length co42] 36 (0,0)) (by (with_reducible repeat (first|refine kN ?_ _|refine kD ?_|refine kA ?_ _));exact BK118.out) hb)
           have n5_:=mA (blk_below (g:=gb123) (o:=.cells #[.int .i64 t102,.slice Ao46 t119.length co46] 36 (0,0)) (by (with_reducible repeat (first|refine kN ?_ _|refine kD ?_|refine kA ?_ _));exact BK123.out) hb)
           have n6_:=mA (bT (by repeat (first|(with_reducible first|exact HB.out|apply bA|apply bN|apply bD|refine bS ?_ GE107.out|refine bS ?_ GE118.out|refine bS ?_ GE123.out)|exact HB.out)) hb)
           clear HO_108001
           clear HO116
           clear HO122
           clear BK107
           clear BK118
           clear BK123
           clear HB
           have HO_108001:=n0_
           have HO116:=n1_
           have HO122:=n2_
           have BK107:=n3_
           have BK118:=n4_
           have BK123:=n5_
           have HB:=n6_
           clear n0_ n1_ n2_ n3_ n4_ n5_ n6_
           (try clear hb)
           (try clear hb2)
           (try clear hk)
           (try clear hi)
           refine hK.out _ _ ⟨(kC BK118.out 0).trans rfl,(kC BK118.out 1).trans rfl,(kC BK123.out 0).trans rfl,(kC BK123.out 1).trans rfl⟩ (fun hHeld=>?_)
           clear hK K
           refine norm_ (a':=?_) ?_ ?_
           rotate_left
           ·show Act.put _ (some 88) _=_
            simp only [Act.put,sA,sZ,sS,i64_w,i32_w]
            rfl
           refine pure_ (i:=27) (N:=some 90) (v:=?_) (a':=?_) #[I,I,I,I,I,I,I,I,I,I,I,I,I,I,I,I,I,I,I,I,I,I,I,I,I,I,I,I,O,O,O,O,O,O] rfl rfl (any_of HT_.out (by kernel_rfl)) (fun _ _ _ h=>h) (Or.inl ⟨by rfl,?_⟩) ?_ ?_
           rotate_left
           ·intro w'
            go_simp
            with_reducible rfl
           rotate_left
           ·simp only [Act.put,sA,sZ,sS,i64_w,i32_w]
            rfl
           refine pure_ (i:=28) (N:=some 91) (v:=?_) (a':=?_) #[I,I,I,I,I,I,I,I,I,I,I,I,I,I,I,I,I,I,I,I,I,I,I,I,I,I,I,I,I,O,O,O,O,O] rfl rfl (any_of HT_.out (by kernel_rfl)) (fun _ _ _ h=>h) (Or.inl ⟨by rfl,?_⟩) ?_ ?_
           rotate_left
           ·intro w'
            go_simp
            with_reducible rfl
           rotate_left
           ·simp only [Act.put,sA,sZ,sS,i64_w,i32_w]
            rfl
           refine pure_ (i:=29) (N:=some 92) (v:=?_) (a':=?_) #[I,I,I,I,I,I,I,I,I,I,I,I,I,I,I,I,I,I,I,I,I,I,I,I,I,I,I,I,I,I,O,O,O,O] rfl rfl (any_of HT_.out (by kernel_rfl)) (fun _ _ _ h=>h) (Or.inl ⟨by rfl,?_⟩) ?_ ?_
           rotate_left
           ·intro w'
            go_simp
            with_reducible rfl
           rotate_left
           ·simp only [Act.put,sA,sZ,sS,i64_w,i32_w]
            rfl
           refine pure_ (i:=30) (N:=some 93) (v:=?_) (a':=?_) #[I,I,I,I,I,I,I,I,I,I,I,I,I,I,I,I,I,I,I,I,I,I,I,I,I,I,I,I,I,I,I,O,O,O] rfl rfl (any_of HT_.out (by kernel_rfl)) (fun _ _ _ h=>h) (Or.inl ⟨by rfl,?_⟩) ?_ ?_
           rotate_left
           ·intro w'
            go_simp
            with_reducible rfl
           rotate_left
           ·simp only [Act.put,sA,sZ,sS,i64_w,i32_w]
            rfl
           refine one_ (i:=31) (N:=some 94) #[I,I,I,I,I,I,I,I,I,I,I,I,I,I,I,I,I,I,I,I,I,I,I,I,I,I,I,I,I,I,I,I,O,O] rfl rfl (one_of HT_.out (by kernel_rfl)) (by decide) (fun K hK=>?_)
           refine goes_ Try.func26 (by kernel_rfl) rfl #[] (by rfl) rfl rfl (by (try simp only [mT,mC,mN]);first|done|rfl|(simp only [lD,lT];rfl)) ?_
           with_reducible refine (laws_alive.calls  t128 _ A36.out).mono ?_
           rintro e w' ⟨rfl,⟨nd,rfl⟩⟩
           refine ⟨_,rfl,?_⟩
           refine hK.out _ _ ⟨(kC BK118.out 0).trans rfl,(kC BK118.out 1).trans rfl,(kC BK123.out 0).trans rfl,(kC BK123.out 1).trans rfl⟩ (fun hHeld=>?_)
           clear hK K
           refine norm_ (a':=?_) ?_ ?_
           rotate_left
           ·show Act.put _ (some 94) _=_
            simp only [Act.put,sA,sZ,sS,i64_w,i32_w]
            rfl
           refine pure_ (i:=32) (N:=some 95) (v:=?_) (a':=?_) #[I,I,I,I,I,I,I,I,I,I,I,I,I,I,I,I,I,I,I,I,I,I,I,I,I,I,I,I,I,I,I,I,I,O] rfl rfl (any_of HT_.out (by kernel_rfl)) (fun _ _ _ h=>h) (Or.inl ⟨by rfl,?_⟩) ?_ ?_
           rotate_left
           ·intro w'
            go_simp
            with_reducible rfl
           rotate_left
           ·simp only [Act.put,sA,sZ,sS,i64_w,i32_w]
            rfl
           refine pure_ (i:=33) (N:=some 2) (v:=?_) (a':=?_) #[I,I,I,I,I,I,I,I,I,I,I,I,I,I,I,I,I,I,I,I,I,I,I,I,I,I,I,I,I,I,I,I,I,I] rfl rfl (any_of HT_.out (by kernel_rfl)) (fun _ _ _ h=>h) (Or.inl ⟨by rfl,?_⟩) ?_ ?_
           rotate_left
           ·intro w'
            go_simp
            with_reducible rfl
           rotate_left
           ·simp only [Act.put,sA,sZ,sS,i64_w,i32_w]
            rfl
           refine done_ (done_of HT_.out (by kernel_rfl)) ?_
           try go_wp2
           go_ret
           exact ⟨by first|rfl|(simp [errW_none,errW_some]<;>rfl)|(simp [*, errW_none,errW_some]<;>rfl),by repeat (first|(with_reducible first|exact HB.out|apply bA|apply bN|apply bD|refine bS ?_ GE107.out|refine bS ?_ GE118.out|refine bS ?_ GE123.out)|exact HB.out)⟩
          ·rw [if_neg c35] at H
           have c35b0:(t127 != t108)=false:=by simpa using c35
           (try (have c35b1:decide (t127=t108)=true:=by simpa using c35))
           (try (have c35b2:(t127==t108)=true:=by simpa using c35))
           clear c35
           exact absurd ((Option.some.inj H).trans hr_.out) (by decide)
         ·replace c32:=Bool.eq_false_iff.mpr c32
          subst c32
          have H1:((laws_alive.f).bind fun t129=>(some t129))=some r:=by rw [if_neg (show ¬ (false=true) by decide)] at H;exact H
          clear H
          have H:=H1
          clear H1
          replace H:=Option.bind_eq_some_iff.mp H
          obtain ⟨t129,A560,H⟩:=H
          replace H:(some t129)=some r:=H
          have A56:=mA A560
          clear A560
          obtain rfl:=Option.some.inj H
          have hcz57_0:wc.cell? ⟨gb107,0,none⟩=some (.int .i64 t102):=(kC BK107.out 0).trans rfl
          have hcz57_1:wc.cell? ⟨gb107,1,none⟩=some (.slice Ao11 t103.length co11):=(kC BK107.out 1).trans rfl
          have hfz57_0:=kF BK107.out 0
          have hfz57_1:=kF BK107.out 1
          try go_wp2_with (first|((with_reducible refine gate_callee (f:=39) rfl ?_);refine goesL_ (some 49) rfl rfl Try.func39 (by kernel_rfl) rfl #[.int .i64 t101,.agg #[.int .i64 t102,.slice Ao11 t103.length co11]] rfl (by (try simp only [mT,mC,mN]);first|done|rfl|(simp only [lD,lT];rfl)) ?_;(with_reducible refine (impl_DenyClaim.calls kj6 t101 t102 _ _ t103 t113 t114 true _ ?side1 ?side2 A25.out).mono ?_);(case side1=>repeat (first|exact (rR HO_108001.out).2.2|(with_reducible refine cA ?_ _)|(with_reducible refine cN ?_ _)|(with_reducible refine cD ?_)));(case side2=>exact (rR HO_108001.out).2.1);rintro e w58 ⟨v115,rfl,ho0,hb⟩;refine ⟨_,rfl,?_⟩;have n0_:=mA (Kd.R_elder' (by (with_reducible repeat (first|apply rA|apply rN|apply rD));exact HO_108001.out) (Kd.R_base ho0) hb);have n1_:=mA (Kd.R_lower (Kd.R_new' ho0 (rL (by (with_reducible repeat (first|apply rA|apply rN|apply rD));exact HO_108001.out))) (bZ (by repeat (first|(with_reducible first|exact HB.out|apply bA|apply bN|apply bD|refine bS ?_ GE107.out)|exact HB.out))));have n2_:=mA (blk_below (g:=gb107) (o:=.cells #[.int .i64 t102,.slice Ao11 t103.length co11] 36 (0,0)) (by (with_reducible repeat (first|refine kN ?_ _|refine kD ?_|refine kA ?_ _));exact BK107.out) hb);have n3_:=mA (bT (by repeat (first|(with_reducible first|exact HB.out|apply bA|apply bN|apply bD|refine bS ?_ GE107.out)|exact HB.out)) hb);clear HO_108001 BK107 HB;have HO_108001:=n0_;have HO116:=n1_;have BK107:=n2_;have HB:=n3_;clear n0_ n1_ n2_ n3_;(try clear hb);(try clear hb2);(try clear hk);(try clear hi);(try clear ho0))|((with_reducible refine gate_dst (N:=7) rfl ?_);refine box_event ?hg (N:=7) ?hd (cs:=#[.int .i64 0,.slice none 0 0]) (t:=36) ?hr ?_;(case hd=>rfl);(case hg=>rfl);(case hr=>first|(go_simp;done)|(go_simp;rfl));intro gb118 hg w59 hbox hb;have n0_:=mA (rB (by (with_reducible repeat (first|apply rA|apply rN|apply rD));exact HO_108001.out) hb);have n1_:=mA (rB (by (with_reducible repeat (first|apply rA|apply rN|apply rD));exact HO116.out) hb);have n2_:=mA (blk_below (g:=gb107) (o:=.cells #[.int .i64 t102,.slice Ao11 t103.length co11] 36 (0,0)) (by (with_reducible repeat (first|refine kN ?_ _|refine kD ?_|refine kA ?_ _));exact BK107.out) hb);have n3_:=mA (bT (by repeat (first|(with_reducible first|exact HB.out|apply bA|apply bN|apply bD|refine bS ?_ GE107.out)|exact HB.out)) hb);have n4_:=mA (hbox);have n5_:=mA ((by rw [hg];exact (bZ (by repeat (first|(with_reducible first|exact HB.out|apply bA|apply bN|apply bD|refine bS ?_ GE107.out)|exact HB.out))):w.heap.size≤gb118));have n6_:=mA ((by rw [hg];exact (bZ (by repeat (first|(with_reducible first|exact HB.out|apply bA|apply bN|apply bD|refine bS ?_ GE107.out)|exact HB.out))):w.heap.size≤gb118));have n7_:=mA ((by rw [hg];exact Nat.ne_of_lt (blk_lt (g:=gb107) (o:=.cells #[.int .i64 t102,.slice Ao11 t103.length co11] 36 (0,0)) (by (with_reducible repeat (first|refine kN ?_ _|refine kD ?_|refine kA ?_ _));exact BK107.out)):gb107≠gb118));have n8_:=mA ((by rw [hg];exact Nat.ne_of_gt (blk_lt (g:=gb107) (o:=.cells #[.int .i64 t102,.slice Ao11 t103.length co11] 36 (0,0)) (by (with_reducible repeat (first|refine kN ?_ _|refine kD ?_|refine kA ?_ _));exact BK107.out)):gb118≠gb107));clear HO_108001 HO116 BK107 HB;have HO_108001:=n0_;have HO116:=n1_;have BK107:=n2_;have HB:=n3_;have BK118:=n4_;have GW118:=n5_;have GE118:=n6_;have NB107_118:=n7_;have NB118_107:=n8_;clear n0_ n1_ n2_ n3_ n4_ n5_ n6_ n7_ n8_ hb hbox hg;have hnb60:=NB118_107.out;have hnc60:=NB107_118.out;have hcz61_0:w59.cell? ⟨gb118,0,none⟩=some (.int .i64 0):=(kC BK118.out 0).trans rfl;have hcz61_1:w59.cell? ⟨gb118,1,none⟩=some (.slice none 0 0):=(kC BK118.out 1).trans rfl;have hfz61_0:=kF BK118.out 0;have hfz61_1:=kF BK118.out 1;obtain ⟨Ao62,co62,eo62⟩:=Kd.R_slice HO116.out;subst eo62;have hcz63_0:w59.cell? ⟨gb107,0,none⟩=some (.int .i64 t102):=(kC BK107.out 0).trans rfl;have hcz63_1:w59.cell? ⟨gb107,1,none⟩=some (.slice Ao11 t103.length co11):=(kC BK107.out 1).trans rfl;have hfz63_0:=kF BK107.out 0;have hfz63_1:=kF BK107.out 1)|((with_reducible refine gate_callee (f:=40) rfl ?_);refine goesL_ (some 56) rfl rfl Try.func40 (by kernel_rfl) rfl #[.int .i64 t101,.slice Ao11 t103.length co11] rfl (by (try simp only [mT,mC,mN]);first|done|rfl|(simp only [lD,lT];rfl)) ?_;(with_reducible refine (impl_MirrorTerm.calls kj6 t101 _ _ t103 t119 true _ ?side1 ?side2 A26.out).mono ?_);(case side1=>refine (rR (e:=33) (base:=w.heap.size) (ok:=fun k_=>(True∧some k_≠(.slice Ao62 t114.length co62:Value).ownBlock)) (n:=t103.length) (c:=co11) ?_).2.2;exact (by (with_reducible repeat (first|apply rA|apply rN|apply rD));exact (rM (rF (p:=⟨gb118,1,none⟩) (rF (p:=⟨gb118,0,none⟩) (Kd.R_types HO_108001.out BK118.out (by decide)) (fun _ hk=>hk.2) (.int .i64 t113)) (fun _ hk=>hk.2) (.slice Ao62 t114.length co62)) (fun _ h_=>h_.1))));(case side2=>exact (rR HO_108001.out).2.1);rintro e w64 ⟨v121,rfl,ho0,hb⟩;refine ⟨_,rfl,?_⟩;have n0_:=mA (Kd.R_elder' (by (with_reducible repeat (first|apply rA|apply rN|apply rD));exact (rM (rF (p:=⟨gb118,1,none⟩) (rF (p:=⟨gb118,0,none⟩) (Kd.R_types HO_108001.out BK118.out (by decide)) (fun _ hk=>hk.2) (.int .i64 t113)) (fun _ hk=>hk.2) (.slice Ao62 t114.length co62)) (fun _ h_=>h_.1))) (Kd.R_base ho0) hb);have n1_:=mA (Kd.R_elder' (by (with_reducible repeat (first|apply rA|apply rN|apply rD));exact (rM (rF (p:=⟨gb118,1,none⟩) (rF (p:=⟨gb118,0,none⟩) (Kd.R_types HO116.out BK118.out (by decide)) (fun _ hk=>hk.2) (.int .i64 t113)) (fun _ hk=>hk.2) (.slice Ao62 t114.length co62)) (fun _ h_=>h_.1))) (Kd.R_base ho0) hb);have n2_:=mA (Kd.R_lower (Kd.R_new' (Kd.R_new' ho0 (rL (by (with_reducible repeat (first|apply rA|apply rN|apply rD));exact (rM (rF (p:=⟨gb118,1,none⟩) (rF (p:=⟨gb118,0,none⟩) (Kd.R_types HO_108001.out BK118.out (by decide)) (fun _ hk=>hk.2) (.int .i64 t113)) (fun _ hk=>hk.2) (.slice Ao62 t114.length co62)) (fun _ h_=>h_.1))))) (rL (by (with_reducible repeat (first|apply rA|apply rN|apply rD));exact (rM (rF (p:=⟨gb118,1,none⟩) (rF (p:=⟨gb118,0,none⟩) (Kd.R_types HO116.out BK118.out (by decide)) (fun _ hk=>hk.2) (.int .i64 t113)) (fun _ hk=>hk.2) (.slice Ao62 t114.length co62)) (fun _ h_=>h_.1))))) (bZ (by repeat (first|(with_reducible first|exact HB.out|apply bA|apply bN|apply bD|refine bS ?_ GE107.out|refine bS ?_ GE118.out)|exact HB.out))));have n3_:=mA (blk_below (g:=gb107) (o:=.cells #[.int .i64 t102,.slice Ao11 t103.length co11] 36 (0,0)) (by (with_reducible repeat (first|refine kN ?_ _|refine kD ?_|refine kA ?_ _));refine blk_far ?_ NB107_118.out _;(with_reducible repeat (first|refine kN ?_ _|refine kD ?_|refine kA ?_ _));refine blk_far ?_ NB107_118.out _;(with_reducible repeat (first|refine kN ?_ _|refine kD ?_|refine kA ?_ _));exact BK107.out) hb);have n4_:=mA (blk_below (g:=gb118) (o:=.cells #[.int .i64 t113,.slice Ao62 t114.length co62] 36 (0,0)) (by (with_reducible repeat (first|refine kN ?_ _|refine kD ?_|refine kA ?_ _));refine blk_put (cs:=#[.int .i64 t113,.slice none 0 0]) ?_ 1 _ rfl;(with_reducible repeat (first|refine kN ?_ _|refine kD ?_|refine kA ?_ _));refine blk_put (cs:=#[.int .i64 0,.slice none 0 0]) ?_ 0 _ rfl;(with_reducible repeat (first|refine kN ?_ _|refine kD ?_|refine kA ?_ _));exact BK118.out) hb);have n5_:=mA (bT (by repeat (first|(with_reducible first|exact HB.out|apply bA|apply bN|apply bD|refine bS ?_ GE107.out|refine bS ?_ GE118.out)|exact HB.out)) hb);clear HO_108001 HO116 BK107 BK118 HB;have HO_108001:=n0_;have HO116:=n1_;have HO122:=n2_;have BK107:=n3_;have BK118:=n4_;have HB:=n5_;clear n0_ n1_ n2_ n3_ n4_ n5_;(try clear hb);(try clear hb2);(try clear hk);(try clear hi);(try clear ho0);have hcz65_0:w64.cell? ⟨gb107,0,none⟩=some (.int .i64 t102):=(kC BK107.out 0).trans rfl;have hcz65_1:w64.cell? ⟨gb107,1,none⟩=some (.slice Ao11 t103.length co11):=(kC BK107.out 1).trans rfl;have hfz65_0:=kF BK107.out 0;have hfz65_1:=kF BK107.out 1;obtain ⟨Ao66,co66,eo66⟩:=Kd.R_slice HO122.out;subst eo66)|((with_reducible refine gate_dst (N:=11) rfl ?_);refine box_event ?hg (N:=11) ?hd (cs:=#[.int .i64 0,.slice none 0 0]) (t:=36) ?hr ?_;(case hd=>rfl);(case hg=>rfl);(case hr=>first|(go_simp;done)|(go_simp;rfl));intro gb123 hg w67 hbox hb;have n0_:=mA (rB (by (with_reducible repeat (first|apply rA|apply rN|apply rD));exact HO_108001.out) hb);have n1_:=mA (rB (by (with_reducible repeat (first|apply rA|apply rN|apply rD));exact HO116.out) hb);have n2_:=mA (rB (by (with_reducible repeat (first|apply rA|apply rN|apply rD));exact HO122.out) hb);have n3_:=mA (blk_below (g:=gb107) (o:=.cells #[.int .i64 t102,.slice Ao11 t103.length co11] 36 (0,0)) (by (with_reducible repeat (first|refine kN ?_ _|refine kD ?_|refine kA ?_ _));exact BK107.out) hb);have n4_:=mA (blk_below (g:=gb118) (o:=.cells #[.int .i64 t113,.slice Ao62 t114.length co62] 36 (0,0)) (by (with_reducible repeat (first|refine kN ?_ _|refine kD ?_|refine kA ?_ _));exact BK118.out) hb);have n5_:=mA (bT (by repeat (first|(with_reducible first|exact HB.out|apply bA|apply bN|apply bD|refine bS ?_ GE107.out|refine bS ?_ GE118.out)|exact HB.out)) hb);have n6_:=mA (hbox);have n7_:=mA ((by rw [hg];exact (bZ (by repeat (first|(with_reducible first|exact HB.out|apply bA|apply bN|apply bD|refine bS ?_ GE107.out|refine bS ?_ GE118.out)|exact HB.out))):w.heap.size≤gb123));have n8_:=mA ((by rw [hg];exact (bZ (by repeat (first|(with_reducible first|exact HB.out|apply bA|apply bN|apply bD|refine bS ?_ GE107.out|refine bS ?_ GE118.out)|exact HB.out))):w.heap.size≤gb123));have n9_:=mA ((by rw [hg];exact Nat.ne_of_lt (blk_lt (g:=gb107) (o:=.cells #[.int .i64 t102,.slice Ao11 t103.length co11] 36 (0,0)) (by (with_reducible repeat (first|refine kN ?_ _|refine kD ?_|refine kA ?_ _));exact BK107.out)):gb107≠gb123));have n10_:=mA ((by rw [hg];exact Nat.ne_of_gt (blk_lt (g:=gb107) (o:=.cells #[.int .i64 t102,.slice Ao11 t103.length co11] 36 (0,0)) (by (with_reducible repeat (first|refine kN ?_ _|refine kD ?_|refine kA ?_ _));exact BK107.out)):gb123≠gb107));have n11_:=mA ((by rw [hg];exact Nat.ne_of_lt (blk_lt (g:=gb118) (o:=.cells #[.int .i64 t113,.slice Ao62 t114.length co62] 36 (0,0)) (by (with_reducible repeat (first|refine kN ?_ _|refine kD ?_|refine kA ?_ _));exact BK118.out)):gb118≠gb123));have n12_:=mA ((by rw [hg];exact Nat.ne_of_gt (blk_lt (g:=gb118) (o:=.cells #[.int .i64 t113,.slice Ao62 t114.length co62] 36 (0,0)) (by (with_reducible repeat (first|refine kN ?_ _|refine kD ?_|refine kA ?_ _));exact BK118.out)):gb123≠gb118));clear HO_108001 HO116 HO122 BK107 BK118 HB;have HO_108001:=n0_;have HO116:=n1_;have HO122:=n2_;have BK107:=n3_;have BK118:=n4_;have HB:=n5_;have BK123:=n6_;have GW123:=n7_;have GE123:=n8_;have NB107_123:=n9_;have NB123_107:=n10_;have NB118_123:=n11_;have NB123_118:=n12_;clear n0_ n1_ n2_ n3_ n4_ n5_ n6_ n7_ n8_ n9_ n10_ n11_ n12_ hb hbox hg;have hnb68:=NB123_107.out;have hnc68:=NB107_123.out;have hnb69:=NB123_118.out;have hnc69:=NB118_123.out;have hcz70_0:w67.cell? ⟨gb123,0,none⟩=some (.int .i64 0):=(kC BK123.out 0).trans rfl;have hcz70_1:w67.cell? ⟨gb123,1,none⟩=some (.slice none 0 0):=(kC BK123.out 1).trans rfl;have hfz70_0:=kF BK123.out 0;have hfz70_1:=kF BK123.out 1))
          have n0_:Aside0 (Kd.R k33 33 ((w67.setCell ⟨gb123,0,none⟩ (.int .i64 t102)).setCell ⟨gb123,1,none⟩ (.slice Ao66 t119.length co66)) w.heap.size (fun k_=>some k_≠(.slice Ao62 t114.length co62:Value).ownBlock∧some k_≠(.slice Ao66 t119.length co66:Value).ownBlock) (.slice Ao11 t103.length co11) t103):=⟨by (with_reducible repeat (first|apply rA|apply rN|apply rD));exact rM (rF (p:=⟨gb123,1,none⟩) (rF (p:=⟨gb123,0,none⟩) (Kd.R_types HO_108001.out BK123.out (by decide)) (fun _ hk=>hk.2) (.int .i64 t102)) (fun _ hk=>hk.2) (.slice Ao66 t119.length co66)) (fun _ hk=>⟨hk.1.1.2,hk.1.2⟩)⟩
          have n1_:Aside0 (Kd.R k33 33 ((w67.setCell ⟨gb123,0,none⟩ (.int .i64 t102)).setCell ⟨gb123,1,none⟩ (.slice Ao66 t119.length co66)) w.heap.size (fun k_=>some k_≠(.slice Ao11 t103.length co11:Value).ownBlock∧some k_≠(.slice Ao66 t119.length co66:Value).ownBlock) (.slice Ao62 t114.length co62) t114):=⟨by (with_reducible repeat (first|apply rA|apply rN|apply rD));exact rM (rF (p:=⟨gb123,1,none⟩) (rF (p:=⟨gb123,0,none⟩) (Kd.R_types HO116.out BK123.out (by decide)) (fun _ hk=>hk.2) (.int .i64 t102)) (fun _ hk=>hk.2) (.slice Ao66 t119.length co66)) (fun _ hk=>⟨hk.1.1.2,hk.1.2⟩)⟩
          have n2_:Aside0 (Kd.R k33 33 ((w67.setCell ⟨gb123,0,none⟩ (.int .i64 t102)).setCell ⟨gb123,1,none⟩ (.slice Ao66 t119.length co66)) w.heap.size (fun k_=>some k_≠(.slice Ao11 t103.length co11:Value).ownBlock∧some k_≠(.slice Ao62 t114.length co62:Value).ownBlock) (.slice Ao66 t119.length co66) t119):=⟨by (with_reducible repeat (first|apply rA|apply rN|apply rD));exact rM (rF (p:=⟨gb123,1,none⟩) (rF (p:=⟨gb123,0,none⟩) (Kd.R_types HO122.out BK123.out (by decide)) (fun _ hk=>hk.2) (.int .i64 t102)) (fun _ hk=>hk.2) (.slice Ao66 t119.length co66)) (fun _ hk=>⟨hk.1.1.2,hk.1.2⟩)⟩
          have n3_:Aside0 (((w67.setCell ⟨gb123,0,none⟩ (.int .i64 t102)).setCell ⟨gb123,1,none⟩ (.slice Ao66 t119.length co66)).heap[gb107]?=some (.cells #[.int .i64 t102,.slice Ao11 t103.length co11] 36 (0,0))):=⟨by (with_reducible repeat (first|refine kN ?_ _|refine kD ?_|refine kA ?_ _));refine blk_far ?_ NB107_123.out _;(with_reducible repeat (first|refine kN ?_ _|refine kD ?_|refine kA ?_ _));refine blk_far ?_ NB107_123.out _;(with_reducible repeat (first|refine kN ?_ _|refine kD ?_|refine kA ?_ _));exact BK107.out⟩
          have n4_:Aside0 (((w67.setCell ⟨gb123,0,none⟩ (.int .i64 t102)).setCell ⟨gb123,1,none⟩ (.slice Ao66 t119.length co66)).heap[gb118]?=some (.cells #[.int .i64 t113,.slice Ao62 t114.length co62] 36 (0,0))):=⟨by (with_reducible repeat (first|refine kN ?_ _|refine kD ?_|refine kA ?_ _));refine blk_far ?_ NB118_123.out _;(with_reducible repeat (first|refine kN ?_ _|refine kD ?_|refine kA ?_ _));refine blk_far ?_ NB118_123.out _;(with_reducible repeat (first|refine kN ?_ _|refine kD ?_|refine kA ?_ _));exact BK118.out⟩
          have n5_:Aside0 (((w67.setCell ⟨gb123,0,none⟩ (.int .i64 t102)).setCell ⟨gb123,1,none⟩ (.slice Ao66 t119.length co66)).heap[gb123]?=some (.cells #[.int .i64 t102,.slice Ao66 t119.length co66] 36 (0,0))):=⟨by (with_reducible repeat (first|refine kN ?_ _|refine kD ?_|refine kA ?_ _));refine blk_put (cs:=#[.int .i64 t102,.slice none 0 0]) ?_ 1 _ rfl;(with_reducible repeat (first|refine kN ?_ _|refine kD ?_|refine kA ?_ _));refine blk_put (cs:=#[.int .i64 0,.slice none 0 0]) ?_ 0 _ rfl;(with_reducible repeat (first|refine kN ?_ _|refine kD ?_|refine kA ?_ _));exact BK123.out⟩
          have n6_:Aside0 (Below w.heap.size w ((w67.setCell ⟨gb123,0,none⟩ (.int .i64 t102)).setCell ⟨gb123,1,none⟩ (.slice Ao66 t119.length co66))):=⟨by repeat (first|(with_reducible first|exact HB.out|apply bA|apply bN|apply bD|refine bS ?_ GE107.out|refine bS ?_ GE118.out|refine bS ?_ GE123.out)|exact HB.out)⟩
          (try clear HO_108001)
          (try clear HO116)
          (try clear HO122)
          (try clear BK107)
          (try clear BK118)
          (try clear BK123)
          (try clear HB)
          generalize ((w67.setCell ⟨gb123,0,none⟩ (.int .i64 t102)).setCell ⟨gb123,1,none⟩ (.slice Ao66 t119.length co66))=w71 at n0_ n1_ n2_ n3_ n4_ n5_ n6_ ⊢
          have HO_108001:=n0_
          have HO116:=n1_
          have HO122:=n2_
          have BK107:=n3_
          have BK118:=n4_
          have BK123:=n5_
          have HB:=n6_
          clear n0_ n1_ n2_ n3_ n4_ n5_ n6_
          have n0_:=mA (rD HO_108001.out)
          have n1_:=mA (rD HO116.out)
          have n2_:=mA (rD HO122.out)
          have n3_:=mA (kD BK107.out)
          have n4_:=mA (kD BK118.out)
          have n5_:=mA (kD BK123.out)
          have n6_:=mA (bD HB.out)
          clear HO_108001
          clear HO116
          clear HO122
          clear BK107
          clear BK118
          clear BK123
          clear HB
          have HO_108001:=n0_
          have HO116:=n1_
          have HO122:=n2_
          have BK107:=n3_
          have BK118:=n4_
          have BK123:=n5_
          have HB:=n6_
          clear n0_ n1_ n2_ n3_ n4_ n5_ n6_
          refine start_ (n:=34) (S:=fun w'=>w'.cell? ⟨gb118,0,none⟩=some (.int .i64 t113)∧w'.cell? ⟨gb118,1,none⟩=some (.slice Ao62 t114.length co62)∧w'.cell? ⟨gb123,0,none⟩=some (.int .i64 t102)∧w'.cell? ⟨gb123,1,none⟩=some (.slice Ao66 t119.length co66)) (ds:=[]) #[O,O,O,O,O,O,O,O,O,O,O,O,O,O,O,O,O,O,O,O,O,O,O,O,O,O,O,O,O,O,O,O,O,O] (by kernel_rfl) rfl rfl ⟨(kC BK118.out 0).trans rfl,(kC BK118.out 1).trans rfl,(kC BK123.out 0).trans rfl,(kC BK123.out 1).trans rfl⟩ (fun hHeld=>?_);refine with_tabW laws_FnMaySay.tab12 laws_FnMaySay.bits12 (fun HT_ HW_=>?_)
          generalize w71.drew=w72 at HO_108001 HO116 HO122 BK107 BK118 BK123 HB hHeld ⊢
          refine pure_ (i:=0) (N:=some 63) (v:=?_) (a':=?_) #[I,O,O,O,O,O,O,O,O,O,O,O,O,O,O,O,O,O,O,O,O,O,O,O,O,O,O,O,O,O,O,O,O,O] rfl rfl (any_of HT_.out (by kernel_rfl)) (fun _ _ _ h=>h) (Or.inl ⟨by rfl,?_⟩) ?_ ?_
          rotate_left
          ·intro w'
           go_simp
           with_reducible rfl
          rotate_left
          ·simp only [Act.put,sA,sZ,sS,i64_w,i32_w]
           rfl
          refine pure_ (i:=1) (N:=some 64) (v:=?_) (a':=?_) #[I,I,O,O,O,O,O,O,O,O,O,O,O,O,O,O,O,O,O,O,O,O,O,O,O,O,O,O,O,O,O,O,O,O] rfl rfl (any_of HT_.out (by kernel_rfl)) (fun _ _ _ h=>h) (Or.inl ⟨by rfl,?_⟩) ?_ ?_
          rotate_left
          ·intro w'
           go_simp
           with_reducible rfl
          rotate_left
          ·simp only [Act.put,sA,sZ,sS,i64_w,i32_w]
           rfl
          refine pure_ (i:=2) (N:=some 65) (v:=?_) (a':=?_) #[I,I,I,O,O,O,O,O,O,O,O,O,O,O,O,O,O,O,O,O,O,O,O,O,O,O,O,O,O,O,O,O,O,O] rfl rfl (any_of HT_.out (by kernel_rfl)) (fun _ _ _ h=>h) (Or.inl ⟨by rfl,?_⟩) ?_ ?_
          rotate_left
          ·intro w'
           go_simp
           with_reducible rfl
          rotate_left
          ·simp only [Act.put,sA,sZ,sS,i64_w,i32_w]
           rfl
          refine pure_ (i:=3) (N:=some 66) (v:=?_) (a':=?_) #[I,I,I,I,O,O,O,O,O,O,O,O,O,O,O,O,O,O,O,O,O,O,O,O,O,O,O,O,O,O,O,O,O,O] rfl rfl (any_of HT_.out (by kernel_rfl)) (fun _ _ _ h=>h) (Or.inl ⟨by rfl,?_⟩) ?_ ?_
          rotate_left
          ·intro w'
           go_simp
           with_reducible rfl
          rotate_left
          ·simp only [Act.put,sA,sZ,sS,i64_w,i32_w]
           rfl
          refine pure_ (i:=5) (N:=some 68) (v:=?_) (a':=?_) #[I,I,I,I,O,I,O,O,O,O,O,O,O,O,O,O,O,O,O,O,O,O,O,O,O,O,O,O,O,O,O,O,O,O] rfl rfl (any_of HT_.out (by kernel_rfl)) (fun _ _ _ h=>h) (Or.inl ⟨by rfl,?_⟩) ?_ ?_
          rotate_left
          ·intro w'
           go_simp
           with_reducible rfl
          rotate_left
          ·simp only [Act.put,sA,sZ,sS,i64_w,i32_w]
           rfl
          refine pure_ (i:=7) (N:=some 70) (v:=?_) (a':=?_) #[I,I,I,I,O,I,O,I,O,O,O,O,O,O,O,O,O,O,O,O,O,O,O,O,O,O,O,O,O,O,O,O,O,O] rfl rfl (any_of HT_.out (by kernel_rfl)) (fun _ _ _ h=>h) (Or.inl ⟨by rfl,?_⟩) ?_ ?_
          rotate_left
          ·intro w'
           go_simp
           with_reducible rfl
          rotate_left
          ·simp only [Act.put,sA,sZ,sS,i64_w,i32_w]
           rfl
          refine take_ (i:=4) (N:=some 67) (v:=?_) (a':=?_) #[I,I,I,I,I,I,O,I,O,O,O,O,O,O,O,O,O,O,O,O,O,O,O,O,O,O,O,O,O,O,O,O,O,O] rfl rfl (take_ofW HT_.out HW_.out (by kernel_rfl)) (fun _ _ _ h=>h) (Or.inl ⟨by rfl,?_⟩) hHeld ?_ ?_
          rotate_left
          ·rintro w' ⟨s0,s1,s2,s3⟩
           go_simp
           with_reducible rfl
          rotate_left
          ·simp only [Act.put,sA,sZ,sS,i64_w,i32_w]
           rfl
          refine one_ (i:=6) (N:=some 69) #[I,I,I,I,I,I,I,I,O,O,O,O,O,O,O,O,O,O,O,O,O,O,O,O,O,O,O,O,O,O,O,O,O,O] rfl rfl (one_of HT_.out (by kernel_rfl)) (by decide) (fun K hK=>?_)
          refine goes_ Try.func35 (by kernel_rfl) rfl #[.int .i64 t101,.agg #[.int .i64 t113,.slice Ao62 t114.length co62],.int .i64 t106] (by rfl) rfl rfl (by (try simp only [mT,mC,mN]);first|done|rfl|(simp only [lD,lT];rfl)) ?_
          with_reducible refine (impl_MaySay.calls kj6 t101 t113 _ _ t114 t106 t124 _ ?side1 ?side2 A28.out).mono ?_
          (case side1=>repeat (first|exact (rR HO116.out).2.2|(with_reducible refine cA ?_ _)|(with_reducible refine cN ?_ _)|(with_reducible refine cD ?_)))
          (case side2=>exact (rR HO116.out).2.1)
          rintro e w73 ⟨rfl,hb⟩
          refine ⟨_,rfl,?_⟩
          have n0_:=mA (rB (by (with_reducible repeat (first|apply rA|apply rN|apply rD));exact HO_108001.out) hb)
          have n1_:=mA (rB (by (with_reducible repeat (first|apply rA|apply rN|apply rD));exact HO116.out) hb)
          have n2_:=mA (rB (by (with_reducible repeat (first|apply rA|apply rN|apply rD));exact HO122.out) hb)
          have n3_:=mA (blk_below (g:=gb107) (o:=.cells #[.int .i64 t102,.slice Ao11 t103.length co11] 36 (0,0)) (by (with_reducible repeat (first|refine kN ?_ _|refine kD ?_|refine kA ?_ _));exact BK107.out) hb)
          have n4_:=mA (blk_below (g:=gb118) (o:=.cells #[.int .i64 t113,.slice Ao62 t114.length co62] 36 (0,0)) (by (with_reducible repeat (first|refine kN ?_ _|refine kD ?_|refine kA ?_ _));exact BK118.out) hb)
          have n5_:=mA (blk_below (g:=gb123) (o:=.cells #[.int .i64 t102,.slice Ao66 t119.length co66] 36 (0,0)) (by (with_reducible repeat (first|refine kN ?_ _|refine kD ?_|refine kA ?_ _));exact BK123.out) hb)
          have n6_:=mA (bT (by repeat (first|(with_reducible first|exact HB.out|apply bA|apply bN|apply bD|refine bS ?_ GE107.out|refine bS ?_ GE118.out|refine bS ?_ GE123.out)|exact HB.out)) hb)
          clear HO_108001
          clear HO116
          clear HO122
          clear BK107
          clear BK118
          clear BK123
          clear HB
          have HO_108001:=n0_
          have HO116:=n1_
          have HO122:=n2_
          have BK107:=n3_
          have BK118:=n4_
          have BK123:=n5_
          have HB:=n6_
          clear n0_ n1_ n2_ n3_ n4_ n5_ n6_
          (try clear hb)
          (try clear hb2)
          (try clear hk)
          (try clear hi)
          refine hK.out _ _ ⟨(kC BK118.out 0).trans rfl,(kC BK118.out 1).trans rfl,(kC BK123.out 0).trans rfl,(kC BK123.out 1).trans rfl⟩ (fun hHeld=>?_)
          clear hK K
          refine norm_ (a':=?_) ?_ ?_
          rotate_left
          ·show Act.put _ (some 69) _=_
           simp only [Act.put,sA,sZ,sS,i64_w,i32_w]
           rfl
          refine pure_ (i:=8) (N:=some 71) (v:=?_) (a':=?_) #[I,I,I,I,I,I,I,I,I,O,O,O,O,O,O,O,O,O,O,O,O,O,O,O,O,O,O,O,O,O,O,O,O,O] rfl rfl (any_of HT_.out (by kernel_rfl)) (fun _ _ _ h=>h) (Or.inl ⟨by rfl,?_⟩) ?_ ?_
          rotate_left
          ·intro w'
           go_simp
           with_reducible rfl
          rotate_left
          ·simp only [Act.put,sA,sZ,sS,i64_w,i32_w]
           rfl
          refine pure_ (i:=9) (N:=some 72) (v:=?_) (a':=?_) #[I,I,I,I,I,I,I,I,I,I,O,O,O,O,O,O,O,O,O,O,O,O,O,O,O,O,O,O,O,O,O,O,O,O] rfl rfl (any_of HT_.out (by kernel_rfl)) (fun _ _ _ h=>h) (Or.inl ⟨by rfl,?_⟩) ?_ ?_
          rotate_left
          ·intro w'
           go_simp
           with_reducible rfl
          rotate_left
          ·simp only [Act.put,sA,sZ,sS,i64_w,i32_w]
           rfl
          refine pure_ (i:=10) (N:=some 73) (v:=?_) (a':=?_) #[I,I,I,I,I,I,I,I,I,I,I,O,O,O,O,O,O,O,O,O,O,O,O,O,O,O,O,O,O,O,O,O,O,O] rfl rfl (any_of HT_.out (by kernel_rfl)) (fun _ _ _ h=>h) (Or.inl ⟨by rfl,?_⟩) ?_ ?_
          rotate_left
          ·intro w'
           go_simp
           with_reducible rfl
          rotate_left
          ·simp only [Act.put,sA,sZ,sS,i64_w,i32_w]
           rfl
          refine pure_ (i:=11) (N:=some 74) (v:=?_) (a':=?_) #[I,I,I,I,I,I,I,I,I,I,I,I,O,O,O,O,O,O,O,O,O,O,O,O,O,O,O,O,O,O,O,O,O,O] rfl rfl (any_of HT_.out (by kernel_rfl)) (fun _ _ _ h=>h) (Or.inl ⟨by rfl,?_⟩) ?_ ?_
          rotate_left
          ·intro w'
           go_simp
           with_reducible rfl
          rotate_left
          ·simp only [Act.put,sA,sZ,sS,i64_w,i32_w]
           rfl
          refine pure_ (i:=12) (N:=some 75) (v:=?_) (a':=?_) #[I,I,I,I,I,I,I,I,I,I,I,I,I,O,O,O,O,O,O,O,O,O,O,O,O,O,O,O,O,O,O,O,O,O] rfl rfl (any_of HT_.out (by kernel_rfl)) (fun _ _ _ h=>h) (Or.inl ⟨by rfl,?_⟩) ?_ ?_
          rotate_left
          ·intro w'
           go_simp
           with_reducible rfl
          rotate_left
          ·simp only [Act.put,sA,sZ,sS,i64_w,i32_w]
           rfl
          refine pure_ (i:=13) (N:=some 76) (v:=?_) (a':=?_) #[I,I,I,I,I,I,I,I,I,I,I,I,I,I,O,O,O,O,O,O,O,O,O,O,O,O,O,O,O,O,O,O,O,O] rfl rfl (any_of HT_.out (by kernel_rfl)) (fun _ _ _ h=>h) (Or.inl ⟨by rfl,?_⟩) ?_ ?_
          rotate_left
          ·intro w'
           go_simp
           with_reducible rfl
          rotate_left
          ·simp only [Act.put,sA,sZ,sS,i64_w,i32_w]
           rfl
          refine pure_ (i:=14) (N:=some 77) (v:=?_) (a':=?_) #[I,I,I,I,I,I,I,I,I,I,I,I,I,I,I,O,O,O,O,O,O,O,O,O,O,O,O,O,O,O,O,O,O,O] rfl rfl (any_of HT_.out (by kernel_rfl)) (fun _ _ _ h=>h) (Or.inl ⟨by rfl,?_⟩) ?_ ?_
          rotate_left
          ·intro w'
           go_simp
           with_reducible rfl
          rotate_left
          ·simp only [Act.put,sA,sZ,sS,i64_w,i32_w]
           rfl
          refine take_ (i:=15) (N:=some 78) (v:=?_) (a':=?_) #[I,I,I,I,I,I,I,I,I,I,I,I,I,I,I,I,O,O,O,O,O,O,O,O,O,O,O,O,O,O,O,O,O,O] rfl rfl (take_ofW HT_.out HW_.out (by kernel_rfl)) (fun _ _ _ h=>h) (Or.inl ⟨by rfl,?_⟩) hHeld ?_ ?_
          rotate_left
          ·rintro w' ⟨s0,s1,s2,s3⟩
           go_simp
           with_reducible rfl
          rotate_left
          ·simp only [Act.put,sA,sZ,sS,i64_w,i32_w]
           rfl
          refine one_ (i:=16) (N:=some 79) #[I,I,I,I,I,I,I,I,I,I,I,I,I,I,I,I,I,O,O,O,O,O,O,O,O,O,O,O,O,O,O,O,O,O] rfl rfl (one_of HT_.out (by kernel_rfl)) (by decide) (fun K hK=>?_)
          refine goes_ Try.func37 (by kernel_rfl) rfl #[.int .i64 t101,.agg #[.int .i64 t102,.slice Ao66 t119.length co66]] (by rfl) rfl rfl (by (try simp only [mT,mC,mN]);first|done|rfl|(simp only [lD,lT];rfl)) ?_
          with_reducible refine (spec_ClaimOk.calls kj6 t101 t102 _ _ t119 false _ ?side1 ?side2 A31.out).mono ?_
          (case side1=>repeat (first|exact (rR HO122.out).2.2|(with_reducible refine cA ?_ _)|(with_reducible refine cN ?_ _)|(with_reducible refine cD ?_)))
          (case side2=>exact (rR HO122.out).2.1)
          rintro e w74 ⟨rfl,hb⟩
          refine ⟨_,rfl,?_⟩
          have n0_:=mA (rB (by (with_reducible repeat (first|apply rA|apply rN|apply rD));exact HO_108001.out) hb)
          have n1_:=mA (rB (by (with_reducible repeat (first|apply rA|apply rN|apply rD));exact HO116.out) hb)
          have n2_:=mA (rB (by (with_reducible repeat (first|apply rA|apply rN|apply rD));exact HO122.out) hb)
          have n3_:=mA (blk_below (g:=gb107) (o:=.cells #[.int .i64 t102,.slice Ao11 t103.length co11] 36 (0,0)) (by (with_reducible repeat (first|refine kN ?_ _|refine kD ?_|refine kA ?_ _));exact BK107.out) hb)
          have n4_:=mA (blk_below (g:=gb118) (o:=.cells #[.int .i64 t113,.slice Ao62 t114.length co62] 36 (0,0)) (by (with_reducible repeat (first|refine kN ?_ _|refine kD ?_|refine kA ?_ _));exact BK118.out) hb)
          have n5_:=mA (blk_below (g:=gb123) (o:=.cells #[.int .i64 t102,.slice Ao66 t119.length co66] 36 (0,0)) (by (with_reducible repeat (first|refine kN ?_ _|refine kD ?_|refine kA ?_ _));exact BK123.out) hb)
          have n6_:=mA (bT (by repeat (first|(with_reducible first|exact HB.out|apply bA|apply bN|apply bD|refine bS ?_ GE107.out|refine bS ?_ GE118.out|refine bS ?_ GE123.out)|exact HB.out)) hb)
          clear HO_108001
          clear HO116
          clear HO122
          clear BK107
          clear BK118
          clear BK123
          clear HB
          have HO_108001:=n0_
          have HO116:=n1_
          have HO122:=n2_
          have BK107:=n3_
          have BK118:=n4_
          have BK123:=n5_
          have HB:=n6_
          clear n0_ n1_ n2_ n3_ n4_ n5_ n6_
          (try clear hb)
          (try clear hb2)
          (try clear hk)
          (try clear hi)
          refine hK.out _ _ ⟨(kC BK118.out 0).trans rfl,(kC BK118.out 1).trans rfl,(kC BK123.out 0).trans rfl,(kC BK123.out 1).trans rfl⟩ (fun hHeld=>?_)
          clear hK K
          refine norm_ (a':=?_) ?_ ?_
          rotate_left
          ·show Act.put _ (some 79) _=_
           simp only [Act.put,sA,sZ,sS,i64_w,i32_w]
           rfl
          refine pure_ (i:=17) (N:=some 80) (v:=?_) (a':=?_) #[I,I,I,I,I,I,I,I,I,I,I,I,I,I,I,I,I,I,O,O,O,O,O,O,O,O,O,O,O,O,O,O,O,O] rfl rfl (any_of HT_.out (by kernel_rfl)) (fun _ _ _ h=>h) (Or.inl ⟨by rfl,?_⟩) ?_ ?_
          rotate_left
          ·intro w'
           go_simp
           with_reducible rfl
          rotate_left
          ·simp only [Act.put,sA,sZ,sS,i64_w,i32_w]
           rfl
          refine pure_ (i:=18) (N:=some 81) (v:=?_) (a':=?_) #[I,I,I,I,I,I,I,I,I,I,I,I,I,I,I,I,I,I,I,O,O,O,O,O,O,O,O,O,O,O,O,O,O,O] rfl rfl (any_of HT_.out (by kernel_rfl)) (fun _ _ _ h=>h) (Or.inl ⟨by rfl,?_⟩) ?_ ?_
          rotate_left
          ·intro w'
           go_simp
           with_reducible rfl
          rotate_left
          ·simp only [Act.put,sA,sZ,sS,i64_w,i32_w]
           rfl
          refine pure_ (i:=19) (N:=some 82) (v:=?_) (a':=?_) #[I,I,I,I,I,I,I,I,I,I,I,I,I,I,I,I,I,I,I,I,O,O,O,O,O,O,O,O,O,O,O,O,O,O] rfl rfl (any_of HT_.out (by kernel_rfl)) (fun _ _ _ h=>h) (Or.inl ⟨by rfl,?_⟩) ?_ ?_
          rotate_left
          ·intro w'
           go_simp
           with_reducible rfl
          rotate_left
          ·simp only [Act.put,sA,sZ,sS,i64_w,i32_w]
           rfl
          refine pure_ (i:=20) (N:=some 83) (v:=undef) (a':=?_) #[I,I,I,I,I,I,I,I,I,I,I,I,I,I,I,I,I,I,I,I,I,O,O,O,O,O,O,O,O,O,O,O,O,O] rfl rfl (any_of HT_.out (by kernel_rfl)) (fun _ _ _ h=>h) (Or.inr ⟨by rfl,rfl⟩) ?_ ?_
          rotate_left
          ·simp only [Act.put,sA,sZ,sS,i64_w,i32_w]
           rfl
          refine pure_ (i:=21) (N:=some 84) (v:=undef) (a':=?_) #[I,I,I,I,I,I,I,I,I,I,I,I,I,I,I,I,I,I,I,I,I,I,O,O,O,O,O,O,O,O,O,O,O,O] rfl rfl (any_of HT_.out (by kernel_rfl)) (fun _ _ _ h=>h) (Or.inr ⟨by rfl,rfl⟩) ?_ ?_
          rotate_left
          ·simp only [Act.put,sA,sZ,sS,i64_w,i32_w]
           rfl
          refine pure_ (i:=22) (N:=some 85) (v:=undef) (a':=?_) #[I,I,I,I,I,I,I,I,I,I,I,I,I,I,I,I,I,I,I,I,I,I,I,O,O,O,O,O,O,O,O,O,O,O] rfl rfl (any_of HT_.out (by kernel_rfl)) (fun _ _ _ h=>h) (Or.inr ⟨by rfl,rfl⟩) ?_ ?_
          rotate_left
          ·simp only [Act.put,sA,sZ,sS,i64_w,i32_w]
           rfl
          refine pure_ (i:=23) (N:=some 86) (v:=undef) (a':=?_) #[I,I,I,I,I,I,I,I,I,I,I,I,I,I,I,I,I,I,I,I,I,I,I,I,O,O,O,O,O,O,O,O,O,O] rfl rfl (any_of HT_.out (by kernel_rfl)) (fun _ _ _ h=>h) (Or.inr ⟨by rfl,rfl⟩) ?_ ?_
          rotate_left
          ·simp only [Act.put,sA,sZ,sS,i64_w,i32_w]
           rfl
          refine pure_ (i:=24) (N:=some 87) (v:=undef) (a':=?_) #[I,I,I,I,I,I,I,I,I,I,I,I,I,I,I,I,I,I,I,I,I,I,I,I,I,O,O,O,O,O,O,O,O,O] rfl rfl (any_of HT_.out (by kernel_rfl)) (fun _ _ _ h=>h) (Or.inr ⟨by rfl,rfl⟩) ?_ ?_
          rotate_left
          ·simp only [Act.put,sA,sZ,sS,i64_w,i32_w]
           rfl
          refine pure_ (i:=25) (N:=some 88) (v:=undef) (a':=?_) #[I,I,I,I,I,I,I,I,I,I,I,I,I,I,I,I,I,I,I,I,I,I,I,I,I,I,O,O,O,O,O,O,O,O] rfl rfl (any_of HT_.out (by kernel_rfl)) (fun _ _ _ h=>h) (Or.inr ⟨by rfl,rfl⟩) ?_ ?_
          rotate_left
          ·simp only [Act.put,sA,sZ,sS,i64_w,i32_w]
           rfl
          refine pure_ (i:=26) (N:=some 89) (v:=undef) (a':=?_) #[I,I,I,I,I,I,I,I,I,I,I,I,I,I,I,I,I,I,I,I,I,I,I,I,I,I,I,O,O,O,O,O,O,O] rfl rfl (any_of HT_.out (by kernel_rfl)) (fun _ _ _ h=>h) (Or.inr ⟨by rfl,rfl⟩) ?_ ?_
          rotate_left
          ·simp only [Act.put,sA,sZ,sS,i64_w,i32_w]
           rfl
          refine pure_ (i:=27) (N:=some 90) (v:=undef) (a':=?_) #[I,I,I,I,I,I,I,I,I,I,I,I,I,I,I,I,I,I,I,I,I,I,I,I,I,I,I,I,O,O,O,O,O,O] rfl rfl (any_of HT_.out (by kernel_rfl)) (fun _ _ _ h=>h) (Or.inr ⟨by rfl,rfl⟩) ?_ ?_
          rotate_left
          ·simp only [Act.put,sA,sZ,sS,i64_w,i32_w]
           rfl
          refine pure_ (i:=28) (N:=some 91) (v:=?_) (a':=?_) #[I,I,I,I,I,I,I,I,I,I,I,I,I,I,I,I,I,I,I,I,I,I,I,I,I,I,I,I,I,O,O,O,O,O] rfl rfl (any_of HT_.out (by kernel_rfl)) (fun _ _ _ h=>h) (Or.inl ⟨by rfl,?_⟩) ?_ ?_
          rotate_left
          ·intro w'
           go_simp
           with_reducible rfl
          rotate_left
          ·simp only [Act.put,sA,sZ,sS,i64_w,i32_w]
           rfl
          refine pure_ (i:=29) (N:=some 92) (v:=?_) (a':=?_) #[I,I,I,I,I,I,I,I,I,I,I,I,I,I,I,I,I,I,I,I,I,I,I,I,I,I,I,I,I,I,O,O,O,O] rfl rfl (any_of HT_.out (by kernel_rfl)) (fun _ _ _ h=>h) (Or.inl ⟨by rfl,?_⟩) ?_ ?_
          rotate_left
          ·intro w'
           go_simp
           with_reducible rfl
          rotate_left
          ·simp only [Act.put,sA,sZ,sS,i64_w,i32_w]
           rfl
          refine pure_ (i:=30) (N:=some 93) (v:=?_) (a':=?_) #[I,I,I,I,I,I,I,I,I,I,I,I,I,I,I,I,I,I,I,I,I,I,I,I,I,I,I,I,I,I,I,O,O,O] rfl rfl (any_of HT_.out (by kernel_rfl)) (fun _ _ _ h=>h) (Or.inl ⟨by rfl,?_⟩) ?_ ?_
          rotate_left
          ·intro w'
           go_simp
           with_reducible rfl
          rotate_left
          ·simp only [Act.put,sA,sZ,sS,i64_w,i32_w]
           rfl
          refine one_ (i:=31) (N:=some 94) #[I,I,I,I,I,I,I,I,I,I,I,I,I,I,I,I,I,I,I,I,I,I,I,I,I,I,I,I,I,I,I,I,O,O] rfl rfl (one_of HT_.out (by kernel_rfl)) (by decide) (fun K hK=>?_)
          refine goes_ Try.func26 (by kernel_rfl) rfl #[] (by rfl) rfl rfl (by (try simp only [mT,mC,mN]);first|done|rfl|(simp only [lD,lT];rfl)) ?_
          with_reducible refine (laws_alive.calls  t129 _ A56.out).mono ?_
          rintro e w' ⟨rfl,⟨nd,rfl⟩⟩
          refine ⟨_,rfl,?_⟩
          refine hK.out _ _ ⟨(kC BK118.out 0).trans rfl,(kC BK118.out 1).trans rfl,(kC BK123.out 0).trans rfl,(kC BK123.out 1).trans rfl⟩ (fun hHeld=>?_)
          clear hK K
          refine norm_ (a':=?_) ?_ ?_
          rotate_left
          ·show Act.put _ (some 94) _=_
           simp only [Act.put,sA,sZ,sS,i64_w,i32_w]
           rfl
          refine pure_ (i:=32) (N:=some 95) (v:=?_) (a':=?_) #[I,I,I,I,I,I,I,I,I,I,I,I,I,I,I,I,I,I,I,I,I,I,I,I,I,I,I,I,I,I,I,I,I,O] rfl rfl (any_of HT_.out (by kernel_rfl)) (fun _ _ _ h=>h) (Or.inl ⟨by rfl,?_⟩) ?_ ?_
          rotate_left
          ·intro w'
           go_simp
           with_reducible rfl
          rotate_left
          ·simp only [Act.put,sA,sZ,sS,i64_w,i32_w]
           rfl
          refine pure_ (i:=33) (N:=some 2) (v:=?_) (a':=?_) #[I,I,I,I,I,I,I,I,I,I,I,I,I,I,I,I,I,I,I,I,I,I,I,I,I,I,I,I,I,I,I,I,I,I] rfl rfl (any_of HT_.out (by kernel_rfl)) (fun _ _ _ h=>h) (Or.inl ⟨by rfl,?_⟩) ?_ ?_
          rotate_left
          ·intro w'
           go_simp
           with_reducible rfl
          rotate_left
          ·simp only [Act.put,sA,sZ,sS,i64_w,i32_w]
           rfl
          refine done_ (done_of HT_.out (by kernel_rfl)) ?_
          try go_wp2
          go_ret
          exact ⟨by first|rfl|(simp [errW_none,errW_some]<;>rfl)|(simp [*, errW_none,errW_some]<;>rfl),by repeat (first|(with_reducible first|exact HB.out|apply bA|apply bN|apply bD|refine bS ?_ GE107.out|refine bS ?_ GE118.out|refine bS ?_ GE123.out)|exact HB.out)⟩
        ·replace c30:=Bool.eq_false_iff.mpr c30
         subst c30
         have H1:((laws_alive.f).bind fun t130=>(some t130))=some r:=by rw [if_neg (show ¬ (false=true) by decide)] at H;exact H
         clear H
         have H:=H1
         clear H1
         replace H:=Option.bind_eq_some_iff.mp H
         obtain ⟨t130,A750,H⟩:=H
         replace H:(some t130)=some r:=H
         have A75:=mA A750
         clear A750
         obtain rfl:=Option.some.inj H
         have hcz76_0:wc.cell? ⟨gb107,0,none⟩=some (.int .i64 t102):=(kC BK107.out 0).trans rfl
         have hcz76_1:wc.cell? ⟨gb107,1,none⟩=some (.slice Ao11 t103.length co11):=(kC BK107.out 1).trans rfl
         have hfz76_0:=kF BK107.out 0
         have hfz76_1:=kF BK107.out 1
         try go_wp2_with (first|((with_reducible refine gate_callee (f:=39) rfl ?_);refine goesL_ (some 49) rfl rfl Try.func39 (by kernel_rfl) rfl #[.int .i64 t101,.agg #[.int .i64 t102,.slice Ao11 t103.length co11]] rfl (by (try simp only [mT,mC,mN]);first|done|rfl|(simp only [lD,lT];rfl)) ?_;(with_reducible refine (impl_DenyClaim.calls kj6 t101 t102 _ _ t103 t113 t114 true _ ?side1 ?side2 A25.out).mono ?_);(case side1=>repeat (first|exact (rR HO_108001.out).2.2|(with_reducible refine cA ?_ _)|(with_reducible refine cN ?_ _)|(with_reducible refine cD ?_)));(case side2=>exact (rR HO_108001.out).2.1);rintro e w77 ⟨v115,rfl,ho0,hb⟩;refine ⟨_,rfl,?_⟩;have n0_:=mA (Kd.R_elder' (by (with_reducible repeat (first|apply rA|apply rN|apply rD));exact HO_108001.out) (Kd.R_base ho0) hb);have n1_:=mA (Kd.R_lower (Kd.R_new' ho0 (rL (by (with_reducible repeat (first|apply rA|apply rN|apply rD));exact HO_108001.out))) (bZ (by repeat (first|(with_reducible first|exact HB.out|apply bA|apply bN|apply bD|refine bS ?_ GE107.out)|exact HB.out))));have n2_:=mA (blk_below (g:=gb107) (o:=.cells #[.int .i64 t102,.slice Ao11 t103.length co11] 36 (0,0)) (by (with_reducible repeat (first|refine kN ?_ _|refine kD ?_|refine kA ?_ _));exact BK107.out) hb);have n3_:=mA (bT (by repeat (first|(with_reducible first|exact HB.out|apply bA|apply bN|apply bD|refine bS ?_ GE107.out)|exact HB.out)) hb);clear HO_108001 BK107 HB;have HO_108001:=n0_;have HO116:=n1_;have BK107:=n2_;have HB:=n3_;clear n0_ n1_ n2_ n3_;(try clear hb);(try clear hb2);(try clear hk);(try clear hi);(try clear ho0))|((with_reducible refine gate_dst (N:=7) rfl ?_);refine box_event ?hg (N:=7) ?hd (cs:=#[.int .i64 0,.slice none 0 0]) (t:=36) ?hr ?_;(case hd=>rfl);(case hg=>rfl);(case hr=>first|(go_simp;done)|(go_simp;rfl));intro gb118 hg w78 hbox hb;have n0_:=mA (rB (by (with_reducible repeat (first|apply rA|apply rN|apply rD));exact HO_108001.out) hb);have n1_:=mA (rB (by (with_reducible repeat (first|apply rA|apply rN|apply rD));exact HO116.out) hb);have n2_:=mA (blk_below (g:=gb107) (o:=.cells #[.int .i64 t102,.slice Ao11 t103.length co11] 36 (0,0)) (by (with_reducible repeat (first|refine kN ?_ _|refine kD ?_|refine kA ?_ _));exact BK107.out) hb);have n3_:=mA (bT (by repeat (first|(with_reducible first|exact HB.out|apply bA|apply bN|apply bD|refine bS ?_ GE107.out)|exact HB.out)) hb);have n4_:=mA (hbox);have n5_:=mA ((by rw [hg];exact (bZ (by repeat (first|(with_reducible first|exact HB.out|apply bA|apply bN|apply bD|refine bS ?_ GE107.out)|exact HB.out))):w.heap.size≤gb118));have n6_:=mA ((by rw [hg];exact (bZ (by repeat (first|(with_reducible first|exact HB.out|apply bA|apply bN|apply bD|refine bS ?_ GE107.out)|exact HB.out))):w.heap.size≤gb118));have n7_:=mA ((by rw [hg];exact Nat.ne_of_lt (blk_lt (g:=gb107) (o:=.cells #[.int .i64 t102,.slice Ao11 t103.length co11] 36 (0,0)) (by (with_reducible repeat (first|refine kN ?_ _|refine kD ?_|refine kA ?_ _));exact BK107.out)):gb107≠gb118));have n8_:=mA ((by rw [hg];exact Nat.ne_of_gt (blk_lt (g:=gb107) (o:=.cells #[.int .i64 t102,.slice Ao11 t103.length co11] 36 (0,0)) (by (with_reducible repeat (first|refine kN ?_ _|refine kD ?_|refine kA ?_ _));exact BK107.out)):gb118≠gb107));clear HO_108001 HO116 BK107 HB;have HO_108001:=n0_;have HO116:=n1_;have BK107:=n2_;have HB:=n3_;have BK118:=n4_;have GW118:=n5_;have GE118:=n6_;have NB107_118:=n7_;have NB118_107:=n8_;clear n0_ n1_ n2_ n3_ n4_ n5_ n6_ n7_ n8_ hb hbox hg;have hnb79:=NB118_107.out;have hnc79:=NB107_118.out;have hcz80_0:w78.cell? ⟨gb118,0,none⟩=some (.int .i64 0):=(kC BK118.out 0).trans rfl;have hcz80_1:w78.cell? ⟨gb118,1,none⟩=some (.slice none 0 0):=(kC BK118.out 1).trans rfl;have hfz80_0:=kF BK118.out 0;have hfz80_1:=kF BK118.out 1;obtain ⟨Ao81,co81,eo81⟩:=Kd.R_slice HO116.out;subst eo81;have hcz82_0:w78.cell? ⟨gb107,0,none⟩=some (.int .i64 t102):=(kC BK107.out 0).trans rfl;have hcz82_1:w78.cell? ⟨gb107,1,none⟩=some (.slice Ao11 t103.length co11):=(kC BK107.out 1).trans rfl;have hfz82_0:=kF BK107.out 0;have hfz82_1:=kF BK107.out 1)|((with_reducible refine gate_callee (f:=40) rfl ?_);refine goesL_ (some 56) rfl rfl Try.func40 (by kernel_rfl) rfl #[.int .i64 t101,.slice Ao11 t103.length co11] rfl (by (try simp only [mT,mC,mN]);first|done|rfl|(simp only [lD,lT];rfl)) ?_;(with_reducible refine (impl_MirrorTerm.calls kj6 t101 _ _ t103 t119 false _ ?side1 ?side2 A26.out).mono ?_);(case side1=>refine (rR (e:=33) (base:=w.heap.size) (ok:=fun k_=>(True∧some k_≠(.slice Ao81 t114.length co81:Value).ownBlock)) (n:=t103.length) (c:=co11) ?_).2.2;exact (by (with_reducible repeat (first|apply rA|apply rN|apply rD));exact (rM (rF (p:=⟨gb118,1,none⟩) (rF (p:=⟨gb118,0,none⟩) (Kd.R_types HO_108001.out BK118.out (by decide)) (fun _ hk=>hk.2) (.int .i64 t113)) (fun _ hk=>hk.2) (.slice Ao81 t114.length co81)) (fun _ h_=>h_.1))));(case side2=>exact (rR HO_108001.out).2.1);rintro e w83 ⟨v121,rfl,ho0,hb⟩;refine ⟨_,rfl,?_⟩;have n0_:=mA (Kd.R_elder' (by (with_reducible repeat (first|apply rA|apply rN|apply rD));exact (rM (rF (p:=⟨gb118,1,none⟩) (rF (p:=⟨gb118,0,none⟩) (Kd.R_types HO_108001.out BK118.out (by decide)) (fun _ hk=>hk.2) (.int .i64 t113)) (fun _ hk=>hk.2) (.slice Ao81 t114.length co81)) (fun _ h_=>h_.1))) (Kd.R_base ho0) hb);have n1_:=mA (Kd.R_elder' (by (with_reducible repeat (first|apply rA|apply rN|apply rD));exact (rM (rF (p:=⟨gb118,1,none⟩) (rF (p:=⟨gb118,0,none⟩) (Kd.R_types HO116.out BK118.out (by decide)) (fun _ hk=>hk.2) (.int .i64 t113)) (fun _ hk=>hk.2) (.slice Ao81 t114.length co81)) (fun _ h_=>h_.1))) (Kd.R_base ho0) hb);have n2_:=mA (Kd.R_lower (Kd.R_new' (Kd.R_new' ho0 (rL (by (with_reducible repeat (first|apply rA|apply rN|apply rD));exact (rM (rF (p:=⟨gb118,1,none⟩) (rF (p:=⟨gb118,0,none⟩) (Kd.R_types HO_108001.out BK118.out (by decide)) (fun _ hk=>hk.2) (.int .i64 t113)) (fun _ hk=>hk.2) (.slice Ao81 t114.length co81)) (fun _ h_=>h_.1))))) (rL (by (with_reducible repeat (first|apply rA|apply rN|apply rD));exact (rM (rF (p:=⟨gb118,1,none⟩) (rF (p:=⟨gb118,0,none⟩) (Kd.R_types HO116.out BK118.out (by decide)) (fun _ hk=>hk.2) (.int .i64 t113)) (fun _ hk=>hk.2) (.slice Ao81 t114.length co81)) (fun _ h_=>h_.1))))) (bZ (by repeat (first|(with_reducible first|exact HB.out|apply bA|apply bN|apply bD|refine bS ?_ GE107.out|refine bS ?_ GE118.out)|exact HB.out))));have n3_:=mA (blk_below (g:=gb107) (o:=.cells #[.int .i64 t102,.slice Ao11 t103.length co11] 36 (0,0)) (by (with_reducible repeat (first|refine kN ?_ _|refine kD ?_|refine kA ?_ _));refine blk_far ?_ NB107_118.out _;(with_reducible repeat (first|refine kN ?_ _|refine kD ?_|refine kA ?_ _));refine blk_far ?_ NB107_118.out _;(with_reducible repeat (first|refine kN ?_ _|refine kD ?_|refine kA ?_ _));exact BK107.out) hb);have n4_:=mA (blk_below (g:=gb118) (o:=.cells #[.int .i64 t113,.slice Ao81 t114.length co81] 36 (0,0)) (by (with_reducible repeat (first|refine kN ?_ _|refine kD ?_|refine kA ?_ _));refine blk_put (cs:=#[.int .i64 t113,.slice none 0 0]) ?_ 1 _ rfl;(with_reducible repeat (first|refine kN ?_ _|refine kD ?_|refine kA ?_ _));refine blk_put (cs:=#[.int .i64 0,.slice none 0 0]) ?_ 0 _ rfl;(with_reducible repeat (first|refine kN ?_ _|refine kD ?_|refine kA ?_ _));exact BK118.out) hb);have n5_:=mA (bT (by repeat (first|(with_reducible first|exact HB.out|apply bA|apply bN|apply bD|refine bS ?_ GE107.out|refine bS ?_ GE118.out)|exact HB.out)) hb);clear HO_108001 HO116 BK107 BK118 HB;have HO_108001:=n0_;have HO116:=n1_;have HO122:=n2_;have BK107:=n3_;have BK118:=n4_;have HB:=n5_;clear n0_ n1_ n2_ n3_ n4_ n5_;(try clear hb);(try clear hb2);(try clear hk);(try clear hi);(try clear ho0);have hcz84_0:w83.cell? ⟨gb107,0,none⟩=some (.int .i64 t102):=(kC BK107.out 0).trans rfl;have hcz84_1:w83.cell? ⟨gb107,1,none⟩=some (.slice Ao11 t103.length co11):=(kC BK107.out 1).trans rfl;have hfz84_0:=kF BK107.out 0;have hfz84_1:=kF BK107.out 1;obtain ⟨Ao85,co85,eo85⟩:=Kd.R_slice HO122.out;subst eo85)|((with_reducible refine gate_dst (N:=11) rfl ?_);refine box_event ?hg (N:=11) ?hd (cs:=#[.int .i64 0,.slice none 0 0]) (t:=36) ?hr ?_;(case hd=>rfl);(case hg=>rfl);(case hr=>first|(go_simp;done)|(go_simp;rfl));intro gb123 hg w86 hbox hb;have n0_:=mA (rB (by (with_reducible repeat (first|apply rA|apply rN|apply rD));exact HO_108001.out) hb);have n1_:=mA (rB (by (with_reducible repeat (first|apply rA|apply rN|apply rD));exact HO116.out) hb);have n2_:=mA (rB (by (with_reducible repeat (first|apply rA|apply rN|apply rD));exact HO122.out) hb);have n3_:=mA (blk_below (g:=gb107) (o:=.cells #[.int .i64 t102,.slice Ao11 t103.length co11] 36 (0,0)) (by (with_reducible repeat (first|refine kN ?_ _|refine kD ?_|refine kA ?_ _));exact BK107.out) hb);have n4_:=mA (blk_below (g:=gb118) (o:=.cells #[.int .i64 t113,.slice Ao81 t114.length co81] 36 (0,0)) (by (with_reducible repeat (first|refine kN ?_ _|refine kD ?_|refine kA ?_ _));exact BK118.out) hb);have n5_:=mA (bT (by repeat (first|(with_reducible first|exact HB.out|apply bA|apply bN|apply bD|refine bS ?_ GE107.out|refine bS ?_ GE118.out)|exact HB.out)) hb);have n6_:=mA (hbox);have n7_:=mA ((by rw [hg];exact (bZ (by repeat (first|(with_reducible first|exact HB.out|apply bA|apply bN|apply bD|refine bS ?_ GE107.out|refine bS ?_ GE118.out)|exact HB.out))):w.heap.size≤gb123));have n8_:=mA ((by rw [hg];exact (bZ (by repeat (first|(with_reducible first|exact HB.out|apply bA|apply bN|apply bD|refine bS ?_ GE107.out|refine bS ?_ GE118.out)|exact HB.out))):w.heap.size≤gb123));have n9_:=mA ((by rw [hg];exact Nat.ne_of_lt (blk_lt (g:=gb107) (o:=.cells #[.int .i64 t102,.slice Ao11 t103.length co11] 36 (0,0)) (by (with_reducible repeat (first|refine kN ?_ _|refine kD ?_|refine kA ?_ _));exact BK107.out)):gb107≠gb123));have n10_:=mA ((by rw [hg];exact Nat.ne_of_gt (blk_lt (g:=gb107) (o:=.cells #[.int .i64 t102,.slice Ao11 t103.length co11] 36 (0,0)) (by (with_reducible repeat (first|refine kN ?_ _|refine kD ?_|refine kA ?_ _));exact BK107.out)):gb123≠gb107));have n11_:=mA ((by rw [hg];exact Nat.ne_of_lt (blk_lt (g:=gb118) (o:=.cells #[.int .i64 t113,.slice Ao81 t114.length co81] 36 (0,0)) (by (with_reducible repeat (first|refine kN ?_ _|refine kD ?_|refine kA ?_ _));exact BK118.out)):gb118≠gb123));have n12_:=mA ((by rw [hg];exact Nat.ne_of_gt (blk_lt (g:=gb118) (o:=.cells #[.int .i64 t113,.slice Ao81 t114.length co81] 36 (0,0)) (by (with_reducible repeat (first|refine kN ?_ _|refine kD ?_|refine kA ?_ _));exact BK118.out)):gb123≠gb118));clear HO_108001 HO116 HO122 BK107 BK118 HB;have HO_108001:=n0_;have HO116:=n1_;have HO122:=n2_;have BK107:=n3_;have BK118:=n4_;have HB:=n5_;have BK123:=n6_;have GW123:=n7_;have GE123:=n8_;have NB107_123:=n9_;have NB123_107:=n10_;have NB118_123:=n11_;have NB123_118:=n12_;clear n0_ n1_ n2_ n3_ n4_ n5_ n6_ n7_ n8_ n9_ n10_ n11_ n12_ hb hbox hg;have hnb87:=NB123_107.out;have hnc87:=NB107_123.out;have hnb88:=NB123_118.out;have hnc88:=NB118_123.out;have hcz89_0:w86.cell? ⟨gb123,0,none⟩=some (.int .i64 0):=(kC BK123.out 0).trans rfl;have hcz89_1:w86.cell? ⟨gb123,1,none⟩=some (.slice none 0 0):=(kC BK123.out 1).trans rfl;have hfz89_0:=kF BK123.out 0;have hfz89_1:=kF BK123.out 1))
         have n0_:Aside0 (Kd.R k33 33 ((w86.setCell ⟨gb123,0,none⟩ (.int .i64 t102)).setCell ⟨gb123,1,none⟩ (.slice Ao85 t119.length co85)) w.heap.size (fun k_=>some k_≠(.slice Ao81 t114.length co81:Value).ownBlock∧some k_≠(.slice Ao85 t119.length co85:Value).ownBlock) (.slice Ao11 t103.length co11) t103):=⟨by (with_reducible repeat (first|apply rA|apply rN|apply rD));exact rM (rF (p:=⟨gb123,1,none⟩) (rF (p:=⟨gb123,0,none⟩) (Kd.R_types HO_108001.out BK123.out (by decide)) (fun _ hk=>hk.2) (.int .i64 t102)) (fun _ hk=>hk.2) (.slice Ao85 t119.length co85)) (fun _ hk=>⟨hk.1.1.2,hk.1.2⟩)⟩
         have n1_:Aside0 (Kd.R k33 33 ((w86.setCell ⟨gb123,0,none⟩ (.int .i64 t102)).setCell ⟨gb123,1,none⟩ (.slice Ao85 t119.length co85)) w.heap.size (fun k_=>some k_≠(.slice Ao11 t103.length co11:Value).ownBlock∧some k_≠(.slice Ao85 t119.length co85:Value).ownBlock) (.slice Ao81 t114.length co81) t114):=⟨by (with_reducible repeat (first|apply rA|apply rN|apply rD));exact rM (rF (p:=⟨gb123,1,none⟩) (rF (p:=⟨gb123,0,none⟩) (Kd.R_types HO116.out BK123.out (by decide)) (fun _ hk=>hk.2) (.int .i64 t102)) (fun _ hk=>hk.2) (.slice Ao85 t119.length co85)) (fun _ hk=>⟨hk.1.1.2,hk.1.2⟩)⟩
         have n2_:Aside0 (Kd.R k33 33 ((w86.setCell ⟨gb123,0,none⟩ (.int .i64 t102)).setCell ⟨gb123,1,none⟩ (.slice Ao85 t119.length co85)) w.heap.size (fun k_=>some k_≠(.slice Ao11 t103.length co11:Value).ownBlock∧some k_≠(.slice Ao81 t114.length co81:Value).ownBlock) (.slice Ao85 t119.length co85) t119):=⟨by (with_reducible repeat (first|apply rA|apply rN|apply rD));exact rM (rF (p:=⟨gb123,1,none⟩) (rF (p:=⟨gb123,0,none⟩) (Kd.R_types HO122.out BK123.out (by decide)) (fun _ hk=>hk.2) (.int .i64 t102)) (fun _ hk=>hk.2) (.slice Ao85 t119.length co85)) (fun _ hk=>⟨hk.1.1.2,hk.1.2⟩)⟩
         have n3_:Aside0 (((w86.setCell ⟨gb123,0,none⟩ (.int .i64 t102)).setCell ⟨gb123,1,none⟩ (.slice Ao85 t119.length co85)).heap[gb107]?=some (.cells #[.int .i64 t102,.slice Ao11 t103.length co11] 36 (0,0))):=⟨by (with_reducible repeat (first|refine kN ?_ _|refine kD ?_|refine kA ?_ _));refine blk_far ?_ NB107_123.out _;(with_reducible repeat (first|refine kN ?_ _|refine kD ?_|refine kA ?_ _));refine blk_far ?_ NB107_123.out _;(with_reducible repeat (first|refine kN ?_ _|refine kD ?_|refine kA ?_ _));exact BK107.out⟩
         have n4_:Aside0 (((w86.setCell ⟨gb123,0,none⟩ (.int .i64 t102)).setCell ⟨gb123,1,none⟩ (.slice Ao85 t119.length co85)).heap[gb118]?=some (.cells #[.int .i64 t113,.slice Ao81 t114.length co81] 36 (0,0))):=⟨by (with_reducible repeat (first|refine kN ?_ _|refine kD ?_|refine kA ?_ _));refine blk_far ?_ NB118_123.out _;(with_reducible repeat (first|refine kN ?_ _|refine kD ?_|refine kA ?_ _));refine blk_far ?_ NB118_123.out _;(with_reducible repeat (first|refine kN ?_ _|refine kD ?_|refine kA ?_ _));exact BK118.out⟩
         have n5_:Aside0 (((w86.setCell ⟨gb123,0,none⟩ (.int .i64 t102)).setCell ⟨gb123,1,none⟩ (.slice Ao85 t119.length co85)).heap[gb123]?=some (.cells #[.int .i64 t102,.slice Ao85 t119.length co85] 36 (0,0))):=⟨by (with_reducible repeat (first|refine kN ?_ _|refine kD ?_|refine kA ?_ _));refine blk_put (cs:=#[.int .i64 t102,.slice none 0 0]) ?_ 1 _ rfl;(with_reducible repeat (first|refine kN ?_ _|refine kD ?_|refine kA ?_ _));refine blk_put (cs:=#[.int .i64 0,.slice none 0 0]) ?_ 0 _ rfl;(with_reducible repeat (first|refine kN ?_ _|refine kD ?_|refine kA ?_ _));exact BK123.out⟩
         have n6_:Aside0 (Below w.heap.size w ((w86.setCell ⟨gb123,0,none⟩ (.int .i64 t102)).setCell ⟨gb123,1,none⟩ (.slice Ao85 t119.length co85))):=⟨by repeat (first|(with_reducible first|exact HB.out|apply bA|apply bN|apply bD|refine bS ?_ GE107.out|refine bS ?_ GE118.out|refine bS ?_ GE123.out)|exact HB.out)⟩
         (try clear HO_108001)
         (try clear HO116)
         (try clear HO122)
         (try clear BK107)
         (try clear BK118)
         (try clear BK123)
         (try clear HB)
         generalize ((w86.setCell ⟨gb123,0,none⟩ (.int .i64 t102)).setCell ⟨gb123,1,none⟩ (.slice Ao85 t119.length co85))=w90 at n0_ n1_ n2_ n3_ n4_ n5_ n6_ ⊢
         have HO_108001:=n0_
         have HO116:=n1_
         have HO122:=n2_
         have BK107:=n3_
         have BK118:=n4_
         have BK123:=n5_
         have HB:=n6_
         clear n0_ n1_ n2_ n3_ n4_ n5_ n6_
         have n0_:=mA (rD HO_108001.out)
         have n1_:=mA (rD HO116.out)
         have n2_:=mA (rD HO122.out)
         have n3_:=mA (kD BK107.out)
         have n4_:=mA (kD BK118.out)
         have n5_:=mA (kD BK123.out)
         have n6_:=mA (bD HB.out)
         clear HO_108001
         clear HO116
         clear HO122
         clear BK107
         clear BK118
         clear BK123
         clear HB
         have HO_108001:=n0_
         have HO116:=n1_
         have HO122:=n2_
         have BK107:=n3_
         have BK118:=n4_
         have BK123:=n5_
         have HB:=n6_
         clear n0_ n1_ n2_ n3_ n4_ n5_ n6_
         refine start_ (n:=34) (S:=fun w'=>w'.cell? ⟨gb118,0,none⟩=some (.int .i64 t113)∧w'.cell? ⟨gb118,1,none⟩=some (.slice Ao81 t114.length co81)) (ds:=[]) #[O,O,O,O,O,O,O,O,O,O,O,O,O,O,O,O,O,O,O,O,O,O,O,O,O,O,O,O,O,O,O,O,O,O] (by kernel_rfl) rfl rfl ⟨(kC BK118.out 0).trans rfl,(kC BK118.out 1).trans rfl⟩ (fun hHeld=>?_);refine with_tabW laws_FnMaySay.tab12 laws_FnMaySay.bits12 (fun HT_ HW_=>?_)
         generalize w90.drew=w91 at HO_108001 HO116 HO122 BK107 BK118 BK123 HB hHeld ⊢
         refine pure_ (i:=0) (N:=some 63) (v:=?_) (a':=?_) #[I,O,O,O,O,O,O,O,O,O,O,O,O,O,O,O,O,O,O,O,O,O,O,O,O,O,O,O,O,O,O,O,O,O] rfl rfl (any_of HT_.out (by kernel_rfl)) (fun _ _ _ h=>h) (Or.inl ⟨by rfl,?_⟩) ?_ ?_
         rotate_left
         ·intro w'
          go_simp
          with_reducible rfl
         rotate_left
         ·simp only [Act.put,sA,sZ,sS,i64_w,i32_w]
          rfl
         refine pure_ (i:=1) (N:=some 64) (v:=?_) (a':=?_) #[I,I,O,O,O,O,O,O,O,O,O,O,O,O,O,O,O,O,O,O,O,O,O,O,O,O,O,O,O,O,O,O,O,O] rfl rfl (any_of HT_.out (by kernel_rfl)) (fun _ _ _ h=>h) (Or.inl ⟨by rfl,?_⟩) ?_ ?_
         rotate_left
         ·intro w'
          go_simp
          with_reducible rfl
         rotate_left
         ·simp only [Act.put,sA,sZ,sS,i64_w,i32_w]
          rfl
         refine pure_ (i:=2) (N:=some 65) (v:=?_) (a':=?_) #[I,I,I,O,O,O,O,O,O,O,O,O,O,O,O,O,O,O,O,O,O,O,O,O,O,O,O,O,O,O,O,O,O,O] rfl rfl (any_of HT_.out (by kernel_rfl)) (fun _ _ _ h=>h) (Or.inl ⟨by rfl,?_⟩) ?_ ?_
         rotate_left
         ·intro w'
          go_simp
          with_reducible rfl
         rotate_left
         ·simp only [Act.put,sA,sZ,sS,i64_w,i32_w]
          rfl
         refine pure_ (i:=3) (N:=some 66) (v:=?_) (a':=?_) #[I,I,I,I,O,O,O,O,O,O,O,O,O,O,O,O,O,O,O,O,O,O,O,O,O,O,O,O,O,O,O,O,O,O] rfl rfl (any_of HT_.out (by kernel_rfl)) (fun _ _ _ h=>h) (Or.inl ⟨by rfl,?_⟩) ?_ ?_
         rotate_left
         ·intro w'
          go_simp
          with_reducible rfl
         rotate_left
         ·simp only [Act.put,sA,sZ,sS,i64_w,i32_w]
          rfl
         refine pure_ (i:=5) (N:=some 68) (v:=?_) (a':=?_) #[I,I,I,I,O,I,O,O,O,O,O,O,O,O,O,O,O,O,O,O,O,O,O,O,O,O,O,O,O,O,O,O,O,O] rfl rfl (any_of HT_.out (by kernel_rfl)) (fun _ _ _ h=>h) (Or.inl ⟨by rfl,?_⟩) ?_ ?_
         rotate_left
         ·intro w'
          go_simp
          with_reducible rfl
         rotate_left
         ·simp only [Act.put,sA,sZ,sS,i64_w,i32_w]
          rfl
         refine pure_ (i:=7) (N:=some 70) (v:=?_) (a':=?_) #[I,I,I,I,O,I,O,I,O,O,O,O,O,O,O,O,O,O,O,O,O,O,O,O,O,O,O,O,O,O,O,O,O,O] rfl rfl (any_of HT_.out (by kernel_rfl)) (fun _ _ _ h=>h) (Or.inl ⟨by rfl,?_⟩) ?_ ?_
         rotate_left
         ·intro w'
          go_simp
          with_reducible rfl
         rotate_left
         ·simp only [Act.put,sA,sZ,sS,i64_w,i32_w]
          rfl
         refine take_ (i:=4) (N:=some 67) (v:=?_) (a':=?_) #[I,I,I,I,I,I,O,I,O,O,O,O,O,O,O,O,O,O,O,O,O,O,O,O,O,O,O,O,O,O,O,O,O,O] rfl rfl (take_ofW HT_.out HW_.out (by kernel_rfl)) (fun _ _ _ h=>h) (Or.inl ⟨by rfl,?_⟩) hHeld ?_ ?_
         rotate_left
         ·rintro w' ⟨s0,s1⟩
          go_simp
          with_reducible rfl
         rotate_left
         ·simp only [Act.put,sA,sZ,sS,i64_w,i32_w]
          rfl
         refine one_ (i:=6) (N:=some 69) #[I,I,I,I,I,I,I,I,O,O,O,O,O,O,O,O,O,O,O,O,O,O,O,O,O,O,O,O,O,O,O,O,O,O] rfl rfl (one_of HT_.out (by kernel_rfl)) (by decide) (fun K hK=>?_)
         refine goes_ Try.func35 (by kernel_rfl) rfl #[.int .i64 t101,.agg #[.int .i64 t113,.slice Ao81 t114.length co81],.int .i64 t106] (by rfl) rfl rfl (by (try simp only [mT,mC,mN]);first|done|rfl|(simp only [lD,lT];rfl)) ?_
         with_reducible refine (impl_MaySay.calls kj6 t101 t113 _ _ t114 t106 t124 _ ?side1 ?side2 A28.out).mono ?_
         (case side1=>repeat (first|exact (rR HO116.out).2.2|(with_reducible refine cA ?_ _)|(with_reducible refine cN ?_ _)|(with_reducible refine cD ?_)))
         (case side2=>exact (rR HO116.out).2.1)
         rintro e w92 ⟨rfl,hb⟩
         refine ⟨_,rfl,?_⟩
         have n0_:=mA (rB (by (with_reducible repeat (first|apply rA|apply rN|apply rD));exact HO_108001.out) hb)
         have n1_:=mA (rB (by (with_reducible repeat (first|apply rA|apply rN|apply rD));exact HO116.out) hb)
         have n2_:=mA (rB (by (with_reducible repeat (first|apply rA|apply rN|apply rD));exact HO122.out) hb)
         have n3_:=mA (blk_below (g:=gb107) (o:=.cells #[.int .i64 t102,.slice Ao11 t103.length co11] 36 (0,0)) (by (with_reducible repeat (first|refine kN ?_ _|refine kD ?_|refine kA ?_ _));exact BK107.out) hb)
         have n4_:=mA (blk_below (g:=gb118) (o:=.cells #[.int .i64 t113,.slice Ao81 t114.length co81] 36 (0,0)) (by (with_reducible repeat (first|refine kN ?_ _|refine kD ?_|refine kA ?_ _));exact BK118.out) hb)
         have n5_:=mA (blk_below (g:=gb123) (o:=.cells #[.int .i64 t102,.slice Ao85 t119.length co85] 36 (0,0)) (by (with_reducible repeat (first|refine kN ?_ _|refine kD ?_|refine kA ?_ _));exact BK123.out) hb)
         have n6_:=mA (bT (by repeat (first|(with_reducible first|exact HB.out|apply bA|apply bN|apply bD|refine bS ?_ GE107.out|refine bS ?_ GE118.out|refine bS ?_ GE123.out)|exact HB.out)) hb)
         clear HO_108001
         clear HO116
         clear HO122
         clear BK107
         clear BK118
         clear BK123
         clear HB
         have HO_108001:=n0_
         have HO116:=n1_
         have HO122:=n2_
         have BK107:=n3_
         have BK118:=n4_
         have BK123:=n5_
         have HB:=n6_
         clear n0_ n1_ n2_ n3_ n4_ n5_ n6_
         (try clear hb)
         (try clear hb2)
         (try clear hk)
         (try clear hi)
         refine hK.out _ _ ⟨(kC BK118.out 0).trans rfl,(kC BK118.out 1).trans rfl⟩ (fun hHeld=>?_)
         clear hK K
         refine norm_ (a':=?_) ?_ ?_
         rotate_left
         ·show Act.put _ (some 69) _=_
          simp only [Act.put,sA,sZ,sS,i64_w,i32_w]
          rfl
         refine pure_ (i:=8) (N:=some 71) (v:=?_) (a':=?_) #[I,I,I,I,I,I,I,I,I,O,O,O,O,O,O,O,O,O,O,O,O,O,O,O,O,O,O,O,O,O,O,O,O,O] rfl rfl (any_of HT_.out (by kernel_rfl)) (fun _ _ _ h=>h) (Or.inl ⟨by rfl,?_⟩) ?_ ?_
         rotate_left
         ·intro w'
          go_simp
          with_reducible rfl
         rotate_left
         ·simp only [Act.put,sA,sZ,sS,i64_w,i32_w]
          rfl
         refine pure_ (i:=9) (N:=some 72) (v:=?_) (a':=?_) #[I,I,I,I,I,I,I,I,I,I,O,O,O,O,O,O,O,O,O,O,O,O,O,O,O,O,O,O,O,O,O,O,O,O] rfl rfl (any_of HT_.out (by kernel_rfl)) (fun _ _ _ h=>h) (Or.inl ⟨by rfl,?_⟩) ?_ ?_
         rotate_left
         ·intro w'
          go_simp
          with_reducible rfl
         rotate_left
         ·simp only [Act.put,sA,sZ,sS,i64_w,i32_w]
          rfl
         refine pure_ (i:=10) (N:=some 73) (v:=?_) (a':=?_) #[I,I,I,I,I,I,I,I,I,I,I,O,O,O,O,O,O,O,O,O,O,O,O,O,O,O,O,O,O,O,O,O,O,O] rfl rfl (any_of HT_.out (by kernel_rfl)) (fun _ _ _ h=>h) (Or.inl ⟨by rfl,?_⟩) ?_ ?_
         rotate_left
         ·intro w'
          go_simp
          with_reducible rfl
         rotate_left
         ·simp only [Act.put,sA,sZ,sS,i64_w,i32_w]
          rfl
         refine pure_ (i:=11) (N:=some 74) (v:=?_) (a':=?_) #[I,I,I,I,I,I,I,I,I,I,I,I,O,O,O,O,O,O,O,O,O,O,O,O,O,O,O,O,O,O,O,O,O,O] rfl rfl (any_of HT_.out (by kernel_rfl)) (fun _ _ _ h=>h) (Or.inl ⟨by rfl,?_⟩) ?_ ?_
         rotate_left
         ·intro w'
          go_simp
          with_reducible rfl
         rotate_left
         ·simp only [Act.put,sA,sZ,sS,i64_w,i32_w]
          rfl
         refine pure_ (i:=12) (N:=some 75) (v:=?_) (a':=?_) #[I,I,I,I,I,I,I,I,I,I,I,I,I,O,O,O,O,O,O,O,O,O,O,O,O,O,O,O,O,O,O,O,O,O] rfl rfl (any_of HT_.out (by kernel_rfl)) (fun _ _ _ h=>h) (Or.inl ⟨by rfl,?_⟩) ?_ ?_
         rotate_left
         ·intro w'
          go_simp
          with_reducible rfl
         rotate_left
         ·simp only [Act.put,sA,sZ,sS,i64_w,i32_w]
          rfl
         refine pure_ (i:=13) (N:=some 76) (v:=?_) (a':=?_) #[I,I,I,I,I,I,I,I,I,I,I,I,I,I,O,O,O,O,O,O,O,O,O,O,O,O,O,O,O,O,O,O,O,O] rfl rfl (any_of HT_.out (by kernel_rfl)) (fun _ _ _ h=>h) (Or.inl ⟨by rfl,?_⟩) ?_ ?_
         rotate_left
         ·intro w'
          go_simp
          with_reducible rfl
         rotate_left
         ·simp only [Act.put,sA,sZ,sS,i64_w,i32_w]
          rfl
         refine pure_ (i:=14) (N:=some 77) (v:=undef) (a':=?_) #[I,I,I,I,I,I,I,I,I,I,I,I,I,I,I,O,O,O,O,O,O,O,O,O,O,O,O,O,O,O,O,O,O,O] rfl rfl (any_of HT_.out (by kernel_rfl)) (fun _ _ _ h=>h) (Or.inr ⟨by rfl,rfl⟩) ?_ ?_
         rotate_left
         ·simp only [Act.put,sA,sZ,sS,i64_w,i32_w]
          rfl
         refine pure_ (i:=15) (N:=some 78) (v:=undef) (a':=?_) #[I,I,I,I,I,I,I,I,I,I,I,I,I,I,I,I,O,O,O,O,O,O,O,O,O,O,O,O,O,O,O,O,O,O] rfl rfl (any_of HT_.out (by kernel_rfl)) (fun _ _ _ h=>h) (Or.inr ⟨by rfl,rfl⟩) ?_ ?_
         rotate_left
         ·simp only [Act.put,sA,sZ,sS,i64_w,i32_w]
          rfl
         refine pure_ (i:=16) (N:=some 79) (v:=undef) (a':=?_) #[I,I,I,I,I,I,I,I,I,I,I,I,I,I,I,I,I,O,O,O,O,O,O,O,O,O,O,O,O,O,O,O,O,O] rfl rfl (any_of HT_.out (by kernel_rfl)) (fun _ _ _ h=>h) (Or.inr ⟨by rfl,rfl⟩) ?_ ?_
         rotate_left
         ·simp only [Act.put,sA,sZ,sS,i64_w,i32_w]
          rfl
         refine pure_ (i:=17) (N:=some 80) (v:=undef) (a':=?_) #[I,I,I,I,I,I,I,I,I,I,I,I,I,I,I,I,I,I,O,O,O,O,O,O,O,O,O,O,O,O,O,O,O,O] rfl rfl (any_of HT_.out (by kernel_rfl)) (fun _ _ _ h=>h) (Or.inr ⟨by rfl,rfl⟩) ?_ ?_
         rotate_left
         ·simp only [Act.put,sA,sZ,sS,i64_w,i32_w]
          rfl
         refine pure_ (i:=18) (N:=some 81) (v:=?_) (a':=?_) #[I,I,I,I,I,I,I,I,I,I,I,I,I,I,I,I,I,I,I,O,O,O,O,O,O,O,O,O,O,O,O,O,O,O] rfl rfl (any_of HT_.out (by kernel_rfl)) (fun _ _ _ h=>h) (Or.inl ⟨by rfl,?_⟩) ?_ ?_
         rotate_left
         ·intro w'
          go_simp
          with_reducible rfl
         rotate_left
         ·simp only [Act.put,sA,sZ,sS,i64_w,i32_w]
          rfl
         refine pure_ (i:=19) (N:=some 82) (v:=?_) (a':=?_) #[I,I,I,I,I,I,I,I,I,I,I,I,I,I,I,I,I,I,I,I,O,O,O,O,O,O,O,O,O,O,O,O,O,O] rfl rfl (any_of HT_.out (by kernel_rfl)) (fun _ _ _ h=>h) (Or.inl ⟨by rfl,?_⟩) ?_ ?_
         rotate_left
         ·intro w'
          go_simp
          with_reducible rfl
         rotate_left
         ·simp only [Act.put,sA,sZ,sS,i64_w,i32_w]
          rfl
         refine pure_ (i:=20) (N:=some 83) (v:=undef) (a':=?_) #[I,I,I,I,I,I,I,I,I,I,I,I,I,I,I,I,I,I,I,I,I,O,O,O,O,O,O,O,O,O,O,O,O,O] rfl rfl (any_of HT_.out (by kernel_rfl)) (fun _ _ _ h=>h) (Or.inr ⟨by rfl,rfl⟩) ?_ ?_
         rotate_left
         ·simp only [Act.put,sA,sZ,sS,i64_w,i32_w]
          rfl
         refine pure_ (i:=21) (N:=some 84) (v:=undef) (a':=?_) #[I,I,I,I,I,I,I,I,I,I,I,I,I,I,I,I,I,I,I,I,I,I,O,O,O,O,O,O,O,O,O,O,O,O] rfl rfl (any_of HT_.out (by kernel_rfl)) (fun _ _ _ h=>h) (Or.inr ⟨by rfl,rfl⟩) ?_ ?_
         rotate_left
         ·simp only [Act.put,sA,sZ,sS,i64_w,i32_w]
          rfl
         refine pure_ (i:=22) (N:=some 85) (v:=undef) (a':=?_) #[I,I,I,I,I,I,I,I,I,I,I,I,I,I,I,I,I,I,I,I,I,I,I,O,O,O,O,O,O,O,O,O,O,O] rfl rfl (any_of HT_.out (by kernel_rfl)) (fun _ _ _ h=>h) (Or.inr ⟨by rfl,rfl⟩) ?_ ?_
         rotate_left
         ·simp only [Act.put,sA,sZ,sS,i64_w,i32_w]
          rfl
         refine pure_ (i:=23) (N:=some 86) (v:=undef) (a':=?_) #[I,I,I,I,I,I,I,I,I,I,I,I,I,I,I,I,I,I,I,I,I,I,I,I,O,O,O,O,O,O,O,O,O,O] rfl rfl (any_of HT_.out (by kernel_rfl)) (fun _ _ _ h=>h) (Or.inr ⟨by rfl,rfl⟩) ?_ ?_
         rotate_left
         ·simp only [Act.put,sA,sZ,sS,i64_w,i32_w]
          rfl
         refine pure_ (i:=24) (N:=some 87) (v:=undef) (a':=?_) #[I,I,I,I,I,I,I,I,I,I,I,I,I,I,I,I,I,I,I,I,I,I,I,I,I,O,O,O,O,O,O,O,O,O] rfl rfl (any_of HT_.out (by kernel_rfl)) (fun _ _ _ h=>h) (Or.inr ⟨by rfl,rfl⟩) ?_ ?_
         rotate_left
         ·simp only [Act.put,sA,sZ,sS,i64_w,i32_w]
          rfl
         refine pure_ (i:=25) (N:=some 88) (v:=undef) (a':=?_) #[I,I,I,I,I,I,I,I,I,I,I,I,I,I,I,I,I,I,I,I,I,I,I,I,I,I,O,O,O,O,O,O,O,O] rfl rfl (any_of HT_.out (by kernel_rfl)) (fun _ _ _ h=>h) (Or.inr ⟨by rfl,rfl⟩) ?_ ?_
         rotate_left
         ·simp only [Act.put,sA,sZ,sS,i64_w,i32_w]
          rfl
         refine pure_ (i:=26) (N:=some 89) (v:=undef) (a':=?_) #[I,I,I,I,I,I,I,I,I,I,I,I,I,I,I,I,I,I,I,I,I,I,I,I,I,I,I,O,O,O,O,O,O,O] rfl rfl (any_of HT_.out (by kernel_rfl)) (fun _ _ _ h=>h) (Or.inr ⟨by rfl,rfl⟩) ?_ ?_
         rotate_left
         ·simp only [Act.put,sA,sZ,sS,i64_w,i32_w]
          rfl
         refine pure_ (i:=27) (N:=some 90) (v:=undef) (a':=?_) #[I,I,I,I,I,I,I,I,I,I,I,I,I,I,I,I,I,I,I,I,I,I,I,I,I,I,I,I,O,O,O,O,O,O] rfl rfl (any_of HT_.out (by kernel_rfl)) (fun _ _ _ h=>h) (Or.inr ⟨by rfl,rfl⟩) ?_ ?_
         rotate_left
         ·simp only [Act.put,sA,sZ,sS,i64_w,i32_w]
          rfl
         refine pure_ (i:=28) (N:=some 91) (v:=?_) (a':=?_) #[I,I,I,I,I,I,I,I,I,I,I,I,I,I,I,I,I,I,I,I,I,I,I,I,I,I,I,I,I,O,O,O,O,O] rfl rfl (any_of HT_.out (by kernel_rfl)) (fun _ _ _ h=>h) (Or.inl ⟨by rfl,?_⟩) ?_ ?_
         rotate_left
         ·intro w'
          go_simp
          with_reducible rfl
         rotate_left
         ·simp only [Act.put,sA,sZ,sS,i64_w,i32_w]
          rfl
         refine pure_ (i:=29) (N:=some 92) (v:=?_) (a':=?_) #[I,I,I,I,I,I,I,I,I,I,I,I,I,I,I,I,I,I,I,I,I,I,I,I,I,I,I,I,I,I,O,O,O,O] rfl rfl (any_of HT_.out (by kernel_rfl)) (fun _ _ _ h=>h) (Or.inl ⟨by rfl,?_⟩) ?_ ?_
         rotate_left
         ·intro w'
          go_simp
          with_reducible rfl
         rotate_left
         ·simp only [Act.put,sA,sZ,sS,i64_w,i32_w]
          rfl
         refine pure_ (i:=30) (N:=some 93) (v:=?_) (a':=?_) #[I,I,I,I,I,I,I,I,I,I,I,I,I,I,I,I,I,I,I,I,I,I,I,I,I,I,I,I,I,I,I,O,O,O] rfl rfl (any_of HT_.out (by kernel_rfl)) (fun _ _ _ h=>h) (Or.inl ⟨by rfl,?_⟩) ?_ ?_
         rotate_left
         ·intro w'
          go_simp
          with_reducible rfl
         rotate_left
         ·simp only [Act.put,sA,sZ,sS,i64_w,i32_w]
          rfl
         refine one_ (i:=31) (N:=some 94) #[I,I,I,I,I,I,I,I,I,I,I,I,I,I,I,I,I,I,I,I,I,I,I,I,I,I,I,I,I,I,I,I,O,O] rfl rfl (one_of HT_.out (by kernel_rfl)) (by decide) (fun K hK=>?_)
         refine goes_ Try.func26 (by kernel_rfl) rfl #[] (by rfl) rfl rfl (by (try simp only [mT,mC,mN]);first|done|rfl|(simp only [lD,lT];rfl)) ?_
         with_reducible refine (laws_alive.calls  t130 _ A75.out).mono ?_
         rintro e w' ⟨rfl,⟨nd,rfl⟩⟩
         refine ⟨_,rfl,?_⟩
         refine hK.out _ _ ⟨(kC BK118.out 0).trans rfl,(kC BK118.out 1).trans rfl⟩ (fun hHeld=>?_)
         clear hK K
         refine norm_ (a':=?_) ?_ ?_
         rotate_left
         ·show Act.put _ (some 94) _=_
          simp only [Act.put,sA,sZ,sS,i64_w,i32_w]
          rfl
         refine pure_ (i:=32) (N:=some 95) (v:=?_) (a':=?_) #[I,I,I,I,I,I,I,I,I,I,I,I,I,I,I,I,I,I,I,I,I,I,I,I,I,I,I,I,I,I,I,I,I,O] rfl rfl (any_of HT_.out (by kernel_rfl)) (fun _ _ _ h=>h) (Or.inl ⟨by rfl,?_⟩) ?_ ?_
         rotate_left
         ·intro w'
          go_simp
          with_reducible rfl
         rotate_left
         ·simp only [Act.put,sA,sZ,sS,i64_w,i32_w]
          rfl
         refine pure_ (i:=33) (N:=some 2) (v:=?_) (a':=?_) #[I,I,I,I,I,I,I,I,I,I,I,I,I,I,I,I,I,I,I,I,I,I,I,I,I,I,I,I,I,I,I,I,I,I] rfl rfl (any_of HT_.out (by kernel_rfl)) (fun _ _ _ h=>h) (Or.inl ⟨by rfl,?_⟩) ?_ ?_
         rotate_left
         ·intro w'
          go_simp
          with_reducible rfl
         rotate_left
         ·simp only [Act.put,sA,sZ,sS,i64_w,i32_w]
          rfl
         refine done_ (done_of HT_.out (by kernel_rfl)) ?_
         try go_wp2
         go_ret
         exact ⟨by first|rfl|(simp [errW_none,errW_some]<;>rfl)|(simp [*, errW_none,errW_some]<;>rfl),by repeat (first|(with_reducible first|exact HB.out|apply bA|apply bN|apply bD|refine bS ?_ GE107.out|refine bS ?_ GE118.out|refine bS ?_ GE123.out)|exact HB.out)⟩
       ·rw [if_neg c29] at H
        have c29b0:(t124 != t108)=false:=by simpa using c29
        (try (have c29b1:decide (t124=t108)=true:=by simpa using c29))
        (try (have c29b2:(t124==t108)=true:=by simpa using c29))
        clear c29
        exact absurd ((Option.some.inj H).trans hr_.out) (by decide)
      ·replace c27:=Bool.eq_false_iff.mpr c27
       subst c27
       have H1:(if t120=true then ((spec_ClaimOk.f kj6 t101 t102 t119).bind fun t131=>(if t131=true then ((impl_OppositeWorld.f t101 t106).bind fun t132=>((impl_MaySay.f kj6 t101 t102 t119 t132).bind fun t133=>(if (t133 != t108)=true then ((laws_alive.f).bind fun t134=>(some t134)) else (some false)))) else ((laws_alive.f).bind fun t135=>(some t135)))) else ((laws_alive.f).bind fun t136=>(some t136)))=some r:=by rw [if_neg (show ¬ (false=true) by decide)] at H;exact H
       clear H
       have H:=H1
       clear H1
       by_cases c93:t120=true
       ·subst c93
        have H1:((spec_ClaimOk.f kj6 t101 t102 t119).bind fun t131=>(if t131=true then ((impl_OppositeWorld.f t101 t106).bind fun t132=>((impl_MaySay.f kj6 t101 t102 t119 t132).bind fun t133=>(if (t133 != t108)=true then ((laws_alive.f).bind fun t134=>(some t134)) else (some false)))) else ((laws_alive.f).bind fun t135=>(some t135))))=some r:=by rw [if_pos rfl] at H;exact H
        clear H
        have H:=H1
        clear H1
        replace H:=Option.bind_eq_some_iff.mp H
        obtain ⟨t131,A940,H⟩:=H
        replace H:(if t131=true then ((impl_OppositeWorld.f t101 t106).bind fun t132=>((impl_MaySay.f kj6 t101 t102 t119 t132).bind fun t133=>(if (t133 != t108)=true then ((laws_alive.f).bind fun t134=>(some t134)) else (some false)))) else ((laws_alive.f).bind fun t135=>(some t135)))=some r:=H
        have A94:=mA A940
        clear A940
        by_cases c95:t131=true
        ·subst c95
         have H1:((impl_OppositeWorld.f t101 t106).bind fun t132=>((impl_MaySay.f kj6 t101 t102 t119 t132).bind fun t133=>(if (t133 != t108)=true then ((laws_alive.f).bind fun t134=>(some t134)) else (some false))))=some r:=by rw [if_pos rfl] at H;exact H
         clear H
         have H:=H1
         clear H1
         replace H:=Option.bind_eq_some_iff.mp H
         obtain ⟨t132,A960,H⟩:=H
         replace H:((impl_MaySay.f kj6 t101 t102 t119 t132).bind fun t133=>(if (t133 != t108)=true then ((laws_alive.f).bind fun t134=>(some t134)) else (some false)))=some r:=H
         have A96:=mA A960
         clear A960
         replace H:=Option.bind_eq_some_iff.mp H
         obtain ⟨t133,A970,H⟩:=H
         replace H:(if (t133 != t108)=true then ((laws_alive.f).bind fun t134=>(some t134)) else (some false))=some r:=H
         have A97:=mA A970
         clear A970
         by_cases c98:(t133 != t108)=true
         ·rw [if_pos c98] at H
          have c98b0:(t133 != t108)=true:=c98
          (try (have c98b1:decide (t133=t108)=false:=by simpa using c98))
          (try (have c98b2:(t133==t108)=false:=by simpa using c98))
          (try (have c98b3 : ¬ (t133=t108):=by simpa using c98))
          clear c98
          replace H:=Option.bind_eq_some_iff.mp H
          obtain ⟨t134,A990,H⟩:=H
          replace H:(some t134)=some r:=H
          have A99:=mA A990
          clear A990
          obtain rfl:=Option.some.inj H
          have hcz100_0:wc.cell? ⟨gb107,0,none⟩=some (.int .i64 t102):=(kC BK107.out 0).trans rfl
          have hcz100_1:wc.cell? ⟨gb107,1,none⟩=some (.slice Ao11 t103.length co11):=(kC BK107.out 1).trans rfl
          have hfz100_0:=kF BK107.out 0
          have hfz100_1:=kF BK107.out 1
          try go_wp2_with (first|((with_reducible refine gate_callee (f:=39) rfl ?_);refine goesL_ (some 49) rfl rfl Try.func39 (by kernel_rfl) rfl #[.int .i64 t101,.agg #[.int .i64 t102,.slice Ao11 t103.length co11]] rfl (by (try simp only [mT,mC,mN]);first|done|rfl|(simp only [lD,lT];rfl)) ?_;(with_reducible refine (impl_DenyClaim.calls kj6 t101 t102 _ _ t103 t113 t114 false _ ?side1 ?side2 A25.out).mono ?_);(case side1=>repeat (first|exact (rR HO_108001.out).2.2|(with_reducible refine cA ?_ _)|(with_reducible refine cN ?_ _)|(with_reducible refine cD ?_)));(case side2=>exact (rR HO_108001.out).2.1);rintro e w101 ⟨v115,rfl,ho0,hb⟩;refine ⟨_,rfl,?_⟩;have n0_:=mA (Kd.R_elder' (by (with_reducible repeat (first|apply rA|apply rN|apply rD));exact HO_108001.out) (Kd.R_base ho0) hb);have n1_:=mA (Kd.R_lower (Kd.R_new' ho0 (rL (by (with_reducible repeat (first|apply rA|apply rN|apply rD));exact HO_108001.out))) (bZ (by repeat (first|(with_reducible first|exact HB.out|apply bA|apply bN|apply bD|refine bS ?_ GE107.out)|exact HB.out))));have n2_:=mA (blk_below (g:=gb107) (o:=.cells #[.int .i64 t102,.slice Ao11 t103.length co11] 36 (0,0)) (by (with_reducible repeat (first|refine kN ?_ _|refine kD ?_|refine kA ?_ _));exact BK107.out) hb);have n3_:=mA (bT (by repeat (first|(with_reducible first|exact HB.out|apply bA|apply bN|apply bD|refine bS ?_ GE107.out)|exact HB.out)) hb);clear HO_108001 BK107 HB;have HO_108001:=n0_;have HO116:=n1_;have BK107:=n2_;have HB:=n3_;clear n0_ n1_ n2_ n3_;(try clear hb);(try clear hb2);(try clear hk);(try clear hi);(try clear ho0))|((with_reducible refine gate_dst (N:=7) rfl ?_);refine box_event ?hg (N:=7) ?hd (cs:=#[.int .i64 0,.slice none 0 0]) (t:=36) ?hr ?_;(case hd=>rfl);(case hg=>rfl);(case hr=>first|(go_simp;done)|(go_simp;rfl));intro gb118 hg w102 hbox hb;have n0_:=mA (rB (by (with_reducible repeat (first|apply rA|apply rN|apply rD));exact HO_108001.out) hb);have n1_:=mA (rB (by (with_reducible repeat (first|apply rA|apply rN|apply rD));exact HO116.out) hb);have n2_:=mA (blk_below (g:=gb107) (o:=.cells #[.int .i64 t102,.slice Ao11 t103.length co11] 36 (0,0)) (by (with_reducible repeat (first|refine kN ?_ _|refine kD ?_|refine kA ?_ _));exact BK107.out) hb);have n3_:=mA (bT (by repeat (first|(with_reducible first|exact HB.out|apply bA|apply bN|apply bD|refine bS ?_ GE107.out)|exact HB.out)) hb);have n4_:=mA (hbox);have n5_:=mA ((by rw [hg];exact (bZ (by repeat (first|(with_reducible first|exact HB.out|apply bA|apply bN|apply bD|refine bS ?_ GE107.out)|exact HB.out))):w.heap.size≤gb118));have n6_:=mA ((by rw [hg];exact (bZ (by repeat (first|(with_reducible first|exact HB.out|apply bA|apply bN|apply bD|refine bS ?_ GE107.out)|exact HB.out))):w.heap.size≤gb118));have n7_:=mA ((by rw [hg];exact Nat.ne_of_lt (blk_lt (g:=gb107) (o:=.cells #[.int .i64 t102,.slice Ao11 t103.length co11] 36 (0,0)) (by (with_reducible repeat (first|refine kN ?_ _|refine kD ?_|refine kA ?_ _));exact BK107.out)):gb107≠gb118));have n8_:=mA ((by rw [hg];exact Nat.ne_of_gt (blk_lt (g:=gb107) (o:=.cells #[.int .i64 t102,.slice Ao11 t103.length co11] 36 (0,0)) (by (with_reducible repeat (first|refine kN ?_ _|refine kD ?_|refine kA ?_ _));exact BK107.out)):gb118≠gb107));clear HO_108001 HO116 BK107 HB;have HO_108001:=n0_;have HO116:=n1_;have BK107:=n2_;have HB:=n3_;have BK118:=n4_;have GW118:=n5_;have GE118:=n6_;have NB107_118:=n7_;have NB118_107:=n8_;clear n0_ n1_ n2_ n3_ n4_ n5_ n6_ n7_ n8_ hb hbox hg;have hnb103:=NB118_107.out;have hnc103:=NB107_118.out;have hcz104_0:w102.cell? ⟨gb118,0,none⟩=some (.int .i64 0):=(kC BK118.out 0).trans rfl;have hcz104_1:w102.cell? ⟨gb118,1,none⟩=some (.slice none 0 0):=(kC BK118.out 1).trans rfl;have hfz104_0:=kF BK118.out 0;have hfz104_1:=kF BK118.out 1;obtain ⟨Ao105,co105,eo105⟩:=Kd.R_slice HO116.out;subst eo105;have hcz106_0:w102.cell? ⟨gb107,0,none⟩=some (.int .i64 t102):=(kC BK107.out 0).trans rfl;have hcz106_1:w102.cell? ⟨gb107,1,none⟩=some (.slice Ao11 t103.length co11):=(kC BK107.out 1).trans rfl;have hfz106_0:=kF BK107.out 0;have hfz106_1:=kF BK107.out 1)|((with_reducible refine gate_callee (f:=40) rfl ?_);refine goesL_ (some 56) rfl rfl Try.func40 (by kernel_rfl) rfl #[.int .i64 t101,.slice Ao11 t103.length co11] rfl (by (try simp only [mT,mC,mN]);first|done|rfl|(simp only [lD,lT];rfl)) ?_;(with_reducible refine (impl_MirrorTerm.calls kj6 t101 _ _ t103 t119 true _ ?side1 ?side2 A26.out).mono ?_);(case side1=>refine (rR (e:=33) (base:=w.heap.size) (ok:=fun k_=>(True∧some k_≠(.slice Ao105 t114.length co105:Value).ownBlock)) (n:=t103.length) (c:=co11) ?_).2.2;exact (by (with_reducible repeat (first|apply rA|apply rN|apply rD));exact (rM (rF (p:=⟨gb118,1,none⟩) (rF (p:=⟨gb118,0,none⟩) (Kd.R_types HO_108001.out BK118.out (by decide)) (fun _ hk=>hk.2) (.int .i64 t113)) (fun _ hk=>hk.2) (.slice Ao105 t114.length co105)) (fun _ h_=>h_.1))));(case side2=>exact (rR HO_108001.out).2.1);rintro e w107 ⟨v121,rfl,ho0,hb⟩;refine ⟨_,rfl,?_⟩;have n0_:=mA (Kd.R_elder' (by (with_reducible repeat (first|apply rA|apply rN|apply rD));exact (rM (rF (p:=⟨gb118,1,none⟩) (rF (p:=⟨gb118,0,none⟩) (Kd.R_types HO_108001.out BK118.out (by decide)) (fun _ hk=>hk.2) (.int .i64 t113)) (fun _ hk=>hk.2) (.slice Ao105 t114.length co105)) (fun _ h_=>h_.1))) (Kd.R_base ho0) hb);have n1_:=mA (Kd.R_elder' (by (with_reducible repeat (first|apply rA|apply rN|apply rD));exact (rM (rF (p:=⟨gb118,1,none⟩) (rF (p:=⟨gb118,0,none⟩) (Kd.R_types HO116.out BK118.out (by decide)) (fun _ hk=>hk.2) (.int .i64 t113)) (fun _ hk=>hk.2) (.slice Ao105 t114.length co105)) (fun _ h_=>h_.1))) (Kd.R_base ho0) hb);have n2_:=mA (Kd.R_lower (Kd.R_new' (Kd.R_new' ho0 (rL (by (with_reducible repeat (first|apply rA|apply rN|apply rD));exact (rM (rF (p:=⟨gb118,1,none⟩) (rF (p:=⟨gb118,0,none⟩) (Kd.R_types HO_108001.out BK118.out (by decide)) (fun _ hk=>hk.2) (.int .i64 t113)) (fun _ hk=>hk.2) (.slice Ao105 t114.length co105)) (fun _ h_=>h_.1))))) (rL (by (with_reducible repeat (first|apply rA|apply rN|apply rD));exact (rM (rF (p:=⟨gb118,1,none⟩) (rF (p:=⟨gb118,0,none⟩) (Kd.R_types HO116.out BK118.out (by decide)) (fun _ hk=>hk.2) (.int .i64 t113)) (fun _ hk=>hk.2) (.slice Ao105 t114.length co105)) (fun _ h_=>h_.1))))) (bZ (by repeat (first|(with_reducible first|exact HB.out|apply bA|apply bN|apply bD|refine bS ?_ GE107.out|refine bS ?_ GE118.out)|exact HB.out))));have n3_:=mA (blk_below (g:=gb107) (o:=.cells #[.int .i64 t102,.slice Ao11 t103.length co11] 36 (0,0)) (by (with_reducible repeat (first|refine kN ?_ _|refine kD ?_|refine kA ?_ _));refine blk_far ?_ NB107_118.out _;(with_reducible repeat (first|refine kN ?_ _|refine kD ?_|refine kA ?_ _));refine blk_far ?_ NB107_118.out _;(with_reducible repeat (first|refine kN ?_ _|refine kD ?_|refine kA ?_ _));exact BK107.out) hb);have n4_:=mA (blk_below (g:=gb118) (o:=.cells #[.int .i64 t113,.slice Ao105 t114.length co105] 36 (0,0)) (by (with_reducible repeat (first|refine kN ?_ _|refine kD ?_|refine kA ?_ _));refine blk_put (cs:=#[.int .i64 t113,.slice none 0 0]) ?_ 1 _ rfl;(with_reducible repeat (first|refine kN ?_ _|refine kD ?_|refine kA ?_ _));refine blk_put (cs:=#[.int .i64 0,.slice none 0 0]) ?_ 0 _ rfl;(with_reducible repeat (first|refine kN ?_ _|refine kD ?_|refine kA ?_ _));exact BK118.out) hb);have n5_:=mA (bT (by repeat (first|(with_reducible first|exact HB.out|apply bA|apply bN|apply bD|refine bS ?_ GE107.out|refine bS ?_ GE118.out)|exact HB.out)) hb);clear HO_108001 HO116 BK107 BK118 HB;have HO_108001:=n0_;have HO116:=n1_;have HO122:=n2_;have BK107:=n3_;have BK118:=n4_;have HB:=n5_;clear n0_ n1_ n2_ n3_ n4_ n5_;(try clear hb);(try clear hb2);(try clear hk);(try clear hi);(try clear ho0);have hcz108_0:w107.cell? ⟨gb107,0,none⟩=some (.int .i64 t102):=(kC BK107.out 0).trans rfl;have hcz108_1:w107.cell? ⟨gb107,1,none⟩=some (.slice Ao11 t103.length co11):=(kC BK107.out 1).trans rfl;have hfz108_0:=kF BK107.out 0;have hfz108_1:=kF BK107.out 1;obtain ⟨Ao109,co109,eo109⟩:=Kd.R_slice HO122.out;subst eo109)|((with_reducible refine gate_dst (N:=11) rfl ?_);refine box_event ?hg (N:=11) ?hd (cs:=#[.int .i64 0,.slice none 0 0]) (t:=36) ?hr ?_;(case hd=>rfl);(case hg=>rfl);(case hr=>first|(go_simp;done)|(go_simp;rfl));intro gb123 hg w110 hbox hb;have n0_:=mA (rB (by (with_reducible repeat (first|apply rA|apply rN|apply rD));exact HO_108001.out) hb);have n1_:=mA (rB (by (with_reducible repeat (first|apply rA|apply rN|apply rD));exact HO116.out) hb);have n2_:=mA (rB (by (with_reducible repeat (first|apply rA|apply rN|apply rD));exact HO122.out) hb);have n3_:=mA (blk_below (g:=gb107) (o:=.cells #[.int .i64 t102,.slice Ao11 t103.length co11] 36 (0,0)) (by (with_reducible repeat (first|refine kN ?_ _|refine kD ?_|refine kA ?_ _));exact BK107.out) hb);have n4_:=mA (blk_below (g:=gb118) (o:=.cells #[.int .i64 t113,.slice Ao105 t114.length co105] 36 (0,0)) (by (with_reducible repeat (first|refine kN ?_ _|refine kD ?_|refine kA ?_ _));exact BK118.out) hb);have n5_:=mA (bT (by repeat (first|(with_reducible first|exact HB.out|apply bA|apply bN|apply bD|refine bS ?_ GE107.out|refine bS ?_ GE118.out)|exact HB.out)) hb);have n6_:=mA (hbox);have n7_:=mA ((by rw [hg];exact (bZ (by repeat (first|(with_reducible first|exact HB.out|apply bA|apply bN|apply bD|refine bS ?_ GE107.out|refine bS ?_ GE118.out)|exact HB.out))):w.heap.size≤gb123));have n8_:=mA ((by rw [hg];exact (bZ (by repeat (first|(with_reducible first|exact HB.out|apply bA|apply bN|apply bD|refine bS ?_ GE107.out|refine bS ?_ GE118.out)|exact HB.out))):w.heap.size≤gb123));have n9_:=mA ((by rw [hg];exact Nat.ne_of_lt (blk_lt (g:=gb107) (o:=.cells #[.int .i64 t102,.slice Ao11 t103.length co11] 36 (0,0)) (by (with_reducible repeat (first|refine kN ?_ _|refine kD ?_|refine kA ?_ _));exact BK107.out)):gb107≠gb123));have n10_:=mA ((by rw [hg];exact Nat.ne_of_gt (blk_lt (g:=gb107) (o:=.cells #[.int .i64 t102,.slice Ao11 t103.length co11] 36 (0,0)) (by (with_reducible repeat (first|refine kN ?_ _|refine kD ?_|refine kA ?_ _));exact BK107.out)):gb123≠gb107));have n11_:=mA ((by rw [hg];exact Nat.ne_of_lt (blk_lt (g:=gb118) (o:=.cells #[.int .i64 t113,.slice Ao105 t114.length co105] 36 (0,0)) (by (with_reducible repeat (first|refine kN ?_ _|refine kD ?_|refine kA ?_ _));exact BK118.out)):gb118≠gb123));have n12_:=mA ((by rw [hg];exact Nat.ne_of_gt (blk_lt (g:=gb118) (o:=.cells #[.int .i64 t113,.slice Ao105 t114.length co105] 36 (0,0)) (by (with_reducible repeat (first|refine kN ?_ _|refine kD ?_|refine kA ?_ _));exact BK118.out)):gb123≠gb118));clear HO_108001 HO116 HO122 BK107 BK118 HB;have HO_108001:=n0_;have HO116:=n1_;have HO122:=n2_;have BK107:=n3_;have BK118:=n4_;have HB:=n5_;have BK123:=n6_;have GW123:=n7_;have GE123:=n8_;have NB107_123:=n9_;have NB123_107:=n10_;have NB118_123:=n11_;have NB123_118:=n12_;clear n0_ n1_ n2_ n3_ n4_ n5_ n6_ n7_ n8_ n9_ n10_ n11_ n12_ hb hbox hg;have hnb111:=NB123_107.out;have hnc111:=NB107_123.out;have hnb112:=NB123_118.out;have hnc112:=NB118_123.out;have hcz113_0:w110.cell? ⟨gb123,0,none⟩=some (.int .i64 0):=(kC BK123.out 0).trans rfl;have hcz113_1:w110.cell? ⟨gb123,1,none⟩=some (.slice none 0 0):=(kC BK123.out 1).trans rfl;have hfz113_0:=kF BK123.out 0;have hfz113_1:=kF BK123.out 1))
          have n0_:Aside0 (Kd.R k33 33 ((w110.setCell ⟨gb123,0,none⟩ (.int .i64 t102)).setCell ⟨gb123,1,none⟩ (.slice Ao109 t119.length co109)) w.heap.size (fun k_=>some k_≠(.slice Ao105 t114.length co105:Value).ownBlock∧some k_≠(.slice Ao109 t119.length co109:Value).ownBlock) (.slice Ao11 t103.length co11) t103):=⟨by (with_reducible repeat (first|apply rA|apply rN|apply rD));exact rM (rF (p:=⟨gb123,1,none⟩) (rF (p:=⟨gb123,0,none⟩) (Kd.R_types HO_108001.out BK123.out (by decide)) (fun _ hk=>hk.2) (.int .i64 t102)) (fun _ hk=>hk.2) (.slice Ao109 t119.length co109)) (fun _ hk=>⟨hk.1.1.2,hk.1.2⟩)⟩
          have n1_:Aside0 (Kd.R k33 33 ((w110.setCell ⟨gb123,0,none⟩ (.int .i64 t102)).setCell ⟨gb123,1,none⟩ (.slice Ao109 t119.length co109)) w.heap.size (fun k_=>some k_≠(.slice Ao11 t103.length co11:Value).ownBlock∧some k_≠(.slice Ao109 t119.length co109:Value).ownBlock) (.slice Ao105 t114.length co105) t114):=⟨by (with_reducible repeat (first|apply rA|apply rN|apply rD));exact rM (rF (p:=⟨gb123,1,none⟩) (rF (p:=⟨gb123,0,none⟩) (Kd.R_types HO116.out BK123.out (by decide)) (fun _ hk=>hk.2) (.int .i64 t102)) (fun _ hk=>hk.2) (.slice Ao109 t119.length co109)) (fun _ hk=>⟨hk.1.1.2,hk.1.2⟩)⟩
          have n2_:Aside0 (Kd.R k33 33 ((w110.setCell ⟨gb123,0,none⟩ (.int .i64 t102)).setCell ⟨gb123,1,none⟩ (.slice Ao109 t119.length co109)) w.heap.size (fun k_=>some k_≠(.slice Ao11 t103.length co11:Value).ownBlock∧some k_≠(.slice Ao105 t114.length co105:Value).ownBlock) (.slice Ao109 t119.length co109) t119):=⟨by (with_reducible repeat (first|apply rA|apply rN|apply rD));exact rM (rF (p:=⟨gb123,1,none⟩) (rF (p:=⟨gb123,0,none⟩) (Kd.R_types HO122.out BK123.out (by decide)) (fun _ hk=>hk.2) (.int .i64 t102)) (fun _ hk=>hk.2) (.slice Ao109 t119.length co109)) (fun _ hk=>⟨hk.1.1.2,hk.1.2⟩)⟩
          have n3_:Aside0 (((w110.setCell ⟨gb123,0,none⟩ (.int .i64 t102)).setCell ⟨gb123,1,none⟩ (.slice Ao109 t119.length co109)).heap[gb107]?=some (.cells #[.int .i64 t102,.slice Ao11 t103.length co11] 36 (0,0))):=⟨by (with_reducible repeat (first|refine kN ?_ _|refine kD ?_|refine kA ?_ _));refine blk_far ?_ NB107_123.out _;(with_reducible repeat (first|refine kN ?_ _|refine kD ?_|refine kA ?_ _));refine blk_far ?_ NB107_123.out _;(with_reducible repeat (first|refine kN ?_ _|refine kD ?_|refine kA ?_ _));exact BK107.out⟩
          have n4_:Aside0 (((w110.setCell ⟨gb123,0,none⟩ (.int .i64 t102)).setCell ⟨gb123,1,none⟩ (.slice Ao109 t119.length co109)).heap[gb118]?=some (.cells #[.int .i64 t113,.slice Ao105 t114.length co105] 36 (0,0))):=⟨by (with_reducible repeat (first|refine kN ?_ _|refine kD ?_|refine kA ?_ _));refine blk_far ?_ NB118_123.out _;(with_reducible repeat (first|refine kN ?_ _|refine kD ?_|refine kA ?_ _));refine blk_far ?_ NB118_123.out _;(with_reducible repeat (first|refine kN ?_ _|refine kD ?_|refine kA ?_ _));exact BK118.out⟩
          have n5_:Aside0 (((w110.setCell ⟨gb123,0,none⟩ (.int .i64 t102)).setCell ⟨gb123,1,none⟩ (.slice Ao109 t119.length co109)).heap[gb123]?=some (.cells #[.int .i64 t102,.slice Ao109 t119.length co109] 36 (0,0))):=⟨by (with_reducible repeat (first|refine kN ?_ _|refine kD ?_|refine kA ?_ _));refine blk_put (cs:=#[.int .i64 t102,.slice none 0 0]) ?_ 1 _ rfl;(with_reducible repeat (first|refine kN ?_ _|refine kD ?_|refine kA ?_ _));refine blk_put (cs:=#[.int .i64 0,.slice none 0 0]) ?_ 0 _ rfl;(with_reducible repeat (first|refine kN ?_ _|refine kD ?_|refine kA ?_ _));exact BK123.out⟩
          have n6_:Aside0 (Below w.heap.size w ((w110.setCell ⟨gb123,0,none⟩ (.int .i64 t102)).setCell ⟨gb123,1,none⟩ (.slice Ao109 t119.length co109))):=⟨by repeat (first|(with_reducible first|exact HB.out|apply bA|apply bN|apply bD|refine bS ?_ GE107.out|refine bS ?_ GE118.out|refine bS ?_ GE123.out)|exact HB.out)⟩
          (try clear HO_108001)
          (try clear HO116)
          (try clear HO122)
          (try clear BK107)
          (try clear BK118)
          (try clear BK123)
          (try clear HB)
          generalize ((w110.setCell ⟨gb123,0,none⟩ (.int .i64 t102)).setCell ⟨gb123,1,none⟩ (.slice Ao109 t119.length co109))=w114 at n0_ n1_ n2_ n3_ n4_ n5_ n6_ ⊢
          have HO_108001:=n0_
          have HO116:=n1_
          have HO122:=n2_
          have BK107:=n3_
          have BK118:=n4_
          have BK123:=n5_
          have HB:=n6_
          clear n0_ n1_ n2_ n3_ n4_ n5_ n6_
          have n0_:=mA (rD HO_108001.out)
          have n1_:=mA (rD HO116.out)
          have n2_:=mA (rD HO122.out)
          have n3_:=mA (kD BK107.out)
          have n4_:=mA (kD BK118.out)
          have n5_:=mA (kD BK123.out)
          have n6_:=mA (bD HB.out)
          clear HO_108001
          clear HO116
          clear HO122
          clear BK107
          clear BK118
          clear BK123
          clear HB
          have HO_108001:=n0_
          have HO116:=n1_
          have HO122:=n2_
          have BK107:=n3_
          have BK118:=n4_
          have BK123:=n5_
          have HB:=n6_
          clear n0_ n1_ n2_ n3_ n4_ n5_ n6_
          refine start_ (n:=34) (S:=fun w'=>w'.cell? ⟨gb123,0,none⟩=some (.int .i64 t102)∧w'.cell? ⟨gb123,1,none⟩=some (.slice Ao109 t119.length co109)) (ds:=[]) #[O,O,O,O,O,O,O,O,O,O,O,O,O,O,O,O,O,O,O,O,O,O,O,O,O,O,O,O,O,O,O,O,O,O] (by kernel_rfl) rfl rfl ⟨(kC BK123.out 0).trans rfl,(kC BK123.out 1).trans rfl⟩ (fun hHeld=>?_);refine with_tabW laws_FnMaySay.tab12 laws_FnMaySay.bits12 (fun HT_ HW_=>?_)
          generalize w114.drew=w115 at HO_108001 HO116 HO122 BK107 BK118 BK123 HB hHeld ⊢
          refine pure_ (i:=0) (N:=some 63) (v:=?_) (a':=?_) #[I,O,O,O,O,O,O,O,O,O,O,O,O,O,O,O,O,O,O,O,O,O,O,O,O,O,O,O,O,O,O,O,O,O] rfl rfl (any_of HT_.out (by kernel_rfl)) (fun _ _ _ h=>h) (Or.inl ⟨by rfl,?_⟩) ?_ ?_
          rotate_left
          ·intro w'
           go_simp
           with_reducible rfl
          rotate_left
          ·simp only [Act.put,sA,sZ,sS,i64_w,i32_w]
           rfl
          refine pure_ (i:=1) (N:=some 64) (v:=?_) (a':=?_) #[I,I,O,O,O,O,O,O,O,O,O,O,O,O,O,O,O,O,O,O,O,O,O,O,O,O,O,O,O,O,O,O,O,O] rfl rfl (any_of HT_.out (by kernel_rfl)) (fun _ _ _ h=>h) (Or.inl ⟨by rfl,?_⟩) ?_ ?_
          rotate_left
          ·intro w'
           go_simp
           with_reducible rfl
          rotate_left
          ·simp only [Act.put,sA,sZ,sS,i64_w,i32_w]
           rfl
          refine pure_ (i:=2) (N:=some 65) (v:=?_) (a':=?_) #[I,I,I,O,O,O,O,O,O,O,O,O,O,O,O,O,O,O,O,O,O,O,O,O,O,O,O,O,O,O,O,O,O,O] rfl rfl (any_of HT_.out (by kernel_rfl)) (fun _ _ _ h=>h) (Or.inl ⟨by rfl,?_⟩) ?_ ?_
          rotate_left
          ·intro w'
           go_simp
           with_reducible rfl
          rotate_left
          ·simp only [Act.put,sA,sZ,sS,i64_w,i32_w]
           rfl
          refine pure_ (i:=3) (N:=some 66) (v:=undef) (a':=?_) #[I,I,I,I,O,O,O,O,O,O,O,O,O,O,O,O,O,O,O,O,O,O,O,O,O,O,O,O,O,O,O,O,O,O] rfl rfl (any_of HT_.out (by kernel_rfl)) (fun _ _ _ h=>h) (Or.inr ⟨by rfl,rfl⟩) ?_ ?_
          rotate_left
          ·simp only [Act.put,sA,sZ,sS,i64_w,i32_w]
           rfl
          refine pure_ (i:=4) (N:=some 67) (v:=undef) (a':=?_) #[I,I,I,I,I,O,O,O,O,O,O,O,O,O,O,O,O,O,O,O,O,O,O,O,O,O,O,O,O,O,O,O,O,O] rfl rfl (any_of HT_.out (by kernel_rfl)) (fun _ _ _ h=>h) (Or.inr ⟨by rfl,rfl⟩) ?_ ?_
          rotate_left
          ·simp only [Act.put,sA,sZ,sS,i64_w,i32_w]
           rfl
          refine pure_ (i:=5) (N:=some 68) (v:=undef) (a':=?_) #[I,I,I,I,I,I,O,O,O,O,O,O,O,O,O,O,O,O,O,O,O,O,O,O,O,O,O,O,O,O,O,O,O,O] rfl rfl (any_of HT_.out (by kernel_rfl)) (fun _ _ _ h=>h) (Or.inr ⟨by rfl,rfl⟩) ?_ ?_
          rotate_left
          ·simp only [Act.put,sA,sZ,sS,i64_w,i32_w]
           rfl
          refine pure_ (i:=6) (N:=some 69) (v:=undef) (a':=?_) #[I,I,I,I,I,I,I,O,O,O,O,O,O,O,O,O,O,O,O,O,O,O,O,O,O,O,O,O,O,O,O,O,O,O] rfl rfl (any_of HT_.out (by kernel_rfl)) (fun _ _ _ h=>h) (Or.inr ⟨by rfl,rfl⟩) ?_ ?_
          rotate_left
          ·simp only [Act.put,sA,sZ,sS,i64_w,i32_w]
           rfl
          refine pure_ (i:=7) (N:=some 70) (v:=undef) (a':=?_) #[I,I,I,I,I,I,I,I,O,O,O,O,O,O,O,O,O,O,O,O,O,O,O,O,O,O,O,O,O,O,O,O,O,O] rfl rfl (any_of HT_.out (by kernel_rfl)) (fun _ _ _ h=>h) (Or.inr ⟨by rfl,rfl⟩) ?_ ?_
          rotate_left
          ·simp only [Act.put,sA,sZ,sS,i64_w,i32_w]
           rfl
          refine pure_ (i:=8) (N:=some 71) (v:=undef) (a':=?_) #[I,I,I,I,I,I,I,I,I,O,O,O,O,O,O,O,O,O,O,O,O,O,O,O,O,O,O,O,O,O,O,O,O,O] rfl rfl (any_of HT_.out (by kernel_rfl)) (fun _ _ _ h=>h) (Or.inr ⟨by rfl,rfl⟩) ?_ ?_
          rotate_left
          ·simp only [Act.put,sA,sZ,sS,i64_w,i32_w]
           rfl
          refine pure_ (i:=9) (N:=some 72) (v:=?_) (a':=?_) #[I,I,I,I,I,I,I,I,I,I,O,O,O,O,O,O,O,O,O,O,O,O,O,O,O,O,O,O,O,O,O,O,O,O] rfl rfl (any_of HT_.out (by kernel_rfl)) (fun _ _ _ h=>h) (Or.inl ⟨by rfl,?_⟩) ?_ ?_
          rotate_left
          ·intro w'
           go_simp
           with_reducible rfl
          rotate_left
          ·simp only [Act.put,sA,sZ,sS,i64_w,i32_w]
           rfl
          refine pure_ (i:=10) (N:=some 73) (v:=?_) (a':=?_) #[I,I,I,I,I,I,I,I,I,I,I,O,O,O,O,O,O,O,O,O,O,O,O,O,O,O,O,O,O,O,O,O,O,O] rfl rfl (any_of HT_.out (by kernel_rfl)) (fun _ _ _ h=>h) (Or.inl ⟨by rfl,?_⟩) ?_ ?_
          rotate_left
          ·intro w'
           go_simp
           with_reducible rfl
          rotate_left
          ·simp only [Act.put,sA,sZ,sS,i64_w,i32_w]
           rfl
          refine pure_ (i:=11) (N:=some 74) (v:=?_) (a':=?_) #[I,I,I,I,I,I,I,I,I,I,I,I,O,O,O,O,O,O,O,O,O,O,O,O,O,O,O,O,O,O,O,O,O,O] rfl rfl (any_of HT_.out (by kernel_rfl)) (fun _ _ _ h=>h) (Or.inl ⟨by rfl,?_⟩) ?_ ?_
          rotate_left
          ·intro w'
           go_simp
           with_reducible rfl
          rotate_left
          ·simp only [Act.put,sA,sZ,sS,i64_w,i32_w]
           rfl
          refine pure_ (i:=12) (N:=some 75) (v:=?_) (a':=?_) #[I,I,I,I,I,I,I,I,I,I,I,I,I,O,O,O,O,O,O,O,O,O,O,O,O,O,O,O,O,O,O,O,O,O] rfl rfl (any_of HT_.out (by kernel_rfl)) (fun _ _ _ h=>h) (Or.inl ⟨by rfl,?_⟩) ?_ ?_
          rotate_left
          ·intro w'
           go_simp
           with_reducible rfl
          rotate_left
          ·simp only [Act.put,sA,sZ,sS,i64_w,i32_w]
           rfl
          refine pure_ (i:=13) (N:=some 76) (v:=?_) (a':=?_) #[I,I,I,I,I,I,I,I,I,I,I,I,I,I,O,O,O,O,O,O,O,O,O,O,O,O,O,O,O,O,O,O,O,O] rfl rfl (any_of HT_.out (by kernel_rfl)) (fun _ _ _ h=>h) (Or.inl ⟨by rfl,?_⟩) ?_ ?_
          rotate_left
          ·intro w'
           go_simp
           with_reducible rfl
          rotate_left
          ·simp only [Act.put,sA,sZ,sS,i64_w,i32_w]
           rfl
          refine pure_ (i:=14) (N:=some 77) (v:=?_) (a':=?_) #[I,I,I,I,I,I,I,I,I,I,I,I,I,I,I,O,O,O,O,O,O,O,O,O,O,O,O,O,O,O,O,O,O,O] rfl rfl (any_of HT_.out (by kernel_rfl)) (fun _ _ _ h=>h) (Or.inl ⟨by rfl,?_⟩) ?_ ?_
          rotate_left
          ·intro w'
           go_simp
           with_reducible rfl
          rotate_left
          ·simp only [Act.put,sA,sZ,sS,i64_w,i32_w]
           rfl
          refine take_ (i:=15) (N:=some 78) (v:=?_) (a':=?_) #[I,I,I,I,I,I,I,I,I,I,I,I,I,I,I,I,O,O,O,O,O,O,O,O,O,O,O,O,O,O,O,O,O,O] rfl rfl (take_ofW HT_.out HW_.out (by kernel_rfl)) (fun _ _ _ h=>h) (Or.inl ⟨by rfl,?_⟩) hHeld ?_ ?_
          rotate_left
          ·rintro w' ⟨s0,s1⟩
           go_simp
           with_reducible rfl
          rotate_left
          ·simp only [Act.put,sA,sZ,sS,i64_w,i32_w]
           rfl
          refine one_ (i:=16) (N:=some 79) #[I,I,I,I,I,I,I,I,I,I,I,I,I,I,I,I,I,O,O,O,O,O,O,O,O,O,O,O,O,O,O,O,O,O] rfl rfl (one_of HT_.out (by kernel_rfl)) (by decide) (fun K hK=>?_)
          refine goes_ Try.func37 (by kernel_rfl) rfl #[.int .i64 t101,.agg #[.int .i64 t102,.slice Ao109 t119.length co109]] (by rfl) rfl rfl (by (try simp only [mT,mC,mN]);first|done|rfl|(simp only [lD,lT];rfl)) ?_
          with_reducible refine (spec_ClaimOk.calls kj6 t101 t102 _ _ t119 true _ ?side1 ?side2 A94.out).mono ?_
          (case side1=>repeat (first|exact (rR HO122.out).2.2|(with_reducible refine cA ?_ _)|(with_reducible refine cN ?_ _)|(with_reducible refine cD ?_)))
          (case side2=>exact (rR HO122.out).2.1)
          rintro e w116 ⟨rfl,hb⟩
          refine ⟨_,rfl,?_⟩
          have n0_:=mA (rB (by (with_reducible repeat (first|apply rA|apply rN|apply rD));exact HO_108001.out) hb)
          have n1_:=mA (rB (by (with_reducible repeat (first|apply rA|apply rN|apply rD));exact HO116.out) hb)
          have n2_:=mA (rB (by (with_reducible repeat (first|apply rA|apply rN|apply rD));exact HO122.out) hb)
          have n3_:=mA (blk_below (g:=gb107) (o:=.cells #[.int .i64 t102,.slice Ao11 t103.length co11] 36 (0,0)) (by (with_reducible repeat (first|refine kN ?_ _|refine kD ?_|refine kA ?_ _));exact BK107.out) hb)
          have n4_:=mA (blk_below (g:=gb118) (o:=.cells #[.int .i64 t113,.slice Ao105 t114.length co105] 36 (0,0)) (by (with_reducible repeat (first|refine kN ?_ _|refine kD ?_|refine kA ?_ _));exact BK118.out) hb)
          have n5_:=mA (blk_below (g:=gb123) (o:=.cells #[.int .i64 t102,.slice Ao109 t119.length co109] 36 (0,0)) (by (with_reducible repeat (first|refine kN ?_ _|refine kD ?_|refine kA ?_ _));exact BK123.out) hb)
          have n6_:=mA (bT (by repeat (first|(with_reducible first|exact HB.out|apply bA|apply bN|apply bD|refine bS ?_ GE107.out|refine bS ?_ GE118.out|refine bS ?_ GE123.out)|exact HB.out)) hb)
          clear HO_108001
          clear HO116
          clear HO122
          clear BK107
          clear BK118
          clear BK123
          clear HB
          have HO_108001:=n0_
          have HO116:=n1_
          have HO122:=n2_
          have BK107:=n3_
          have BK118:=n4_
          have BK123:=n5_
          have HB:=n6_
          clear n0_ n1_ n2_ n3_ n4_ n5_ n6_
          (try clear hb)
          (try clear hb2)
          (try clear hk)
          (try clear hi)
          refine hK.out _ _ ⟨(kC BK123.out 0).trans rfl,(kC BK123.out 1).trans rfl⟩ (fun hHeld=>?_)
          clear hK K
          refine norm_ (a':=?_) ?_ ?_
          rotate_left
          ·show Act.put _ (some 79) _=_
           simp only [Act.put,sA,sZ,sS,i64_w,i32_w]
           rfl
          refine pure_ (i:=17) (N:=some 80) (v:=?_) (a':=?_) #[I,I,I,I,I,I,I,I,I,I,I,I,I,I,I,I,I,I,O,O,O,O,O,O,O,O,O,O,O,O,O,O,O,O] rfl rfl (any_of HT_.out (by kernel_rfl)) (fun _ _ _ h=>h) (Or.inl ⟨by rfl,?_⟩) ?_ ?_
          rotate_left
          ·intro w'
           go_simp
           with_reducible rfl
          rotate_left
          ·simp only [Act.put,sA,sZ,sS,i64_w,i32_w]
           rfl
          refine pure_ (i:=18) (N:=some 81) (v:=?_) (a':=?_) #[I,I,I,I,I,I,I,I,I,I,I,I,I,I,I,I,I,I,I,O,O,O,O,O,O,O,O,O,O,O,O,O,O,O] rfl rfl (any_of HT_.out (by kernel_rfl)) (fun _ _ _ h=>h) (Or.inl ⟨by rfl,?_⟩) ?_ ?_
          rotate_left
          ·intro w'
           go_simp
           with_reducible rfl
          rotate_left
          ·simp only [Act.put,sA,sZ,sS,i64_w,i32_w]
           rfl
          refine pure_ (i:=19) (N:=some 82) (v:=?_) (a':=?_) #[I,I,I,I,I,I,I,I,I,I,I,I,I,I,I,I,I,I,I,I,O,O,O,O,O,O,O,O,O,O,O,O,O,O] rfl rfl (any_of HT_.out (by kernel_rfl)) (fun _ _ _ h=>h) (Or.inl ⟨by rfl,?_⟩) ?_ ?_
          rotate_left
          ·intro w'
           go_simp
           with_reducible rfl
          rotate_left
          ·simp only [Act.put,sA,sZ,sS,i64_w,i32_w]
           rfl
          refine pure_ (i:=20) (N:=some 83) (v:=?_) (a':=?_) #[I,I,I,I,I,I,I,I,I,I,I,I,I,I,I,I,I,I,I,I,I,O,O,O,O,O,O,O,O,O,O,O,O,O] rfl rfl (any_of HT_.out (by kernel_rfl)) (fun _ _ _ h=>h) (Or.inl ⟨by rfl,?_⟩) ?_ ?_
          rotate_left
          ·intro w'
           go_simp
           with_reducible rfl
          rotate_left
          ·simp only [Act.put,sA,sZ,sS,i64_w,i32_w]
           rfl
          refine pure_ (i:=22) (N:=some 85) (v:=?_) (a':=?_) #[I,I,I,I,I,I,I,I,I,I,I,I,I,I,I,I,I,I,I,I,I,O,I,O,O,O,O,O,O,O,O,O,O,O] rfl rfl (any_of HT_.out (by kernel_rfl)) (fun _ _ _ h=>h) (Or.inl ⟨by rfl,?_⟩) ?_ ?_
          rotate_left
          ·intro w'
           go_simp
           with_reducible rfl
          rotate_left
          ·simp only [Act.put,sA,sZ,sS,i64_w,i32_w]
           rfl
          refine pure_ (i:=23) (N:=some 86) (v:=?_) (a':=?_) #[I,I,I,I,I,I,I,I,I,I,I,I,I,I,I,I,I,I,I,I,I,O,I,I,O,O,O,O,O,O,O,O,O,O] rfl rfl (any_of HT_.out (by kernel_rfl)) (fun _ _ _ h=>h) (Or.inl ⟨by rfl,?_⟩) ?_ ?_
          rotate_left
          ·intro w'
           go_simp
           with_reducible rfl
          rotate_left
          ·simp only [Act.put,sA,sZ,sS,i64_w,i32_w]
           rfl
          refine pure_ (i:=26) (N:=some 89) (v:=?_) (a':=?_) #[I,I,I,I,I,I,I,I,I,I,I,I,I,I,I,I,I,I,I,I,I,O,I,I,O,O,I,O,O,O,O,O,O,O] rfl rfl (any_of HT_.out (by kernel_rfl)) (fun _ _ _ h=>h) (Or.inl ⟨by rfl,?_⟩) ?_ ?_
          rotate_left
          ·intro w'
           go_simp
           with_reducible rfl
          rotate_left
          ·simp only [Act.put,sA,sZ,sS,i64_w,i32_w]
           rfl
          refine take_ (i:=21) (N:=some 84) (v:=?_) (a':=?_) #[I,I,I,I,I,I,I,I,I,I,I,I,I,I,I,I,I,I,I,I,I,I,I,I,O,O,I,O,O,O,O,O,O,O] rfl rfl (take_ofW HT_.out HW_.out (by kernel_rfl)) (fun _ _ _ h=>h) (Or.inl ⟨by rfl,?_⟩) hHeld ?_ ?_
          rotate_left
          ·rintro w' ⟨s0,s1⟩
           go_simp
           with_reducible rfl
          rotate_left
          ·simp only [Act.put,sA,sZ,sS,i64_w,i32_w]
           rfl
          refine one_ (i:=24) (N:=some 87) #[I,I,I,I,I,I,I,I,I,I,I,I,I,I,I,I,I,I,I,I,I,I,I,I,I,O,I,O,O,O,O,O,O,O] rfl rfl (one_of HT_.out (by kernel_rfl)) (by decide) (fun K hK=>?_)
          refine goes_ Try.func41 (by kernel_rfl) rfl #[.int .i64 t101,.int .i64 t106] (by rfl) rfl rfl (by (try simp only [mT,mC,mN]);first|done|rfl|(simp only [lD,lT];rfl)) ?_
          with_reducible refine (impl_OppositeWorld.calls t101 t106 t132 _ A96.out).mono ?_
          rintro e w' ⟨rfl,⟨nd,rfl⟩⟩
          refine ⟨_,rfl,?_⟩
          refine hK.out _ _ ⟨(kC BK123.out 0).trans rfl,(kC BK123.out 1).trans rfl⟩ (fun hHeld=>?_)
          clear hK K
          refine norm_ (a':=?_) ?_ ?_
          rotate_left
          ·show Act.put _ (some 87) _=_
           simp only [Act.put,sA,sZ,sS,i64_w,i32_w]
           rfl
          refine one_ (i:=25) (N:=some 88) #[I,I,I,I,I,I,I,I,I,I,I,I,I,I,I,I,I,I,I,I,I,I,I,I,I,I,I,O,O,O,O,O,O,O] rfl rfl (one_of HT_.out (by kernel_rfl)) (by decide) (fun K hK=>?_)
          refine goes_ Try.func35 (by kernel_rfl) rfl #[.int .i64 t101,.agg #[.int .i64 t102,.slice Ao109 t119.length co109],.int .i64 t132] (by rfl) rfl rfl (by (try simp only [mT,mC,mN]);first|done|rfl|(simp only [lD,lT];rfl)) ?_
          with_reducible refine (impl_MaySay.calls kj6 t101 t102 _ _ t119 t132 t133 _ ?side1 ?side2 A97.out).mono ?_
          (case side1=>repeat (first|exact (rR HO122.out).2.2|(with_reducible refine cA ?_ _)|(with_reducible refine cN ?_ _)|(with_reducible refine cD ?_)))
          (case side2=>exact (rR HO122.out).2.1)
          rintro e w117 ⟨rfl,hb⟩
          refine ⟨_,rfl,?_⟩
          have n0_:=mA (rB (by (with_reducible repeat (first|apply rA|apply rN|apply rD));exact HO_108001.out) hb)
          have n1_:=mA (rB (by (with_reducible repeat (first|apply rA|apply rN|apply rD));exact HO116.out) hb)
          have n2_:=mA (rB (by (with_reducible repeat (first|apply rA|apply rN|apply rD));exact HO122.out) hb)
          have n3_:=mA (blk_below (g:=gb107) (o:=.cells #[.int .i64 t102,.slice Ao11 t103.length co11] 36 (0,0)) (by (with_reducible repeat (first|refine kN ?_ _|refine kD ?_|refine kA ?_ _));exact BK107.out) hb)
          have n4_:=mA (blk_below (g:=gb118) (o:=.cells #[.int .i64 t113,.slice Ao105 t114.length co105] 36 (0,0)) (by (with_reducible repeat (first|refine kN ?_ _|refine kD ?_|refine kA ?_ _));exact BK118.out) hb)
          have n5_:=mA (blk_below (g:=gb123) (o:=.cells #[.int .i64 t102,.slice Ao109 t119.length co109] 36 (0,0)) (by (with_reducible repeat (first|refine kN ?_ _|refine kD ?_|refine kA ?_ _));exact BK123.out) hb)
          have n6_:=mA (bT (by repeat (first|(with_reducible first|exact HB.out|apply bA|apply bN|apply bD|refine bS ?_ GE107.out|refine bS ?_ GE118.out|refine bS ?_ GE123.out)|exact HB.out)) hb)
          clear HO_108001
          clear HO116
          clear HO122
          clear BK107
          clear BK118
          clear BK123
          clear HB
          have HO_108001:=n0_
          have HO116:=n1_
          have HO122:=n2_
          have BK107:=n3_
          have BK118:=n4_
          have BK123:=n5_
          have HB:=n6_
          clear n0_ n1_ n2_ n3_ n4_ n5_ n6_
          (try clear hb)
          (try clear hb2)
          (try clear hk)
          (try clear hi)
          refine hK.out _ _ ⟨(kC BK123.out 0).trans rfl,(kC BK123.out 1).trans rfl⟩ (fun hHeld=>?_)
          clear hK K
          refine norm_ (a':=?_) ?_ ?_
          rotate_left
          ·show Act.put _ (some 88) _=_
           simp only [Act.put,sA,sZ,sS,i64_w,i32_w]
           rfl
          refine pure_ (i:=27) (N:=some 90) (v:=?_) (a':=?_) #[I,I,I,I,I,I,I,I,I,I,I,I,I,I,I,I,I,I,I,I,I,I,I,I,I,I,I,I,O,O,O,O,O,O] rfl rfl (any_of HT_.out (by kernel_rfl)) (fun _ _ _ h=>h) (Or.inl ⟨by rfl,?_⟩) ?_ ?_
          rotate_left
          ·intro w'
           go_simp
           with_reducible rfl
          rotate_left
          ·simp only [Act.put,sA,sZ,sS,i64_w,i32_w]
           rfl
          refine pure_ (i:=28) (N:=some 91) (v:=?_) (a':=?_) #[I,I,I,I,I,I,I,I,I,I,I,I,I,I,I,I,I,I,I,I,I,I,I,I,I,I,I,I,I,O,O,O,O,O] rfl rfl (any_of HT_.out (by kernel_rfl)) (fun _ _ _ h=>h) (Or.inl ⟨by rfl,?_⟩) ?_ ?_
          rotate_left
          ·intro w'
           go_simp
           with_reducible rfl
          rotate_left
          ·simp only [Act.put,sA,sZ,sS,i64_w,i32_w]
           rfl
          refine pure_ (i:=29) (N:=some 92) (v:=?_) (a':=?_) #[I,I,I,I,I,I,I,I,I,I,I,I,I,I,I,I,I,I,I,I,I,I,I,I,I,I,I,I,I,I,O,O,O,O] rfl rfl (any_of HT_.out (by kernel_rfl)) (fun _ _ _ h=>h) (Or.inl ⟨by rfl,?_⟩) ?_ ?_
          rotate_left
          ·intro w'
           go_simp
           with_reducible rfl
          rotate_left
          ·simp only [Act.put,sA,sZ,sS,i64_w,i32_w]
           rfl
          refine pure_ (i:=30) (N:=some 93) (v:=?_) (a':=?_) #[I,I,I,I,I,I,I,I,I,I,I,I,I,I,I,I,I,I,I,I,I,I,I,I,I,I,I,I,I,I,I,O,O,O] rfl rfl (any_of HT_.out (by kernel_rfl)) (fun _ _ _ h=>h) (Or.inl ⟨by rfl,?_⟩) ?_ ?_
          rotate_left
          ·intro w'
           go_simp
           with_reducible rfl
          rotate_left
          ·simp only [Act.put,sA,sZ,sS,i64_w,i32_w]
           rfl
          refine one_ (i:=31) (N:=some 94) #[I,I,I,I,I,I,I,I,I,I,I,I,I,I,I,I,I,I,I,I,I,I,I,I,I,I,I,I,I,I,I,I,O,O] rfl rfl (one_of HT_.out (by kernel_rfl)) (by decide) (fun K hK=>?_)
          refine goes_ Try.func26 (by kernel_rfl) rfl #[] (by rfl) rfl rfl (by (try simp only [mT,mC,mN]);first|done|rfl|(simp only [lD,lT];rfl)) ?_
          with_reducible refine (laws_alive.calls  t134 _ A99.out).mono ?_
          rintro e w' ⟨rfl,⟨nd,rfl⟩⟩
          refine ⟨_,rfl,?_⟩
          refine hK.out _ _ ⟨(kC BK123.out 0).trans rfl,(kC BK123.out 1).trans rfl⟩ (fun hHeld=>?_)
          clear hK K
          refine norm_ (a':=?_) ?_ ?_
          rotate_left
          ·show Act.put _ (some 94) _=_
           simp only [Act.put,sA,sZ,sS,i64_w,i32_w]
           rfl
          refine pure_ (i:=32) (N:=some 95) (v:=?_) (a':=?_) #[I,I,I,I,I,I,I,I,I,I,I,I,I,I,I,I,I,I,I,I,I,I,I,I,I,I,I,I,I,I,I,I,I,O] rfl rfl (any_of HT_.out (by kernel_rfl)) (fun _ _ _ h=>h) (Or.inl ⟨by rfl,?_⟩) ?_ ?_
          rotate_left
          ·intro w'
           go_simp
           with_reducible rfl
          rotate_left
          ·simp only [Act.put,sA,sZ,sS,i64_w,i32_w]
           rfl
          refine pure_ (i:=33) (N:=some 2) (v:=?_) (a':=?_) #[I,I,I,I,I,I,I,I,I,I,I,I,I,I,I,I,I,I,I,I,I,I,I,I,I,I,I,I,I,I,I,I,I,I] rfl rfl (any_of HT_.out (by kernel_rfl)) (fun _ _ _ h=>h) (Or.inl ⟨by rfl,?_⟩) ?_ ?_
          rotate_left
          ·intro w'
           go_simp
           with_reducible rfl
          rotate_left
          ·simp only [Act.put,sA,sZ,sS,i64_w,i32_w]
           rfl
          refine done_ (done_of HT_.out (by kernel_rfl)) ?_
          try go_wp2
          go_ret
          exact ⟨by first|rfl|(simp [errW_none,errW_some]<;>rfl)|(simp [*, errW_none,errW_some]<;>rfl),by repeat (first|(with_reducible first|exact HB.out|apply bA|apply bN|apply bD|refine bS ?_ GE107.out|refine bS ?_ GE118.out|refine bS ?_ GE123.out)|exact HB.out)⟩
         ·rw [if_neg c98] at H
          have c98b0:(t133 != t108)=false:=by simpa using c98
          (try (have c98b1:decide (t133=t108)=true:=by simpa using c98))
          (try (have c98b2:(t133==t108)=true:=by simpa using c98))
          clear c98
          exact absurd ((Option.some.inj H).trans hr_.out) (by decide)
        ·replace c95:=Bool.eq_false_iff.mpr c95
         subst c95
         have H1:((laws_alive.f).bind fun t135=>(some t135))=some r:=by rw [if_neg (show ¬ (false=true) by decide)] at H;exact H
         clear H
         have H:=H1
         clear H1
         replace H:=Option.bind_eq_some_iff.mp H
         obtain ⟨t135,A1180,H⟩:=H
         replace H:(some t135)=some r:=H
         have A118:=mA A1180
         clear A1180
         obtain rfl:=Option.some.inj H
         have hcz119_0:wc.cell? ⟨gb107,0,none⟩=some (.int .i64 t102):=(kC BK107.out 0).trans rfl
         have hcz119_1:wc.cell? ⟨gb107,1,none⟩=some (.slice Ao11 t103.length co11):=(kC BK107.out 1).trans rfl
         have hfz119_0:=kF BK107.out 0
         have hfz119_1:=kF BK107.out 1
         try go_wp2_with (first|((with_reducible refine gate_callee (f:=39) rfl ?_);refine goesL_ (some 49) rfl rfl Try.func39 (by kernel_rfl) rfl #[.int .i64 t101,.agg #[.int .i64 t102,.slice Ao11 t103.length co11]] rfl (by (try simp only [mT,mC,mN]);first|done|rfl|(simp only [lD,lT];rfl)) ?_;(with_reducible refine (impl_DenyClaim.calls kj6 t101 t102 _ _ t103 t113 t114 false _ ?side1 ?side2 A25.out).mono ?_);(case side1=>repeat (first|exact (rR HO_108001.out).2.2|(with_reducible refine cA ?_ _)|(with_reducible refine cN ?_ _)|(with_reducible refine cD ?_)));(case side2=>exact (rR HO_108001.out).2.1);rintro e w120 ⟨v115,rfl,ho0,hb⟩;refine ⟨_,rfl,?_⟩;have n0_:=mA (Kd.R_elder' (by (with_reducible repeat (first|apply rA|apply rN|apply rD));exact HO_108001.out) (Kd.R_base ho0) hb);have n1_:=mA (Kd.R_lower (Kd.R_new' ho0 (rL (by (with_reducible repeat (first|apply rA|apply rN|apply rD));exact HO_108001.out))) (bZ (by repeat (first|(with_reducible first|exact HB.out|apply bA|apply bN|apply bD|refine bS ?_ GE107.out)|exact HB.out))));have n2_:=mA (blk_below (g:=gb107) (o:=.cells #[.int .i64 t102,.slice Ao11 t103.length co11] 36 (0,0)) (by (with_reducible repeat (first|refine kN ?_ _|refine kD ?_|refine kA ?_ _));exact BK107.out) hb);have n3_:=mA (bT (by repeat (first|(with_reducible first|exact HB.out|apply bA|apply bN|apply bD|refine bS ?_ GE107.out)|exact HB.out)) hb);clear HO_108001 BK107 HB;have HO_108001:=n0_;have HO116:=n1_;have BK107:=n2_;have HB:=n3_;clear n0_ n1_ n2_ n3_;(try clear hb);(try clear hb2);(try clear hk);(try clear hi);(try clear ho0))|((with_reducible refine gate_dst (N:=7) rfl ?_);refine box_event ?hg (N:=7) ?hd (cs:=#[.int .i64 0,.slice none 0 0]) (t:=36) ?hr ?_;(case hd=>rfl);(case hg=>rfl);(case hr=>first|(go_simp;done)|(go_simp;rfl));intro gb118 hg w121 hbox hb;have n0_:=mA (rB (by (with_reducible repeat (first|apply rA|apply rN|apply rD));exact HO_108001.out) hb);have n1_:=mA (rB (by (with_reducible repeat (first|apply rA|apply rN|apply rD));exact HO116.out) hb);have n2_:=mA (blk_below (g:=gb107) (o:=.cells #[.int .i64 t102,.slice Ao11 t103.length co11] 36 (0,0)) (by (with_reducible repeat (first|refine kN ?_ _|refine kD ?_|refine kA ?_ _));exact BK107.out) hb);have n3_:=mA (bT (by repeat (first|(with_reducible first|exact HB.out|apply bA|apply bN|apply bD|refine bS ?_ GE107.out)|exact HB.out)) hb);have n4_:=mA (hbox);have n5_:=mA ((by rw [hg];exact (bZ (by repeat (first|(with_reducible first|exact HB.out|apply bA|apply bN|apply bD|refine bS ?_ GE107.out)|exact HB.out))):w.heap.size≤gb118));have n6_:=mA ((by rw [hg];exact (bZ (by repeat (first|(with_reducible first|exact HB.out|apply bA|apply bN|apply bD|refine bS ?_ GE107.out)|exact HB.out))):w.heap.size≤gb118));have n7_:=mA ((by rw [hg];exact Nat.ne_of_lt (blk_lt (g:=gb107) (o:=.cells #[.int .i64 t102,.slice Ao11 t103.length co11] 36 (0,0)) (by (with_reducible repeat (first|refine kN ?_ _|refine kD ?_|refine kA ?_ _));exact BK107.out)):gb107≠gb118));have n8_:=mA ((by rw [hg];exact Nat.ne_of_gt (blk_lt (g:=gb107) (o:=.cells #[.int .i64 t102,.slice Ao11 t103.length co11] 36 (0,0)) (by (with_reducible repeat (first|refine kN ?_ _|refine kD ?_|refine kA ?_ _));exact BK107.out)):gb118≠gb107));clear HO_108001 HO116 BK107 HB;have HO_108001:=n0_;have HO116:=n1_;have BK107:=n2_;have HB:=n3_;have BK118:=n4_;have GW118:=n5_;have GE118:=n6_;have NB107_118:=n7_;have NB118_107:=n8_;clear n0_ n1_ n2_ n3_ n4_ n5_ n6_ n7_ n8_ hb hbox hg;have hnb122:=NB118_107.out;have hnc122:=NB107_118.out;have hcz123_0:w121.cell? ⟨gb118,0,none⟩=some (.int .i64 0):=(kC BK118.out 0).trans rfl;have hcz123_1:w121.cell? ⟨gb118,1,none⟩=some (.slice none 0 0):=(kC BK118.out 1).trans rfl;have hfz123_0:=kF BK118.out 0;have hfz123_1:=kF BK118.out 1;obtain ⟨Ao124,co124,eo124⟩:=Kd.R_slice HO116.out;subst eo124;have hcz125_0:w121.cell? ⟨gb107,0,none⟩=some (.int .i64 t102):=(kC BK107.out 0).trans rfl;have hcz125_1:w121.cell? ⟨gb107,1,none⟩=some (.slice Ao11 t103.length co11):=(kC BK107.out 1).trans rfl;have hfz125_0:=kF BK107.out 0;have hfz125_1:=kF BK107.out 1)|((with_reducible refine gate_callee (f:=40) rfl ?_);refine goesL_ (some 56) rfl rfl Try.func40 (by kernel_rfl) rfl #[.int .i64 t101,.slice Ao11 t103.length co11] rfl (by (try simp only [mT,mC,mN]);first|done|rfl|(simp only [lD,lT];rfl)) ?_;(with_reducible refine (impl_MirrorTerm.calls kj6 t101 _ _ t103 t119 true _ ?side1 ?side2 A26.out).mono ?_);(case side1=>refine (rR (e:=33) (base:=w.heap.size) (ok:=fun k_=>(True∧some k_≠(.slice Ao124 t114.length co124:Value).ownBlock)) (n:=t103.length) (c:=co11) ?_).2.2;exact (by (with_reducible repeat (first|apply rA|apply rN|apply rD));exact (rM (rF (p:=⟨gb118,1,none⟩) (rF (p:=⟨gb118,0,none⟩) (Kd.R_types HO_108001.out BK118.out (by decide)) (fun _ hk=>hk.2) (.int .i64 t113)) (fun _ hk=>hk.2) (.slice Ao124 t114.length co124)) (fun _ h_=>h_.1))));(case side2=>exact (rR HO_108001.out).2.1);rintro e w126 ⟨v121,rfl,ho0,hb⟩;refine ⟨_,rfl,?_⟩;have n0_:=mA (Kd.R_elder' (by (with_reducible repeat (first|apply rA|apply rN|apply rD));exact (rM (rF (p:=⟨gb118,1,none⟩) (rF (p:=⟨gb118,0,none⟩) (Kd.R_types HO_108001.out BK118.out (by decide)) (fun _ hk=>hk.2) (.int .i64 t113)) (fun _ hk=>hk.2) (.slice Ao124 t114.length co124)) (fun _ h_=>h_.1))) (Kd.R_base ho0) hb);have n1_:=mA (Kd.R_elder' (by (with_reducible repeat (first|apply rA|apply rN|apply rD));exact (rM (rF (p:=⟨gb118,1,none⟩) (rF (p:=⟨gb118,0,none⟩) (Kd.R_types HO116.out BK118.out (by decide)) (fun _ hk=>hk.2) (.int .i64 t113)) (fun _ hk=>hk.2) (.slice Ao124 t114.length co124)) (fun _ h_=>h_.1))) (Kd.R_base ho0) hb);have n2_:=mA (Kd.R_lower (Kd.R_new' (Kd.R_new' ho0 (rL (by (with_reducible repeat (first|apply rA|apply rN|apply rD));exact (rM (rF (p:=⟨gb118,1,none⟩) (rF (p:=⟨gb118,0,none⟩) (Kd.R_types HO_108001.out BK118.out (by decide)) (fun _ hk=>hk.2) (.int .i64 t113)) (fun _ hk=>hk.2) (.slice Ao124 t114.length co124)) (fun _ h_=>h_.1))))) (rL (by (with_reducible repeat (first|apply rA|apply rN|apply rD));exact (rM (rF (p:=⟨gb118,1,none⟩) (rF (p:=⟨gb118,0,none⟩) (Kd.R_types HO116.out BK118.out (by decide)) (fun _ hk=>hk.2) (.int .i64 t113)) (fun _ hk=>hk.2) (.slice Ao124 t114.length co124)) (fun _ h_=>h_.1))))) (bZ (by repeat (first|(with_reducible first|exact HB.out|apply bA|apply bN|apply bD|refine bS ?_ GE107.out|refine bS ?_ GE118.out)|exact HB.out))));have n3_:=mA (blk_below (g:=gb107) (o:=.cells #[.int .i64 t102,.slice Ao11 t103.length co11] 36 (0,0)) (by (with_reducible repeat (first|refine kN ?_ _|refine kD ?_|refine kA ?_ _));refine blk_far ?_ NB107_118.out _;(with_reducible repeat (first|refine kN ?_ _|refine kD ?_|refine kA ?_ _));refine blk_far ?_ NB107_118.out _;(with_reducible repeat (first|refine kN ?_ _|refine kD ?_|refine kA ?_ _));exact BK107.out) hb);have n4_:=mA (blk_below (g:=gb118) (o:=.cells #[.int .i64 t113,.slice Ao124 t114.length co124] 36 (0,0)) (by (with_reducible repeat (first|refine kN ?_ _|refine kD ?_|refine kA ?_ _));refine blk_put (cs:=#[.int .i64 t113,.slice none 0 0]) ?_ 1 _ rfl;(with_reducible repeat (first|refine kN ?_ _|refine kD ?_|refine kA ?_ _));refine blk_put (cs:=#[.int .i64 0,.slice none 0 0]) ?_ 0 _ rfl;(with_reducible repeat (first|refine kN ?_ _|refine kD ?_|refine kA ?_ _));exact BK118.out) hb);have n5_:=mA (bT (by repeat (first|(with_reducible first|exact HB.out|apply bA|apply bN|apply bD|refine bS ?_ GE107.out|refine bS ?_ GE118.out)|exact HB.out)) hb);clear HO_108001 HO116 BK107 BK118 HB;have HO_108001:=n0_;have HO116:=n1_;have HO122:=n2_;have BK107:=n3_;have BK118:=n4_;have HB:=n5_;clear n0_ n1_ n2_ n3_ n4_ n5_;(try clear hb);(try clear hb2);(try clear hk);(try clear hi);(try clear ho0);have hcz127_0:w126.cell? ⟨gb107,0,none⟩=some (.int .i64 t102):=(kC BK107.out 0).trans rfl;have hcz127_1:w126.cell? ⟨gb107,1,none⟩=some (.slice Ao11 t103.length co11):=(kC BK107.out 1).trans rfl;have hfz127_0:=kF BK107.out 0;have hfz127_1:=kF BK107.out 1;obtain ⟨Ao128,co128,eo128⟩:=Kd.R_slice HO122.out;subst eo128)|((with_reducible refine gate_dst (N:=11) rfl ?_);refine box_event ?hg (N:=11) ?hd (cs:=#[.int .i64 0,.slice none 0 0]) (t:=36) ?hr ?_;(case hd=>rfl);(case hg=>rfl);(case hr=>first|(go_simp;done)|(go_simp;rfl));intro gb123 hg w129 hbox hb;have n0_:=mA (rB (by (with_reducible repeat (first|apply rA|apply rN|apply rD));exact HO_108001.out) hb);have n1_:=mA (rB (by (with_reducible repeat (first|apply rA|apply rN|apply rD));exact HO116.out) hb);have n2_:=mA (rB (by (with_reducible repeat (first|apply rA|apply rN|apply rD));exact HO122.out) hb);have n3_:=mA (blk_below (g:=gb107) (o:=.cells #[.int .i64 t102,.slice Ao11 t103.length co11] 36 (0,0)) (by (with_reducible repeat (first|refine kN ?_ _|refine kD ?_|refine kA ?_ _));exact BK107.out) hb);have n4_:=mA (blk_below (g:=gb118) (o:=.cells #[.int .i64 t113,.slice Ao124 t114.length co124] 36 (0,0)) (by (with_reducible repeat (first|refine kN ?_ _|refine kD ?_|refine kA ?_ _));exact BK118.out) hb);have n5_:=mA (bT (by repeat (first|(with_reducible first|exact HB.out|apply bA|apply bN|apply bD|refine bS ?_ GE107.out|refine bS ?_ GE118.out)|exact HB.out)) hb);have n6_:=mA (hbox);have n7_:=mA ((by rw [hg];exact (bZ (by repeat (first|(with_reducible first|exact HB.out|apply bA|apply bN|apply bD|refine bS ?_ GE107.out|refine bS ?_ GE118.out)|exact HB.out))):w.heap.size≤gb123));have n8_:=mA ((by rw [hg];exact (bZ (by repeat (first|(with_reducible first|exact HB.out|apply bA|apply bN|apply bD|refine bS ?_ GE107.out|refine bS ?_ GE118.out)|exact HB.out))):w.heap.size≤gb123));have n9_:=mA ((by rw [hg];exact Nat.ne_of_lt (blk_lt (g:=gb107) (o:=.cells #[.int .i64 t102,.slice Ao11 t103.length co11] 36 (0,0)) (by (with_reducible repeat (first|refine kN ?_ _|refine kD ?_|refine kA ?_ _));exact BK107.out)):gb107≠gb123));have n10_:=mA ((by rw [hg];exact Nat.ne_of_gt (blk_lt (g:=gb107) (o:=.cells #[.int .i64 t102,.slice Ao11 t103.length co11] 36 (0,0)) (by (with_reducible repeat (first|refine kN ?_ _|refine kD ?_|refine kA ?_ _));exact BK107.out)):gb123≠gb107));have n11_:=mA ((by rw [hg];exact Nat.ne_of_lt (blk_lt (g:=gb118) (o:=.cells #[.int .i64 t113,.slice Ao124 t114.length co124] 36 (0,0)) (by (with_reducible repeat (first|refine kN ?_ _|refine kD ?_|refine kA ?_ _));exact BK118.out)):gb118≠gb123));have n12_:=mA ((by rw [hg];exact Nat.ne_of_gt (blk_lt (g:=gb118) (o:=.cells #[.int .i64 t113,.slice Ao124 t114.length co124] 36 (0,0)) (by (with_reducible repeat (first|refine kN ?_ _|refine kD ?_|refine kA ?_ _));exact BK118.out)):gb123≠gb118));clear HO_108001 HO116 HO122 BK107 BK118 HB;have HO_108001:=n0_;have HO116:=n1_;have HO122:=n2_;have BK107:=n3_;have BK118:=n4_;have HB:=n5_;have BK123:=n6_;have GW123:=n7_;have GE123:=n8_;have NB107_123:=n9_;have NB123_107:=n10_;have NB118_123:=n11_;have NB123_118:=n12_;clear n0_ n1_ n2_ n3_ n4_ n5_ n6_ n7_ n8_ n9_ n10_ n11_ n12_ hb hbox hg;have hnb130:=NB123_107.out;have hnc130:=NB107_123.out;have hnb131:=NB123_118.out;have hnc131:=NB118_123.out;have hcz132_0:w129.cell? ⟨gb123,0,none⟩=some (.int .i64 0):=(kC BK123.out 0).trans rfl;have hcz132_1:w129.cell? ⟨gb123,1,none⟩=some (.slice none 0 0):=(kC BK123.out 1).trans rfl;have hfz132_0:=kF BK123.out 0;have hfz132_1:=kF BK123.out 1))
         have n0_:Aside0 (Kd.R k33 33 ((w129.setCell ⟨gb123,0,none⟩ (.int .i64 t102)).setCell ⟨gb123,1,none⟩ (.slice Ao128 t119.length co128)) w.heap.size (fun k_=>some k_≠(.slice Ao124 t114.length co124:Value).ownBlock∧some k_≠(.slice Ao128 t119.length co128:Value).ownBlock) (.slice Ao11 t103.length co11) t103):=⟨by (with_reducible repeat (first|apply rA|apply rN|apply rD));exact rM (rF (p:=⟨gb123,1,none⟩) (rF (p:=⟨gb123,0,none⟩) (Kd.R_types HO_108001.out BK123.out (by decide)) (fun _ hk=>hk.2) (.int .i64 t102)) (fun _ hk=>hk.2) (.slice Ao128 t119.length co128)) (fun _ hk=>⟨hk.1.1.2,hk.1.2⟩)⟩
         have n1_:Aside0 (Kd.R k33 33 ((w129.setCell ⟨gb123,0,none⟩ (.int .i64 t102)).setCell ⟨gb123,1,none⟩ (.slice Ao128 t119.length co128)) w.heap.size (fun k_=>some k_≠(.slice Ao11 t103.length co11:Value).ownBlock∧some k_≠(.slice Ao128 t119.length co128:Value).ownBlock) (.slice Ao124 t114.length co124) t114):=⟨by (with_reducible repeat (first|apply rA|apply rN|apply rD));exact rM (rF (p:=⟨gb123,1,none⟩) (rF (p:=⟨gb123,0,none⟩) (Kd.R_types HO116.out BK123.out (by decide)) (fun _ hk=>hk.2) (.int .i64 t102)) (fun _ hk=>hk.2) (.slice Ao128 t119.length co128)) (fun _ hk=>⟨hk.1.1.2,hk.1.2⟩)⟩
         have n2_:Aside0 (Kd.R k33 33 ((w129.setCell ⟨gb123,0,none⟩ (.int .i64 t102)).setCell ⟨gb123,1,none⟩ (.slice Ao128 t119.length co128)) w.heap.size (fun k_=>some k_≠(.slice Ao11 t103.length co11:Value).ownBlock∧some k_≠(.slice Ao124 t114.length co124:Value).ownBlock) (.slice Ao128 t119.length co128) t119):=⟨by (with_reducible repeat (first|apply rA|apply rN|apply rD));exact rM (rF (p:=⟨gb123,1,none⟩) (rF (p:=⟨gb123,0,none⟩) (Kd.R_types HO122.out BK123.out (by decide)) (fun _ hk=>hk.2) (.int .i64 t102)) (fun _ hk=>hk.2) (.slice Ao128 t119.length co128)) (fun _ hk=>⟨hk.1.1.2,hk.1.2⟩)⟩
         have n3_:Aside0 (((w129.setCell ⟨gb123,0,none⟩ (.int .i64 t102)).setCell ⟨gb123,1,none⟩ (.slice Ao128 t119.length co128)).heap[gb107]?=some (.cells #[.int .i64 t102,.slice Ao11 t103.length co11] 36 (0,0))):=⟨by (with_reducible repeat (first|refine kN ?_ _|refine kD ?_|refine kA ?_ _));refine blk_far ?_ NB107_123.out _;(with_reducible repeat (first|refine kN ?_ _|refine kD ?_|refine kA ?_ _));refine blk_far ?_ NB107_123.out _;(with_reducible repeat (first|refine kN ?_ _|refine kD ?_|refine kA ?_ _));exact BK107.out⟩
         have n4_:Aside0 (((w129.setCell ⟨gb123,0,none⟩ (.int .i64 t102)).setCell ⟨gb123,1,none⟩ (.slice Ao128 t119.length co128)).heap[gb118]?=some (.cells #[.int .i64 t113,.slice Ao124 t114.length co124] 36 (0,0))):=⟨by (with_reducible repeat (first|refine kN ?_ _|refine kD ?_|refine kA ?_ _));refine blk_far ?_ NB118_123.out _;(with_reducible repeat (first|refine kN ?_ _|refine kD ?_|refine kA ?_ _));refine blk_far ?_ NB118_123.out _;(with_reducible repeat (first|refine kN ?_ _|refine kD ?_|refine kA ?_ _));exact BK118.out⟩
         have n5_:Aside0 (((w129.setCell ⟨gb123,0,none⟩ (.int .i64 t102)).setCell ⟨gb123,1,none⟩ (.slice Ao128 t119.length co128)).heap[gb123]?=some (.cells #[.int .i64 t102,.slice Ao128 t119.length co128] 36 (0,0))):=⟨by (with_reducible repeat (first|refine kN ?_ _|refine kD ?_|refine kA ?_ _));refine blk_put (cs:=#[.int .i64 t102,.slice none 0 0]) ?_ 1 _ rfl;(with_reducible repeat (first|refine kN ?_ _|refine kD ?_|refine kA ?_ _));refine blk_put (cs:=#[.int .i64 0,.slice none 0 0]) ?_ 0 _ rfl;(with_reducible repeat (first|refine kN ?_ _|refine kD ?_|refine kA ?_ _));exact BK123.out⟩
         have n6_:Aside0 (Below w.heap.size w ((w129.setCell ⟨gb123,0,none⟩ (.int .i64 t102)).setCell ⟨gb123,1,none⟩ (.slice Ao128 t119.length co128))):=⟨by repeat (first|(with_reducible first|exact HB.out|apply bA|apply bN|apply bD|refine bS ?_ GE107.out|refine bS ?_ GE118.out|refine bS ?_ GE123.out)|exact HB.out)⟩
         (try clear HO_108001)
         (try clear HO116)
         (try clear HO122)
         (try clear BK107)
         (try clear BK118)
         (try clear BK123)
         (try clear HB)
         generalize ((w129.setCell ⟨gb123,0,none⟩ (.int .i64 t102)).setCell ⟨gb123,1,none⟩ (.slice Ao128 t119.length co128))=w133 at n0_ n1_ n2_ n3_ n4_ n5_ n6_ ⊢
         have HO_108001:=n0_
         have HO116:=n1_
         have HO122:=n2_
         have BK107:=n3_
         have BK118:=n4_
         have BK123:=n5_
         have HB:=n6_
         clear n0_ n1_ n2_ n3_ n4_ n5_ n6_
         have n0_:=mA (rD HO_108001.out)
         have n1_:=mA (rD HO116.out)
         have n2_:=mA (rD HO122.out)
         have n3_:=mA (kD BK107.out)
         have n4_:=mA (kD BK118.out)
         have n5_:=mA (kD BK123.out)
         have n6_:=mA (bD HB.out)
         clear HO_108001
         clear HO116
         clear HO122
         clear BK107
         clear BK118
         clear BK123
         clear HB
         have HO_108001:=n0_
         have HO116:=n1_
         have HO122:=n2_
         have BK107:=n3_
         have BK118:=n4_
         have BK123:=n5_
         have HB:=n6_
         clear n0_ n1_ n2_ n3_ n4_ n5_ n6_
         refine start_ (n:=34) (S:=fun w'=>w'.cell? ⟨gb123,0,none⟩=some (.int .i64 t102)∧w'.cell? ⟨gb123,1,none⟩=some (.slice Ao128 t119.length co128)) (ds:=[]) #[O,O,O,O,O,O,O,O,O,O,O,O,O,O,O,O,O,O,O,O,O,O,O,O,O,O,O,O,O,O,O,O,O,O] (by kernel_rfl) rfl rfl ⟨(kC BK123.out 0).trans rfl,(kC BK123.out 1).trans rfl⟩ (fun hHeld=>?_);refine with_tabW laws_FnMaySay.tab12 laws_FnMaySay.bits12 (fun HT_ HW_=>?_)
         generalize w133.drew=w134 at HO_108001 HO116 HO122 BK107 BK118 BK123 HB hHeld ⊢
         refine pure_ (i:=0) (N:=some 63) (v:=?_) (a':=?_) #[I,O,O,O,O,O,O,O,O,O,O,O,O,O,O,O,O,O,O,O,O,O,O,O,O,O,O,O,O,O,O,O,O,O] rfl rfl (any_of HT_.out (by kernel_rfl)) (fun _ _ _ h=>h) (Or.inl ⟨by rfl,?_⟩) ?_ ?_
         rotate_left
         ·intro w'
          go_simp
          with_reducible rfl
         rotate_left
         ·simp only [Act.put,sA,sZ,sS,i64_w,i32_w]
          rfl
         refine pure_ (i:=1) (N:=some 64) (v:=?_) (a':=?_) #[I,I,O,O,O,O,O,O,O,O,O,O,O,O,O,O,O,O,O,O,O,O,O,O,O,O,O,O,O,O,O,O,O,O] rfl rfl (any_of HT_.out (by kernel_rfl)) (fun _ _ _ h=>h) (Or.inl ⟨by rfl,?_⟩) ?_ ?_
         rotate_left
         ·intro w'
          go_simp
          with_reducible rfl
         rotate_left
         ·simp only [Act.put,sA,sZ,sS,i64_w,i32_w]
          rfl
         refine pure_ (i:=2) (N:=some 65) (v:=?_) (a':=?_) #[I,I,I,O,O,O,O,O,O,O,O,O,O,O,O,O,O,O,O,O,O,O,O,O,O,O,O,O,O,O,O,O,O,O] rfl rfl (any_of HT_.out (by kernel_rfl)) (fun _ _ _ h=>h) (Or.inl ⟨by rfl,?_⟩) ?_ ?_
         rotate_left
         ·intro w'
          go_simp
          with_reducible rfl
         rotate_left
         ·simp only [Act.put,sA,sZ,sS,i64_w,i32_w]
          rfl
         refine pure_ (i:=3) (N:=some 66) (v:=undef) (a':=?_) #[I,I,I,I,O,O,O,O,O,O,O,O,O,O,O,O,O,O,O,O,O,O,O,O,O,O,O,O,O,O,O,O,O,O] rfl rfl (any_of HT_.out (by kernel_rfl)) (fun _ _ _ h=>h) (Or.inr ⟨by rfl,rfl⟩) ?_ ?_
         rotate_left
         ·simp only [Act.put,sA,sZ,sS,i64_w,i32_w]
          rfl
         refine pure_ (i:=4) (N:=some 67) (v:=undef) (a':=?_) #[I,I,I,I,I,O,O,O,O,O,O,O,O,O,O,O,O,O,O,O,O,O,O,O,O,O,O,O,O,O,O,O,O,O] rfl rfl (any_of HT_.out (by kernel_rfl)) (fun _ _ _ h=>h) (Or.inr ⟨by rfl,rfl⟩) ?_ ?_
         rotate_left
         ·simp only [Act.put,sA,sZ,sS,i64_w,i32_w]
          rfl
         refine pure_ (i:=5) (N:=some 68) (v:=undef) (a':=?_) #[I,I,I,I,I,I,O,O,O,O,O,O,O,O,O,O,O,O,O,O,O,O,O,O,O,O,O,O,O,O,O,O,O,O] rfl rfl (any_of HT_.out (by kernel_rfl)) (fun _ _ _ h=>h) (Or.inr ⟨by rfl,rfl⟩) ?_ ?_
         rotate_left
         ·simp only [Act.put,sA,sZ,sS,i64_w,i32_w]
          rfl
         refine pure_ (i:=6) (N:=some 69) (v:=undef) (a':=?_) #[I,I,I,I,I,I,I,O,O,O,O,O,O,O,O,O,O,O,O,O,O,O,O,O,O,O,O,O,O,O,O,O,O,O] rfl rfl (any_of HT_.out (by kernel_rfl)) (fun _ _ _ h=>h) (Or.inr ⟨by rfl,rfl⟩) ?_ ?_
         rotate_left
         ·simp only [Act.put,sA,sZ,sS,i64_w,i32_w]
          rfl
         refine pure_ (i:=7) (N:=some 70) (v:=undef) (a':=?_) #[I,I,I,I,I,I,I,I,O,O,O,O,O,O,O,O,O,O,O,O,O,O,O,O,O,O,O,O,O,O,O,O,O,O] rfl rfl (any_of HT_.out (by kernel_rfl)) (fun _ _ _ h=>h) (Or.inr ⟨by rfl,rfl⟩) ?_ ?_
         rotate_left
         ·simp only [Act.put,sA,sZ,sS,i64_w,i32_w]
          rfl
         refine pure_ (i:=8) (N:=some 71) (v:=undef) (a':=?_) #[I,I,I,I,I,I,I,I,I,O,O,O,O,O,O,O,O,O,O,O,O,O,O,O,O,O,O,O,O,O,O,O,O,O] rfl rfl (any_of HT_.out (by kernel_rfl)) (fun _ _ _ h=>h) (Or.inr ⟨by rfl,rfl⟩) ?_ ?_
         rotate_left
         ·simp only [Act.put,sA,sZ,sS,i64_w,i32_w]
          rfl
         refine pure_ (i:=9) (N:=some 72) (v:=?_) (a':=?_) #[I,I,I,I,I,I,I,I,I,I,O,O,O,O,O,O,O,O,O,O,O,O,O,O,O,O,O,O,O,O,O,O,O,O] rfl rfl (any_of HT_.out (by kernel_rfl)) (fun _ _ _ h=>h) (Or.inl ⟨by rfl,?_⟩) ?_ ?_
         rotate_left
         ·intro w'
          go_simp
          with_reducible rfl
         rotate_left
         ·simp only [Act.put,sA,sZ,sS,i64_w,i32_w]
          rfl
         refine pure_ (i:=10) (N:=some 73) (v:=?_) (a':=?_) #[I,I,I,I,I,I,I,I,I,I,I,O,O,O,O,O,O,O,O,O,O,O,O,O,O,O,O,O,O,O,O,O,O,O] rfl rfl (any_of HT_.out (by kernel_rfl)) (fun _ _ _ h=>h) (Or.inl ⟨by rfl,?_⟩) ?_ ?_
         rotate_left
         ·intro w'
          go_simp
          with_reducible rfl
         rotate_left
         ·simp only [Act.put,sA,sZ,sS,i64_w,i32_w]
          rfl
         refine pure_ (i:=11) (N:=some 74) (v:=?_) (a':=?_) #[I,I,I,I,I,I,I,I,I,I,I,I,O,O,O,O,O,O,O,O,O,O,O,O,O,O,O,O,O,O,O,O,O,O] rfl rfl (any_of HT_.out (by kernel_rfl)) (fun _ _ _ h=>h) (Or.inl ⟨by rfl,?_⟩) ?_ ?_
         rotate_left
         ·intro w'
          go_simp
          with_reducible rfl
         rotate_left
         ·simp only [Act.put,sA,sZ,sS,i64_w,i32_w]
          rfl
         refine pure_ (i:=12) (N:=some 75) (v:=?_) (a':=?_) #[I,I,I,I,I,I,I,I,I,I,I,I,I,O,O,O,O,O,O,O,O,O,O,O,O,O,O,O,O,O,O,O,O,O] rfl rfl (any_of HT_.out (by kernel_rfl)) (fun _ _ _ h=>h) (Or.inl ⟨by rfl,?_⟩) ?_ ?_
         rotate_left
         ·intro w'
          go_simp
          with_reducible rfl
         rotate_left
         ·simp only [Act.put,sA,sZ,sS,i64_w,i32_w]
          rfl
         refine pure_ (i:=13) (N:=some 76) (v:=?_) (a':=?_) #[I,I,I,I,I,I,I,I,I,I,I,I,I,I,O,O,O,O,O,O,O,O,O,O,O,O,O,O,O,O,O,O,O,O] rfl rfl (any_of HT_.out (by kernel_rfl)) (fun _ _ _ h=>h) (Or.inl ⟨by rfl,?_⟩) ?_ ?_
         rotate_left
         ·intro w'
          go_simp
          with_reducible rfl
         rotate_left
         ·simp only [Act.put,sA,sZ,sS,i64_w,i32_w]
          rfl
         refine pure_ (i:=14) (N:=some 77) (v:=?_) (a':=?_) #[I,I,I,I,I,I,I,I,I,I,I,I,I,I,I,O,O,O,O,O,O,O,O,O,O,O,O,O,O,O,O,O,O,O] rfl rfl (any_of HT_.out (by kernel_rfl)) (fun _ _ _ h=>h) (Or.inl ⟨by rfl,?_⟩) ?_ ?_
         rotate_left
         ·intro w'
          go_simp
          with_reducible rfl
         rotate_left
         ·simp only [Act.put,sA,sZ,sS,i64_w,i32_w]
          rfl
         refine take_ (i:=15) (N:=some 78) (v:=?_) (a':=?_) #[I,I,I,I,I,I,I,I,I,I,I,I,I,I,I,I,O,O,O,O,O,O,O,O,O,O,O,O,O,O,O,O,O,O] rfl rfl (take_ofW HT_.out HW_.out (by kernel_rfl)) (fun _ _ _ h=>h) (Or.inl ⟨by rfl,?_⟩) hHeld ?_ ?_
         rotate_left
         ·rintro w' ⟨s0,s1⟩
          go_simp
          with_reducible rfl
         rotate_left
         ·simp only [Act.put,sA,sZ,sS,i64_w,i32_w]
          rfl
         refine one_ (i:=16) (N:=some 79) #[I,I,I,I,I,I,I,I,I,I,I,I,I,I,I,I,I,O,O,O,O,O,O,O,O,O,O,O,O,O,O,O,O,O] rfl rfl (one_of HT_.out (by kernel_rfl)) (by decide) (fun K hK=>?_)
         refine goes_ Try.func37 (by kernel_rfl) rfl #[.int .i64 t101,.agg #[.int .i64 t102,.slice Ao128 t119.length co128]] (by rfl) rfl rfl (by (try simp only [mT,mC,mN]);first|done|rfl|(simp only [lD,lT];rfl)) ?_
         with_reducible refine (spec_ClaimOk.calls kj6 t101 t102 _ _ t119 false _ ?side1 ?side2 A94.out).mono ?_
         (case side1=>repeat (first|exact (rR HO122.out).2.2|(with_reducible refine cA ?_ _)|(with_reducible refine cN ?_ _)|(with_reducible refine cD ?_)))
         (case side2=>exact (rR HO122.out).2.1)
         rintro e w135 ⟨rfl,hb⟩
         refine ⟨_,rfl,?_⟩
         have n0_:=mA (rB (by (with_reducible repeat (first|apply rA|apply rN|apply rD));exact HO_108001.out) hb)
         have n1_:=mA (rB (by (with_reducible repeat (first|apply rA|apply rN|apply rD));exact HO116.out) hb)
         have n2_:=mA (rB (by (with_reducible repeat (first|apply rA|apply rN|apply rD));exact HO122.out) hb)
         have n3_:=mA (blk_below (g:=gb107) (o:=.cells #[.int .i64 t102,.slice Ao11 t103.length co11] 36 (0,0)) (by (with_reducible repeat (first|refine kN ?_ _|refine kD ?_|refine kA ?_ _));exact BK107.out) hb)
         have n4_:=mA (blk_below (g:=gb118) (o:=.cells #[.int .i64 t113,.slice Ao124 t114.length co124] 36 (0,0)) (by (with_reducible repeat (first|refine kN ?_ _|refine kD ?_|refine kA ?_ _));exact BK118.out) hb)
         have n5_:=mA (blk_below (g:=gb123) (o:=.cells #[.int .i64 t102,.slice Ao128 t119.length co128] 36 (0,0)) (by (with_reducible repeat (first|refine kN ?_ _|refine kD ?_|refine kA ?_ _));exact BK123.out) hb)
         have n6_:=mA (bT (by repeat (first|(with_reducible first|exact HB.out|apply bA|apply bN|apply bD|refine bS ?_ GE107.out|refine bS ?_ GE118.out|refine bS ?_ GE123.out)|exact HB.out)) hb)
         clear HO_108001
         clear HO116
         clear HO122
         clear BK107
         clear BK118
         clear BK123
         clear HB
         have HO_108001:=n0_
         have HO116:=n1_
         have HO122:=n2_
         have BK107:=n3_
         have BK118:=n4_
         have BK123:=n5_
         have HB:=n6_
         clear n0_ n1_ n2_ n3_ n4_ n5_ n6_
         (try clear hb)
         (try clear hb2)
         (try clear hk)
         (try clear hi)
         refine hK.out _ _ ⟨(kC BK123.out 0).trans rfl,(kC BK123.out 1).trans rfl⟩ (fun hHeld=>?_)
         clear hK K
         refine norm_ (a':=?_) ?_ ?_
         rotate_left
         ·show Act.put _ (some 79) _=_
          simp only [Act.put,sA,sZ,sS,i64_w,i32_w]
          rfl
         refine pure_ (i:=17) (N:=some 80) (v:=?_) (a':=?_) #[I,I,I,I,I,I,I,I,I,I,I,I,I,I,I,I,I,I,O,O,O,O,O,O,O,O,O,O,O,O,O,O,O,O] rfl rfl (any_of HT_.out (by kernel_rfl)) (fun _ _ _ h=>h) (Or.inl ⟨by rfl,?_⟩) ?_ ?_
         rotate_left
         ·intro w'
          go_simp
          with_reducible rfl
         rotate_left
         ·simp only [Act.put,sA,sZ,sS,i64_w,i32_w]
          rfl
         refine pure_ (i:=18) (N:=some 81) (v:=?_) (a':=?_) #[I,I,I,I,I,I,I,I,I,I,I,I,I,I,I,I,I,I,I,O,O,O,O,O,O,O,O,O,O,O,O,O,O,O] rfl rfl (any_of HT_.out (by kernel_rfl)) (fun _ _ _ h=>h) (Or.inl ⟨by rfl,?_⟩) ?_ ?_
         rotate_left
         ·intro w'
          go_simp
          with_reducible rfl
         rotate_left
         ·simp only [Act.put,sA,sZ,sS,i64_w,i32_w]
          rfl
         refine pure_ (i:=19) (N:=some 82) (v:=?_) (a':=?_) #[I,I,I,I,I,I,I,I,I,I,I,I,I,I,I,I,I,I,I,I,O,O,O,O,O,O,O,O,O,O,O,O,O,O] rfl rfl (any_of HT_.out (by kernel_rfl)) (fun _ _ _ h=>h) (Or.inl ⟨by rfl,?_⟩) ?_ ?_
         rotate_left
         ·intro w'
          go_simp
          with_reducible rfl
         rotate_left
         ·simp only [Act.put,sA,sZ,sS,i64_w,i32_w]
          rfl
         refine pure_ (i:=20) (N:=some 83) (v:=undef) (a':=?_) #[I,I,I,I,I,I,I,I,I,I,I,I,I,I,I,I,I,I,I,I,I,O,O,O,O,O,O,O,O,O,O,O,O,O] rfl rfl (any_of HT_.out (by kernel_rfl)) (fun _ _ _ h=>h) (Or.inr ⟨by rfl,rfl⟩) ?_ ?_
         rotate_left
         ·simp only [Act.put,sA,sZ,sS,i64_w,i32_w]
          rfl
         refine pure_ (i:=21) (N:=some 84) (v:=undef) (a':=?_) #[I,I,I,I,I,I,I,I,I,I,I,I,I,I,I,I,I,I,I,I,I,I,O,O,O,O,O,O,O,O,O,O,O,O] rfl rfl (any_of HT_.out (by kernel_rfl)) (fun _ _ _ h=>h) (Or.inr ⟨by rfl,rfl⟩) ?_ ?_
         rotate_left
         ·simp only [Act.put,sA,sZ,sS,i64_w,i32_w]
          rfl
         refine pure_ (i:=22) (N:=some 85) (v:=undef) (a':=?_) #[I,I,I,I,I,I,I,I,I,I,I,I,I,I,I,I,I,I,I,I,I,I,I,O,O,O,O,O,O,O,O,O,O,O] rfl rfl (any_of HT_.out (by kernel_rfl)) (fun _ _ _ h=>h) (Or.inr ⟨by rfl,rfl⟩) ?_ ?_
         rotate_left
         ·simp only [Act.put,sA,sZ,sS,i64_w,i32_w]
          rfl
         refine pure_ (i:=23) (N:=some 86) (v:=undef) (a':=?_) #[I,I,I,I,I,I,I,I,I,I,I,I,I,I,I,I,I,I,I,I,I,I,I,I,O,O,O,O,O,O,O,O,O,O] rfl rfl (any_of HT_.out (by kernel_rfl)) (fun _ _ _ h=>h) (Or.inr ⟨by rfl,rfl⟩) ?_ ?_
         rotate_left
         ·simp only [Act.put,sA,sZ,sS,i64_w,i32_w]
          rfl
         refine pure_ (i:=24) (N:=some 87) (v:=undef) (a':=?_) #[I,I,I,I,I,I,I,I,I,I,I,I,I,I,I,I,I,I,I,I,I,I,I,I,I,O,O,O,O,O,O,O,O,O] rfl rfl (any_of HT_.out (by kernel_rfl)) (fun _ _ _ h=>h) (Or.inr ⟨by rfl,rfl⟩) ?_ ?_
         rotate_left
         ·simp only [Act.put,sA,sZ,sS,i64_w,i32_w]
          rfl
         refine pure_ (i:=25) (N:=some 88) (v:=undef) (a':=?_) #[I,I,I,I,I,I,I,I,I,I,I,I,I,I,I,I,I,I,I,I,I,I,I,I,I,I,O,O,O,O,O,O,O,O] rfl rfl (any_of HT_.out (by kernel_rfl)) (fun _ _ _ h=>h) (Or.inr ⟨by rfl,rfl⟩) ?_ ?_
         rotate_left
         ·simp only [Act.put,sA,sZ,sS,i64_w,i32_w]
          rfl
         refine pure_ (i:=26) (N:=some 89) (v:=undef) (a':=?_) #[I,I,I,I,I,I,I,I,I,I,I,I,I,I,I,I,I,I,I,I,I,I,I,I,I,I,I,O,O,O,O,O,O,O] rfl rfl (any_of HT_.out (by kernel_rfl)) (fun _ _ _ h=>h) (Or.inr ⟨by rfl,rfl⟩) ?_ ?_
         rotate_left
         ·simp only [Act.put,sA,sZ,sS,i64_w,i32_w]
          rfl
         refine pure_ (i:=27) (N:=some 90) (v:=undef) (a':=?_) #[I,I,I,I,I,I,I,I,I,I,I,I,I,I,I,I,I,I,I,I,I,I,I,I,I,I,I,I,O,O,O,O,O,O] rfl rfl (any_of HT_.out (by kernel_rfl)) (fun _ _ _ h=>h) (Or.inr ⟨by rfl,rfl⟩) ?_ ?_
         rotate_left
         ·simp only [Act.put,sA,sZ,sS,i64_w,i32_w]
          rfl
         refine pure_ (i:=28) (N:=some 91) (v:=?_) (a':=?_) #[I,I,I,I,I,I,I,I,I,I,I,I,I,I,I,I,I,I,I,I,I,I,I,I,I,I,I,I,I,O,O,O,O,O] rfl rfl (any_of HT_.out (by kernel_rfl)) (fun _ _ _ h=>h) (Or.inl ⟨by rfl,?_⟩) ?_ ?_
         rotate_left
         ·intro w'
          go_simp
          with_reducible rfl
         rotate_left
         ·simp only [Act.put,sA,sZ,sS,i64_w,i32_w]
          rfl
         refine pure_ (i:=29) (N:=some 92) (v:=?_) (a':=?_) #[I,I,I,I,I,I,I,I,I,I,I,I,I,I,I,I,I,I,I,I,I,I,I,I,I,I,I,I,I,I,O,O,O,O] rfl rfl (any_of HT_.out (by kernel_rfl)) (fun _ _ _ h=>h) (Or.inl ⟨by rfl,?_⟩) ?_ ?_
         rotate_left
         ·intro w'
          go_simp
          with_reducible rfl
         rotate_left
         ·simp only [Act.put,sA,sZ,sS,i64_w,i32_w]
          rfl
         refine pure_ (i:=30) (N:=some 93) (v:=?_) (a':=?_) #[I,I,I,I,I,I,I,I,I,I,I,I,I,I,I,I,I,I,I,I,I,I,I,I,I,I,I,I,I,I,I,O,O,O] rfl rfl (any_of HT_.out (by kernel_rfl)) (fun _ _ _ h=>h) (Or.inl ⟨by rfl,?_⟩) ?_ ?_
         rotate_left
         ·intro w'
          go_simp
          with_reducible rfl
         rotate_left
         ·simp only [Act.put,sA,sZ,sS,i64_w,i32_w]
          rfl
         refine one_ (i:=31) (N:=some 94) #[I,I,I,I,I,I,I,I,I,I,I,I,I,I,I,I,I,I,I,I,I,I,I,I,I,I,I,I,I,I,I,I,O,O] rfl rfl (one_of HT_.out (by kernel_rfl)) (by decide) (fun K hK=>?_)
         refine goes_ Try.func26 (by kernel_rfl) rfl #[] (by rfl) rfl rfl (by (try simp only [mT,mC,mN]);first|done|rfl|(simp only [lD,lT];rfl)) ?_
         with_reducible refine (laws_alive.calls  t135 _ A118.out).mono ?_
         rintro e w' ⟨rfl,⟨nd,rfl⟩⟩
         refine ⟨_,rfl,?_⟩
         refine hK.out _ _ ⟨(kC BK123.out 0).trans rfl,(kC BK123.out 1).trans rfl⟩ (fun hHeld=>?_)
         clear hK K
         refine norm_ (a':=?_) ?_ ?_
         rotate_left
         ·show Act.put _ (some 94) _=_
          simp only [Act.put,sA,sZ,sS,i64_w,i32_w]
          rfl
         refine pure_ (i:=32) (N:=some 95) (v:=?_) (a':=?_) #[I,I,I,I,I,I,I,I,I,I,I,I,I,I,I,I,I,I,I,I,I,I,I,I,I,I,I,I,I,I,I,I,I,O] rfl rfl (any_of HT_.out (by kernel_rfl)) (fun _ _ _ h=>h) (Or.inl ⟨by rfl,?_⟩) ?_ ?_
         rotate_left
         ·intro w'
          go_simp
          with_reducible rfl
         rotate_left
         ·simp only [Act.put,sA,sZ,sS,i64_w,i32_w]
          rfl
         refine pure_ (i:=33) (N:=some 2) (v:=?_) (a':=?_) #[I,I,I,I,I,I,I,I,I,I,I,I,I,I,I,I,I,I,I,I,I,I,I,I,I,I,I,I,I,I,I,I,I,I] rfl rfl (any_of HT_.out (by kernel_rfl)) (fun _ _ _ h=>h) (Or.inl ⟨by rfl,?_⟩) ?_ ?_
         rotate_left
         ·intro w'
          go_simp
          with_reducible rfl
         rotate_left
         ·simp only [Act.put,sA,sZ,sS,i64_w,i32_w]
          rfl
         refine done_ (done_of HT_.out (by kernel_rfl)) ?_
         try go_wp2
         go_ret
         exact ⟨by first|rfl|(simp [errW_none,errW_some]<;>rfl)|(simp [*, errW_none,errW_some]<;>rfl),by repeat (first|(with_reducible first|exact HB.out|apply bA|apply bN|apply bD|refine bS ?_ GE107.out|refine bS ?_ GE118.out|refine bS ?_ GE123.out)|exact HB.out)⟩
       ·replace c93:=Bool.eq_false_iff.mpr c93
        subst c93
        have H1:((laws_alive.f).bind fun t136=>(some t136))=some r:=by rw [if_neg (show ¬ (false=true) by decide)] at H;exact H
        clear H
        have H:=H1
        clear H1
        replace H:=Option.bind_eq_some_iff.mp H
        obtain ⟨t136,A1360,H⟩:=H
        replace H:(some t136)=some r:=H
        have A136:=mA A1360
        clear A1360
        obtain rfl:=Option.some.inj H
        have hcz137_0:wc.cell? ⟨gb107,0,none⟩=some (.int .i64 t102):=(kC BK107.out 0).trans rfl
        have hcz137_1:wc.cell? ⟨gb107,1,none⟩=some (.slice Ao11 t103.length co11):=(kC BK107.out 1).trans rfl
        have hfz137_0:=kF BK107.out 0
        have hfz137_1:=kF BK107.out 1
        try go_wp2_with (first|((with_reducible refine gate_callee (f:=39) rfl ?_);refine goesL_ (some 49) rfl rfl Try.func39 (by kernel_rfl) rfl #[.int .i64 t101,.agg #[.int .i64 t102,.slice Ao11 t103.length co11]] rfl (by (try simp only [mT,mC,mN]);first|done|rfl|(simp only [lD,lT];rfl)) ?_;(with_reducible refine (impl_DenyClaim.calls kj6 t101 t102 _ _ t103 t113 t114 false _ ?side1 ?side2 A25.out).mono ?_);(case side1=>repeat (first|exact (rR HO_108001.out).2.2|(with_reducible refine cA ?_ _)|(with_reducible refine cN ?_ _)|(with_reducible refine cD ?_)));(case side2=>exact (rR HO_108001.out).2.1);rintro e w138 ⟨v115,rfl,ho0,hb⟩;refine ⟨_,rfl,?_⟩;have n0_:=mA (Kd.R_elder' (by (with_reducible repeat (first|apply rA|apply rN|apply rD));exact HO_108001.out) (Kd.R_base ho0) hb);have n1_:=mA (Kd.R_lower (Kd.R_new' ho0 (rL (by (with_reducible repeat (first|apply rA|apply rN|apply rD));exact HO_108001.out))) (bZ (by repeat (first|(with_reducible first|exact HB.out|apply bA|apply bN|apply bD|refine bS ?_ GE107.out)|exact HB.out))));have n2_:=mA (blk_below (g:=gb107) (o:=.cells #[.int .i64 t102,.slice Ao11 t103.length co11] 36 (0,0)) (by (with_reducible repeat (first|refine kN ?_ _|refine kD ?_|refine kA ?_ _));exact BK107.out) hb);have n3_:=mA (bT (by repeat (first|(with_reducible first|exact HB.out|apply bA|apply bN|apply bD|refine bS ?_ GE107.out)|exact HB.out)) hb);clear HO_108001 BK107 HB;have HO_108001:=n0_;have HO116:=n1_;have BK107:=n2_;have HB:=n3_;clear n0_ n1_ n2_ n3_;(try clear hb);(try clear hb2);(try clear hk);(try clear hi);(try clear ho0))|((with_reducible refine gate_dst (N:=7) rfl ?_);refine box_event ?hg (N:=7) ?hd (cs:=#[.int .i64 0,.slice none 0 0]) (t:=36) ?hr ?_;(case hd=>rfl);(case hg=>rfl);(case hr=>first|(go_simp;done)|(go_simp;rfl));intro gb118 hg w139 hbox hb;have n0_:=mA (rB (by (with_reducible repeat (first|apply rA|apply rN|apply rD));exact HO_108001.out) hb);have n1_:=mA (rB (by (with_reducible repeat (first|apply rA|apply rN|apply rD));exact HO116.out) hb);have n2_:=mA (blk_below (g:=gb107) (o:=.cells #[.int .i64 t102,.slice Ao11 t103.length co11] 36 (0,0)) (by (with_reducible repeat (first|refine kN ?_ _|refine kD ?_|refine kA ?_ _));exact BK107.out) hb);have n3_:=mA (bT (by repeat (first|(with_reducible first|exact HB.out|apply bA|apply bN|apply bD|refine bS ?_ GE107.out)|exact HB.out)) hb);have n4_:=mA (hbox);have n5_:=mA ((by rw [hg];exact (bZ (by repeat (first|(with_reducible first|exact HB.out|apply bA|apply bN|apply bD|refine bS ?_ GE107.out)|exact HB.out))):w.heap.size≤gb118));have n6_:=mA ((by rw [hg];exact (bZ (by repeat (first|(with_reducible first|exact HB.out|apply bA|apply bN|apply bD|refine bS ?_ GE107.out)|exact HB.out))):w.heap.size≤gb118));have n7_:=mA ((by rw [hg];exact Nat.ne_of_lt (blk_lt (g:=gb107) (o:=.cells #[.int .i64 t102,.slice Ao11 t103.length co11] 36 (0,0)) (by (with_reducible repeat (first|refine kN ?_ _|refine kD ?_|refine kA ?_ _));exact BK107.out)):gb107≠gb118));have n8_:=mA ((by rw [hg];exact Nat.ne_of_gt (blk_lt (g:=gb107) (o:=.cells #[.int .i64 t102,.slice Ao11 t103.length co11] 36 (0,0)) (by (with_reducible repeat (first|refine kN ?_ _|refine kD ?_|refine kA ?_ _));exact BK107.out)):gb118≠gb107));clear HO_108001 HO116 BK107 HB;have HO_108001:=n0_;have HO116:=n1_;have BK107:=n2_;have HB:=n3_;have BK118:=n4_;have GW118:=n5_;have GE118:=n6_;have NB107_118:=n7_;have NB118_107:=n8_;clear n0_ n1_ n2_ n3_ n4_ n5_ n6_ n7_ n8_ hb hbox hg;have hnb140:=NB118_107.out;have hnc140:=NB107_118.out;have hcz141_0:w139.cell? ⟨gb118,0,none⟩=some (.int .i64 0):=(kC BK118.out 0).trans rfl;have hcz141_1:w139.cell? ⟨gb118,1,none⟩=some (.slice none 0 0):=(kC BK118.out 1).trans rfl;have hfz141_0:=kF BK118.out 0;have hfz141_1:=kF BK118.out 1;obtain ⟨Ao142,co142,eo142⟩:=Kd.R_slice HO116.out;subst eo142;have hcz143_0:w139.cell? ⟨gb107,0,none⟩=some (.int .i64 t102):=(kC BK107.out 0).trans rfl;have hcz143_1:w139.cell? ⟨gb107,1,none⟩=some (.slice Ao11 t103.length co11):=(kC BK107.out 1).trans rfl;have hfz143_0:=kF BK107.out 0;have hfz143_1:=kF BK107.out 1)|((with_reducible refine gate_callee (f:=40) rfl ?_);refine goesL_ (some 56) rfl rfl Try.func40 (by kernel_rfl) rfl #[.int .i64 t101,.slice Ao11 t103.length co11] rfl (by (try simp only [mT,mC,mN]);first|done|rfl|(simp only [lD,lT];rfl)) ?_;(with_reducible refine (impl_MirrorTerm.calls kj6 t101 _ _ t103 t119 false _ ?side1 ?side2 A26.out).mono ?_);(case side1=>refine (rR (e:=33) (base:=w.heap.size) (ok:=fun k_=>(True∧some k_≠(.slice Ao142 t114.length co142:Value).ownBlock)) (n:=t103.length) (c:=co11) ?_).2.2;exact (by (with_reducible repeat (first|apply rA|apply rN|apply rD));exact (rM (rF (p:=⟨gb118,1,none⟩) (rF (p:=⟨gb118,0,none⟩) (Kd.R_types HO_108001.out BK118.out (by decide)) (fun _ hk=>hk.2) (.int .i64 t113)) (fun _ hk=>hk.2) (.slice Ao142 t114.length co142)) (fun _ h_=>h_.1))));(case side2=>exact (rR HO_108001.out).2.1);rintro e w144 ⟨v121,rfl,ho0,hb⟩;refine ⟨_,rfl,?_⟩;have n0_:=mA (Kd.R_elder' (by (with_reducible repeat (first|apply rA|apply rN|apply rD));exact (rM (rF (p:=⟨gb118,1,none⟩) (rF (p:=⟨gb118,0,none⟩) (Kd.R_types HO_108001.out BK118.out (by decide)) (fun _ hk=>hk.2) (.int .i64 t113)) (fun _ hk=>hk.2) (.slice Ao142 t114.length co142)) (fun _ h_=>h_.1))) (Kd.R_base ho0) hb);have n1_:=mA (Kd.R_elder' (by (with_reducible repeat (first|apply rA|apply rN|apply rD));exact (rM (rF (p:=⟨gb118,1,none⟩) (rF (p:=⟨gb118,0,none⟩) (Kd.R_types HO116.out BK118.out (by decide)) (fun _ hk=>hk.2) (.int .i64 t113)) (fun _ hk=>hk.2) (.slice Ao142 t114.length co142)) (fun _ h_=>h_.1))) (Kd.R_base ho0) hb);have n2_:=mA (Kd.R_lower (Kd.R_new' (Kd.R_new' ho0 (rL (by (with_reducible repeat (first|apply rA|apply rN|apply rD));exact (rM (rF (p:=⟨gb118,1,none⟩) (rF (p:=⟨gb118,0,none⟩) (Kd.R_types HO_108001.out BK118.out (by decide)) (fun _ hk=>hk.2) (.int .i64 t113)) (fun _ hk=>hk.2) (.slice Ao142 t114.length co142)) (fun _ h_=>h_.1))))) (rL (by (with_reducible repeat (first|apply rA|apply rN|apply rD));exact (rM (rF (p:=⟨gb118,1,none⟩) (rF (p:=⟨gb118,0,none⟩) (Kd.R_types HO116.out BK118.out (by decide)) (fun _ hk=>hk.2) (.int .i64 t113)) (fun _ hk=>hk.2) (.slice Ao142 t114.length co142)) (fun _ h_=>h_.1))))) (bZ (by repeat (first|(with_reducible first|exact HB.out|apply bA|apply bN|apply bD|refine bS ?_ GE107.out|refine bS ?_ GE118.out)|exact HB.out))));have n3_:=mA (blk_below (g:=gb107) (o:=.cells #[.int .i64 t102,.slice Ao11 t103.length co11] 36 (0,0)) (by (with_reducible repeat (first|refine kN ?_ _|refine kD ?_|refine kA ?_ _));refine blk_far ?_ NB107_118.out _;(with_reducible repeat (first|refine kN ?_ _|refine kD ?_|refine kA ?_ _));refine blk_far ?_ NB107_118.out _;(with_reducible repeat (first|refine kN ?_ _|refine kD ?_|refine kA ?_ _));exact BK107.out) hb);have n4_:=mA (blk_below (g:=gb118) (o:=.cells #[.int .i64 t113,.slice Ao142 t114.length co142] 36 (0,0)) (by (with_reducible repeat (first|refine kN ?_ _|refine kD ?_|refine kA ?_ _));refine blk_put (cs:=#[.int .i64 t113,.slice none 0 0]) ?_ 1 _ rfl;(with_reducible repeat (first|refine kN ?_ _|refine kD ?_|refine kA ?_ _));refine blk_put (cs:=#[.int .i64 0,.slice none 0 0]) ?_ 0 _ rfl;(with_reducible repeat (first|refine kN ?_ _|refine kD ?_|refine kA ?_ _));exact BK118.out) hb);have n5_:=mA (bT (by repeat (first|(with_reducible first|exact HB.out|apply bA|apply bN|apply bD|refine bS ?_ GE107.out|refine bS ?_ GE118.out)|exact HB.out)) hb);clear HO_108001 HO116 BK107 BK118 HB;have HO_108001:=n0_;have HO116:=n1_;have HO122:=n2_;have BK107:=n3_;have BK118:=n4_;have HB:=n5_;clear n0_ n1_ n2_ n3_ n4_ n5_;(try clear hb);(try clear hb2);(try clear hk);(try clear hi);(try clear ho0);have hcz145_0:w144.cell? ⟨gb107,0,none⟩=some (.int .i64 t102):=(kC BK107.out 0).trans rfl;have hcz145_1:w144.cell? ⟨gb107,1,none⟩=some (.slice Ao11 t103.length co11):=(kC BK107.out 1).trans rfl;have hfz145_0:=kF BK107.out 0;have hfz145_1:=kF BK107.out 1;obtain ⟨Ao146,co146,eo146⟩:=Kd.R_slice HO122.out;subst eo146)|((with_reducible refine gate_dst (N:=11) rfl ?_);refine box_event ?hg (N:=11) ?hd (cs:=#[.int .i64 0,.slice none 0 0]) (t:=36) ?hr ?_;(case hd=>rfl);(case hg=>rfl);(case hr=>first|(go_simp;done)|(go_simp;rfl));intro gb123 hg w147 hbox hb;have n0_:=mA (rB (by (with_reducible repeat (first|apply rA|apply rN|apply rD));exact HO_108001.out) hb);have n1_:=mA (rB (by (with_reducible repeat (first|apply rA|apply rN|apply rD));exact HO116.out) hb);have n2_:=mA (rB (by (with_reducible repeat (first|apply rA|apply rN|apply rD));exact HO122.out) hb);have n3_:=mA (blk_below (g:=gb107) (o:=.cells #[.int .i64 t102,.slice Ao11 t103.length co11] 36 (0,0)) (by (with_reducible repeat (first|refine kN ?_ _|refine kD ?_|refine kA ?_ _));exact BK107.out) hb);have n4_:=mA (blk_below (g:=gb118) (o:=.cells #[.int .i64 t113,.slice Ao142 t114.length co142] 36 (0,0)) (by (with_reducible repeat (first|refine kN ?_ _|refine kD ?_|refine kA ?_ _));exact BK118.out) hb);have n5_:=mA (bT (by repeat (first|(with_reducible first|exact HB.out|apply bA|apply bN|apply bD|refine bS ?_ GE107.out|refine bS ?_ GE118.out)|exact HB.out)) hb);have n6_:=mA (hbox);have n7_:=mA ((by rw [hg];exact (bZ (by repeat (first|(with_reducible first|exact HB.out|apply bA|apply bN|apply bD|refine bS ?_ GE107.out|refine bS ?_ GE118.out)|exact HB.out))):w.heap.size≤gb123));have n8_:=mA ((by rw [hg];exact (bZ (by repeat (first|(with_reducible first|exact HB.out|apply bA|apply bN|apply bD|refine bS ?_ GE107.out|refine bS ?_ GE118.out)|exact HB.out))):w.heap.size≤gb123));have n9_:=mA ((by rw [hg];exact Nat.ne_of_lt (blk_lt (g:=gb107) (o:=.cells #[.int .i64 t102,.slice Ao11 t103.length co11] 36 (0,0)) (by (with_reducible repeat (first|refine kN ?_ _|refine kD ?_|refine kA ?_ _));exact BK107.out)):gb107≠gb123));have n10_:=mA ((by rw [hg];exact Nat.ne_of_gt (blk_lt (g:=gb107) (o:=.cells #[.int .i64 t102,.slice Ao11 t103.length co11] 36 (0,0)) (by (with_reducible repeat (first|refine kN ?_ _|refine kD ?_|refine kA ?_ _));exact BK107.out)):gb123≠gb107));have n11_:=mA ((by rw [hg];exact Nat.ne_of_lt (blk_lt (g:=gb118) (o:=.cells #[.int .i64 t113,.slice Ao142 t114.length co142] 36 (0,0)) (by (with_reducible repeat (first|refine kN ?_ _|refine kD ?_|refine kA ?_ _));exact BK118.out)):gb118≠gb123));have n12_:=mA ((by rw [hg];exact Nat.ne_of_gt (blk_lt (g:=gb118) (o:=.cells #[.int .i64 t113,.slice Ao142 t114.length co142] 36 (0,0)) (by (with_reducible repeat (first|refine kN ?_ _|refine kD ?_|refine kA ?_ _));exact BK118.out)):gb123≠gb118));clear HO_108001 HO116 HO122 BK107 BK118 HB;have HO_108001:=n0_;have HO116:=n1_;have HO122:=n2_;have BK107:=n3_;have BK118:=n4_;have HB:=n5_;have BK123:=n6_;have GW123:=n7_;have GE123:=n8_;have NB107_123:=n9_;have NB123_107:=n10_;have NB118_123:=n11_;have NB123_118:=n12_;clear n0_ n1_ n2_ n3_ n4_ n5_ n6_ n7_ n8_ n9_ n10_ n11_ n12_ hb hbox hg;have hnb148:=NB123_107.out;have hnc148:=NB107_123.out;have hnb149:=NB123_118.out;have hnc149:=NB118_123.out;have hcz150_0:w147.cell? ⟨gb123,0,none⟩=some (.int .i64 0):=(kC BK123.out 0).trans rfl;have hcz150_1:w147.cell? ⟨gb123,1,none⟩=some (.slice none 0 0):=(kC BK123.out 1).trans rfl;have hfz150_0:=kF BK123.out 0;have hfz150_1:=kF BK123.out 1))
        have n0_:Aside0 (Kd.R k33 33 ((w147.setCell ⟨gb123,0,none⟩ (.int .i64 t102)).setCell ⟨gb123,1,none⟩ (.slice Ao146 t119.length co146)) w.heap.size (fun k_=>some k_≠(.slice Ao142 t114.length co142:Value).ownBlock∧some k_≠(.slice Ao146 t119.length co146:Value).ownBlock) (.slice Ao11 t103.length co11) t103):=⟨by (with_reducible repeat (first|apply rA|apply rN|apply rD));exact rM (rF (p:=⟨gb123,1,none⟩) (rF (p:=⟨gb123,0,none⟩) (Kd.R_types HO_108001.out BK123.out (by decide)) (fun _ hk=>hk.2) (.int .i64 t102)) (fun _ hk=>hk.2) (.slice Ao146 t119.length co146)) (fun _ hk=>⟨hk.1.1.2,hk.1.2⟩)⟩
        have n1_:Aside0 (Kd.R k33 33 ((w147.setCell ⟨gb123,0,none⟩ (.int .i64 t102)).setCell ⟨gb123,1,none⟩ (.slice Ao146 t119.length co146)) w.heap.size (fun k_=>some k_≠(.slice Ao11 t103.length co11:Value).ownBlock∧some k_≠(.slice Ao146 t119.length co146:Value).ownBlock) (.slice Ao142 t114.length co142) t114):=⟨by (with_reducible repeat (first|apply rA|apply rN|apply rD));exact rM (rF (p:=⟨gb123,1,none⟩) (rF (p:=⟨gb123,0,none⟩) (Kd.R_types HO116.out BK123.out (by decide)) (fun _ hk=>hk.2) (.int .i64 t102)) (fun _ hk=>hk.2) (.slice Ao146 t119.length co146)) (fun _ hk=>⟨hk.1.1.2,hk.1.2⟩)⟩
        have n2_:Aside0 (Kd.R k33 33 ((w147.setCell ⟨gb123,0,none⟩ (.int .i64 t102)).setCell ⟨gb123,1,none⟩ (.slice Ao146 t119.length co146)) w.heap.size (fun k_=>some k_≠(.slice Ao11 t103.length co11:Value).ownBlock∧some k_≠(.slice Ao142 t114.length co142:Value).ownBlock) (.slice Ao146 t119.length co146) t119):=⟨by (with_reducible repeat (first|apply rA|apply rN|apply rD));exact rM (rF (p:=⟨gb123,1,none⟩) (rF (p:=⟨gb123,0,none⟩) (Kd.R_types HO122.out BK123.out (by decide)) (fun _ hk=>hk.2) (.int .i64 t102)) (fun _ hk=>hk.2) (.slice Ao146 t119.length co146)) (fun _ hk=>⟨hk.1.1.2,hk.1.2⟩)⟩
        have n3_:Aside0 (((w147.setCell ⟨gb123,0,none⟩ (.int .i64 t102)).setCell ⟨gb123,1,none⟩ (.slice Ao146 t119.length co146)).heap[gb107]?=some (.cells #[.int .i64 t102,.slice Ao11 t103.length co11] 36 (0,0))):=⟨by (with_reducible repeat (first|refine kN ?_ _|refine kD ?_|refine kA ?_ _));refine blk_far ?_ NB107_123.out _;(with_reducible repeat (first|refine kN ?_ _|refine kD ?_|refine kA ?_ _));refine blk_far ?_ NB107_123.out _;(with_reducible repeat (first|refine kN ?_ _|refine kD ?_|refine kA ?_ _));exact BK107.out⟩
        have n4_:Aside0 (((w147.setCell ⟨gb123,0,none⟩ (.int .i64 t102)).setCell ⟨gb123,1,none⟩ (.slice Ao146 t119.length co146)).heap[gb118]?=some (.cells #[.int .i64 t113,.slice Ao142 t114.length co142] 36 (0,0))):=⟨by (with_reducible repeat (first|refine kN ?_ _|refine kD ?_|refine kA ?_ _));refine blk_far ?_ NB118_123.out _;(with_reducible repeat (first|refine kN ?_ _|refine kD ?_|refine kA ?_ _));refine blk_far ?_ NB118_123.out _;(with_reducible repeat (first|refine kN ?_ _|refine kD ?_|refine kA ?_ _));exact BK118.out⟩
        have n5_:Aside0 (((w147.setCell ⟨gb123,0,none⟩ (.int .i64 t102)).setCell ⟨gb123,1,none⟩ (.slice Ao146 t119.length co146)).heap[gb123]?=some (.cells #[.int .i64 t102,.slice Ao146 t119.length co146] 36 (0,0))):=⟨by (with_reducible repeat (first|refine kN ?_ _|refine kD ?_|refine kA ?_ _));refine blk_put (cs:=#[.int .i64 t102,.slice none 0 0]) ?_ 1 _ rfl;(with_reducible repeat (first|refine kN ?_ _|refine kD ?_|refine kA ?_ _));refine blk_put (cs:=#[.int .i64 0,.slice none 0 0]) ?_ 0 _ rfl;(with_reducible repeat (first|refine kN ?_ _|refine kD ?_|refine kA ?_ _));exact BK123.out⟩
        have n6_:Aside0 (Below w.heap.size w ((w147.setCell ⟨gb123,0,none⟩ (.int .i64 t102)).setCell ⟨gb123,1,none⟩ (.slice Ao146 t119.length co146))):=⟨by repeat (first|(with_reducible first|exact HB.out|apply bA|apply bN|apply bD|refine bS ?_ GE107.out|refine bS ?_ GE118.out|refine bS ?_ GE123.out)|exact HB.out)⟩
        (try clear HO_108001)
        (try clear HO116)
        (try clear HO122)
        (try clear BK107)
        (try clear BK118)
        (try clear BK123)
        (try clear HB)
        generalize ((w147.setCell ⟨gb123,0,none⟩ (.int .i64 t102)).setCell ⟨gb123,1,none⟩ (.slice Ao146 t119.length co146))=w151 at n0_ n1_ n2_ n3_ n4_ n5_ n6_ ⊢
        have HO_108001:=n0_
        have HO116:=n1_
        have HO122:=n2_
        have BK107:=n3_
        have BK118:=n4_
        have BK123:=n5_
        have HB:=n6_
        clear n0_ n1_ n2_ n3_ n4_ n5_ n6_
        have n0_:=mA (rD HO_108001.out)
        have n1_:=mA (rD HO116.out)
        have n2_:=mA (rD HO122.out)
        have n3_:=mA (kD BK107.out)
        have n4_:=mA (kD BK118.out)
        have n5_:=mA (kD BK123.out)
        have n6_:=mA (bD HB.out)
        clear HO_108001
        clear HO116
        clear HO122
        clear BK107
        clear BK118
        clear BK123
        clear HB
        have HO_108001:=n0_
        have HO116:=n1_
        have HO122:=n2_
        have BK107:=n3_
        have BK118:=n4_
        have BK123:=n5_
        have HB:=n6_
        clear n0_ n1_ n2_ n3_ n4_ n5_ n6_
        refine start_ (n:=34) (S:=fun w'=>True) (ds:=[]) #[O,O,O,O,O,O,O,O,O,O,O,O,O,O,O,O,O,O,O,O,O,O,O,O,O,O,O,O,O,O,O,O,O,O] (by kernel_rfl) rfl rfl trivial (fun hHeld=>?_);refine with_tabW laws_FnMaySay.tab12 laws_FnMaySay.bits12 (fun HT_ HW_=>?_)
        generalize w151.drew=w152 at HO_108001 HO116 HO122 BK107 BK118 BK123 HB hHeld ⊢
        refine pure_ (i:=0) (N:=some 63) (v:=?_) (a':=?_) #[I,O,O,O,O,O,O,O,O,O,O,O,O,O,O,O,O,O,O,O,O,O,O,O,O,O,O,O,O,O,O,O,O,O] rfl rfl (any_of HT_.out (by kernel_rfl)) (fun _ _ _ h=>h) (Or.inl ⟨by rfl,?_⟩) ?_ ?_
        rotate_left
        ·intro w'
         go_simp
         with_reducible rfl
        rotate_left
        ·simp only [Act.put,sA,sZ,sS,i64_w,i32_w]
         rfl
        refine pure_ (i:=1) (N:=some 64) (v:=?_) (a':=?_) #[I,I,O,O,O,O,O,O,O,O,O,O,O,O,O,O,O,O,O,O,O,O,O,O,O,O,O,O,O,O,O,O,O,O] rfl rfl (any_of HT_.out (by kernel_rfl)) (fun _ _ _ h=>h) (Or.inl ⟨by rfl,?_⟩) ?_ ?_
        rotate_left
        ·intro w'
         go_simp
         with_reducible rfl
        rotate_left
        ·simp only [Act.put,sA,sZ,sS,i64_w,i32_w]
         rfl
        refine pure_ (i:=2) (N:=some 65) (v:=?_) (a':=?_) #[I,I,I,O,O,O,O,O,O,O,O,O,O,O,O,O,O,O,O,O,O,O,O,O,O,O,O,O,O,O,O,O,O,O] rfl rfl (any_of HT_.out (by kernel_rfl)) (fun _ _ _ h=>h) (Or.inl ⟨by rfl,?_⟩) ?_ ?_
        rotate_left
        ·intro w'
         go_simp
         with_reducible rfl
        rotate_left
        ·simp only [Act.put,sA,sZ,sS,i64_w,i32_w]
         rfl
        refine pure_ (i:=3) (N:=some 66) (v:=undef) (a':=?_) #[I,I,I,I,O,O,O,O,O,O,O,O,O,O,O,O,O,O,O,O,O,O,O,O,O,O,O,O,O,O,O,O,O,O] rfl rfl (any_of HT_.out (by kernel_rfl)) (fun _ _ _ h=>h) (Or.inr ⟨by rfl,rfl⟩) ?_ ?_
        rotate_left
        ·simp only [Act.put,sA,sZ,sS,i64_w,i32_w]
         rfl
        refine pure_ (i:=4) (N:=some 67) (v:=undef) (a':=?_) #[I,I,I,I,I,O,O,O,O,O,O,O,O,O,O,O,O,O,O,O,O,O,O,O,O,O,O,O,O,O,O,O,O,O] rfl rfl (any_of HT_.out (by kernel_rfl)) (fun _ _ _ h=>h) (Or.inr ⟨by rfl,rfl⟩) ?_ ?_
        rotate_left
        ·simp only [Act.put,sA,sZ,sS,i64_w,i32_w]
         rfl
        refine pure_ (i:=5) (N:=some 68) (v:=undef) (a':=?_) #[I,I,I,I,I,I,O,O,O,O,O,O,O,O,O,O,O,O,O,O,O,O,O,O,O,O,O,O,O,O,O,O,O,O] rfl rfl (any_of HT_.out (by kernel_rfl)) (fun _ _ _ h=>h) (Or.inr ⟨by rfl,rfl⟩) ?_ ?_
        rotate_left
        ·simp only [Act.put,sA,sZ,sS,i64_w,i32_w]
         rfl
        refine pure_ (i:=6) (N:=some 69) (v:=undef) (a':=?_) #[I,I,I,I,I,I,I,O,O,O,O,O,O,O,O,O,O,O,O,O,O,O,O,O,O,O,O,O,O,O,O,O,O,O] rfl rfl (any_of HT_.out (by kernel_rfl)) (fun _ _ _ h=>h) (Or.inr ⟨by rfl,rfl⟩) ?_ ?_
        rotate_left
        ·simp only [Act.put,sA,sZ,sS,i64_w,i32_w]
         rfl
        refine pure_ (i:=7) (N:=some 70) (v:=undef) (a':=?_) #[I,I,I,I,I,I,I,I,O,O,O,O,O,O,O,O,O,O,O,O,O,O,O,O,O,O,O,O,O,O,O,O,O,O] rfl rfl (any_of HT_.out (by kernel_rfl)) (fun _ _ _ h=>h) (Or.inr ⟨by rfl,rfl⟩) ?_ ?_
        rotate_left
        ·simp only [Act.put,sA,sZ,sS,i64_w,i32_w]
         rfl
        refine pure_ (i:=8) (N:=some 71) (v:=undef) (a':=?_) #[I,I,I,I,I,I,I,I,I,O,O,O,O,O,O,O,O,O,O,O,O,O,O,O,O,O,O,O,O,O,O,O,O,O] rfl rfl (any_of HT_.out (by kernel_rfl)) (fun _ _ _ h=>h) (Or.inr ⟨by rfl,rfl⟩) ?_ ?_
        rotate_left
        ·simp only [Act.put,sA,sZ,sS,i64_w,i32_w]
         rfl
        refine pure_ (i:=9) (N:=some 72) (v:=?_) (a':=?_) #[I,I,I,I,I,I,I,I,I,I,O,O,O,O,O,O,O,O,O,O,O,O,O,O,O,O,O,O,O,O,O,O,O,O] rfl rfl (any_of HT_.out (by kernel_rfl)) (fun _ _ _ h=>h) (Or.inl ⟨by rfl,?_⟩) ?_ ?_
        rotate_left
        ·intro w'
         go_simp
         with_reducible rfl
        rotate_left
        ·simp only [Act.put,sA,sZ,sS,i64_w,i32_w]
         rfl
        refine pure_ (i:=10) (N:=some 73) (v:=?_) (a':=?_) #[I,I,I,I,I,I,I,I,I,I,I,O,O,O,O,O,O,O,O,O,O,O,O,O,O,O,O,O,O,O,O,O,O,O] rfl rfl (any_of HT_.out (by kernel_rfl)) (fun _ _ _ h=>h) (Or.inl ⟨by rfl,?_⟩) ?_ ?_
        rotate_left
        ·intro w'
         go_simp
         with_reducible rfl
        rotate_left
        ·simp only [Act.put,sA,sZ,sS,i64_w,i32_w]
         rfl
        refine pure_ (i:=11) (N:=some 74) (v:=?_) (a':=?_) #[I,I,I,I,I,I,I,I,I,I,I,I,O,O,O,O,O,O,O,O,O,O,O,O,O,O,O,O,O,O,O,O,O,O] rfl rfl (any_of HT_.out (by kernel_rfl)) (fun _ _ _ h=>h) (Or.inl ⟨by rfl,?_⟩) ?_ ?_
        rotate_left
        ·intro w'
         go_simp
         with_reducible rfl
        rotate_left
        ·simp only [Act.put,sA,sZ,sS,i64_w,i32_w]
         rfl
        refine pure_ (i:=12) (N:=some 75) (v:=?_) (a':=?_) #[I,I,I,I,I,I,I,I,I,I,I,I,I,O,O,O,O,O,O,O,O,O,O,O,O,O,O,O,O,O,O,O,O,O] rfl rfl (any_of HT_.out (by kernel_rfl)) (fun _ _ _ h=>h) (Or.inl ⟨by rfl,?_⟩) ?_ ?_
        rotate_left
        ·intro w'
         go_simp
         with_reducible rfl
        rotate_left
        ·simp only [Act.put,sA,sZ,sS,i64_w,i32_w]
         rfl
        refine pure_ (i:=13) (N:=some 76) (v:=?_) (a':=?_) #[I,I,I,I,I,I,I,I,I,I,I,I,I,I,O,O,O,O,O,O,O,O,O,O,O,O,O,O,O,O,O,O,O,O] rfl rfl (any_of HT_.out (by kernel_rfl)) (fun _ _ _ h=>h) (Or.inl ⟨by rfl,?_⟩) ?_ ?_
        rotate_left
        ·intro w'
         go_simp
         with_reducible rfl
        rotate_left
        ·simp only [Act.put,sA,sZ,sS,i64_w,i32_w]
         rfl
        refine pure_ (i:=14) (N:=some 77) (v:=undef) (a':=?_) #[I,I,I,I,I,I,I,I,I,I,I,I,I,I,I,O,O,O,O,O,O,O,O,O,O,O,O,O,O,O,O,O,O,O] rfl rfl (any_of HT_.out (by kernel_rfl)) (fun _ _ _ h=>h) (Or.inr ⟨by rfl,rfl⟩) ?_ ?_
        rotate_left
        ·simp only [Act.put,sA,sZ,sS,i64_w,i32_w]
         rfl
        refine pure_ (i:=15) (N:=some 78) (v:=undef) (a':=?_) #[I,I,I,I,I,I,I,I,I,I,I,I,I,I,I,I,O,O,O,O,O,O,O,O,O,O,O,O,O,O,O,O,O,O] rfl rfl (any_of HT_.out (by kernel_rfl)) (fun _ _ _ h=>h) (Or.inr ⟨by rfl,rfl⟩) ?_ ?_
        rotate_left
        ·simp only [Act.put,sA,sZ,sS,i64_w,i32_w]
         rfl
        refine pure_ (i:=16) (N:=some 79) (v:=undef) (a':=?_) #[I,I,I,I,I,I,I,I,I,I,I,I,I,I,I,I,I,O,O,O,O,O,O,O,O,O,O,O,O,O,O,O,O,O] rfl rfl (any_of HT_.out (by kernel_rfl)) (fun _ _ _ h=>h) (Or.inr ⟨by rfl,rfl⟩) ?_ ?_
        rotate_left
        ·simp only [Act.put,sA,sZ,sS,i64_w,i32_w]
         rfl
        refine pure_ (i:=17) (N:=some 80) (v:=undef) (a':=?_) #[I,I,I,I,I,I,I,I,I,I,I,I,I,I,I,I,I,I,O,O,O,O,O,O,O,O,O,O,O,O,O,O,O,O] rfl rfl (any_of HT_.out (by kernel_rfl)) (fun _ _ _ h=>h) (Or.inr ⟨by rfl,rfl⟩) ?_ ?_
        rotate_left
        ·simp only [Act.put,sA,sZ,sS,i64_w,i32_w]
         rfl
        refine pure_ (i:=18) (N:=some 81) (v:=?_) (a':=?_) #[I,I,I,I,I,I,I,I,I,I,I,I,I,I,I,I,I,I,I,O,O,O,O,O,O,O,O,O,O,O,O,O,O,O] rfl rfl (any_of HT_.out (by kernel_rfl)) (fun _ _ _ h=>h) (Or.inl ⟨by rfl,?_⟩) ?_ ?_
        rotate_left
        ·intro w'
         go_simp
         with_reducible rfl
        rotate_left
        ·simp only [Act.put,sA,sZ,sS,i64_w,i32_w]
         rfl
        refine pure_ (i:=19) (N:=some 82) (v:=?_) (a':=?_) #[I,I,I,I,I,I,I,I,I,I,I,I,I,I,I,I,I,I,I,I,O,O,O,O,O,O,O,O,O,O,O,O,O,O] rfl rfl (any_of HT_.out (by kernel_rfl)) (fun _ _ _ h=>h) (Or.inl ⟨by rfl,?_⟩) ?_ ?_
        rotate_left
        ·intro w'
         go_simp
         with_reducible rfl
        rotate_left
        ·simp only [Act.put,sA,sZ,sS,i64_w,i32_w]
         rfl
        refine pure_ (i:=20) (N:=some 83) (v:=undef) (a':=?_) #[I,I,I,I,I,I,I,I,I,I,I,I,I,I,I,I,I,I,I,I,I,O,O,O,O,O,O,O,O,O,O,O,O,O] rfl rfl (any_of HT_.out (by kernel_rfl)) (fun _ _ _ h=>h) (Or.inr ⟨by rfl,rfl⟩) ?_ ?_
        rotate_left
        ·simp only [Act.put,sA,sZ,sS,i64_w,i32_w]
         rfl
        refine pure_ (i:=21) (N:=some 84) (v:=undef) (a':=?_) #[I,I,I,I,I,I,I,I,I,I,I,I,I,I,I,I,I,I,I,I,I,I,O,O,O,O,O,O,O,O,O,O,O,O] rfl rfl (any_of HT_.out (by kernel_rfl)) (fun _ _ _ h=>h) (Or.inr ⟨by rfl,rfl⟩) ?_ ?_
        rotate_left
        ·simp only [Act.put,sA,sZ,sS,i64_w,i32_w]
         rfl
        refine pure_ (i:=22) (N:=some 85) (v:=undef) (a':=?_) #[I,I,I,I,I,I,I,I,I,I,I,I,I,I,I,I,I,I,I,I,I,I,I,O,O,O,O,O,O,O,O,O,O,O] rfl rfl (any_of HT_.out (by kernel_rfl)) (fun _ _ _ h=>h) (Or.inr ⟨by rfl,rfl⟩) ?_ ?_
        rotate_left
        ·simp only [Act.put,sA,sZ,sS,i64_w,i32_w]
         rfl
        refine pure_ (i:=23) (N:=some 86) (v:=undef) (a':=?_) #[I,I,I,I,I,I,I,I,I,I,I,I,I,I,I,I,I,I,I,I,I,I,I,I,O,O,O,O,O,O,O,O,O,O] rfl rfl (any_of HT_.out (by kernel_rfl)) (fun _ _ _ h=>h) (Or.inr ⟨by rfl,rfl⟩) ?_ ?_
        rotate_left
        ·simp only [Act.put,sA,sZ,sS,i64_w,i32_w]
         rfl
        refine pure_ (i:=24) (N:=some 87) (v:=undef) (a':=?_) #[I,I,I,I,I,I,I,I,I,I,I,I,I,I,I,I,I,I,I,I,I,I,I,I,I,O,O,O,O,O,O,O,O,O] rfl rfl (any_of HT_.out (by kernel_rfl)) (fun _ _ _ h=>h) (Or.inr ⟨by rfl,rfl⟩) ?_ ?_
        rotate_left
        ·simp only [Act.put,sA,sZ,sS,i64_w,i32_w]
         rfl
        refine pure_ (i:=25) (N:=some 88) (v:=undef) (a':=?_) #[I,I,I,I,I,I,I,I,I,I,I,I,I,I,I,I,I,I,I,I,I,I,I,I,I,I,O,O,O,O,O,O,O,O] rfl rfl (any_of HT_.out (by kernel_rfl)) (fun _ _ _ h=>h) (Or.inr ⟨by rfl,rfl⟩) ?_ ?_
        rotate_left
        ·simp only [Act.put,sA,sZ,sS,i64_w,i32_w]
         rfl
        refine pure_ (i:=26) (N:=some 89) (v:=undef) (a':=?_) #[I,I,I,I,I,I,I,I,I,I,I,I,I,I,I,I,I,I,I,I,I,I,I,I,I,I,I,O,O,O,O,O,O,O] rfl rfl (any_of HT_.out (by kernel_rfl)) (fun _ _ _ h=>h) (Or.inr ⟨by rfl,rfl⟩) ?_ ?_
        rotate_left
        ·simp only [Act.put,sA,sZ,sS,i64_w,i32_w]
         rfl
        refine pure_ (i:=27) (N:=some 90) (v:=undef) (a':=?_) #[I,I,I,I,I,I,I,I,I,I,I,I,I,I,I,I,I,I,I,I,I,I,I,I,I,I,I,I,O,O,O,O,O,O] rfl rfl (any_of HT_.out (by kernel_rfl)) (fun _ _ _ h=>h) (Or.inr ⟨by rfl,rfl⟩) ?_ ?_
        rotate_left
        ·simp only [Act.put,sA,sZ,sS,i64_w,i32_w]
         rfl
        refine pure_ (i:=28) (N:=some 91) (v:=?_) (a':=?_) #[I,I,I,I,I,I,I,I,I,I,I,I,I,I,I,I,I,I,I,I,I,I,I,I,I,I,I,I,I,O,O,O,O,O] rfl rfl (any_of HT_.out (by kernel_rfl)) (fun _ _ _ h=>h) (Or.inl ⟨by rfl,?_⟩) ?_ ?_
        rotate_left
        ·intro w'
         go_simp
         with_reducible rfl
        rotate_left
        ·simp only [Act.put,sA,sZ,sS,i64_w,i32_w]
         rfl
        refine pure_ (i:=29) (N:=some 92) (v:=?_) (a':=?_) #[I,I,I,I,I,I,I,I,I,I,I,I,I,I,I,I,I,I,I,I,I,I,I,I,I,I,I,I,I,I,O,O,O,O] rfl rfl (any_of HT_.out (by kernel_rfl)) (fun _ _ _ h=>h) (Or.inl ⟨by rfl,?_⟩) ?_ ?_
        rotate_left
        ·intro w'
         go_simp
         with_reducible rfl
        rotate_left
        ·simp only [Act.put,sA,sZ,sS,i64_w,i32_w]
         rfl
        refine pure_ (i:=30) (N:=some 93) (v:=?_) (a':=?_) #[I,I,I,I,I,I,I,I,I,I,I,I,I,I,I,I,I,I,I,I,I,I,I,I,I,I,I,I,I,I,I,O,O,O] rfl rfl (any_of HT_.out (by kernel_rfl)) (fun _ _ _ h=>h) (Or.inl ⟨by rfl,?_⟩) ?_ ?_
        rotate_left
        ·intro w'
         go_simp
         with_reducible rfl
        rotate_left
        ·simp only [Act.put,sA,sZ,sS,i64_w,i32_w]
         rfl
        refine one_ (i:=31) (N:=some 94) #[I,I,I,I,I,I,I,I,I,I,I,I,I,I,I,I,I,I,I,I,I,I,I,I,I,I,I,I,I,I,I,I,O,O] rfl rfl (one_of HT_.out (by kernel_rfl)) (by decide) (fun K hK=>?_)
        refine goes_ Try.func26 (by kernel_rfl) rfl #[] (by rfl) rfl rfl (by (try simp only [mT,mC,mN]);first|done|rfl|(simp only [lD,lT];rfl)) ?_
        with_reducible refine (laws_alive.calls  t136 _ A136.out).mono ?_
        rintro e w' ⟨rfl,⟨nd,rfl⟩⟩
        refine ⟨_,rfl,?_⟩
        refine hK.out _ _ trivial (fun hHeld=>?_)
        clear hK K
        refine norm_ (a':=?_) ?_ ?_
        rotate_left
        ·show Act.put _ (some 94) _=_
         simp only [Act.put,sA,sZ,sS,i64_w,i32_w]
         rfl
        refine pure_ (i:=32) (N:=some 95) (v:=?_) (a':=?_) #[I,I,I,I,I,I,I,I,I,I,I,I,I,I,I,I,I,I,I,I,I,I,I,I,I,I,I,I,I,I,I,I,I,O] rfl rfl (any_of HT_.out (by kernel_rfl)) (fun _ _ _ h=>h) (Or.inl ⟨by rfl,?_⟩) ?_ ?_
        rotate_left
        ·intro w'
         go_simp
         with_reducible rfl
        rotate_left
        ·simp only [Act.put,sA,sZ,sS,i64_w,i32_w]
         rfl
        refine pure_ (i:=33) (N:=some 2) (v:=?_) (a':=?_) #[I,I,I,I,I,I,I,I,I,I,I,I,I,I,I,I,I,I,I,I,I,I,I,I,I,I,I,I,I,I,I,I,I,I] rfl rfl (any_of HT_.out (by kernel_rfl)) (fun _ _ _ h=>h) (Or.inl ⟨by rfl,?_⟩) ?_ ?_
        rotate_left
        ·intro w'
         go_simp
         with_reducible rfl
        rotate_left
        ·simp only [Act.put,sA,sZ,sS,i64_w,i32_w]
         rfl
        refine done_ (done_of HT_.out (by kernel_rfl)) ?_
        try go_wp2
        go_ret
        exact ⟨by first|rfl|(simp [errW_none,errW_some]<;>rfl)|(simp [*, errW_none,errW_some]<;>rfl),by repeat (first|(with_reducible first|exact HB.out|apply bA|apply bN|apply bD|refine bS ?_ GE107.out|refine bS ?_ GE118.out|refine bS ?_ GE123.out)|exact HB.out)⟩

/-- THE ONE PURE STATEMENT of laws_FnMaySay: yours. -/
def laws_FnMaySay.Pure:Prop:=∀ (l0:List Int),l0.length≤maxLen→l0.length*1≤140737488351232→(∀ x∈l0,(Lit.int .u8 x).wf=true) → ∃ k,laws_FnMaySay.f k l0=some true
theorem laws_FnMaySay.walk (P:laws_FnMaySay.Pure) (a0:Option Addr) (len0 cap0:Nat) (z0:List Int) (w:World) (w0:(a0=none∧len0=0∧cap0=0∧z0=[]) ∨ ∃ x,a0=some x∧len0≤cap0∧cap0≤maxLen∧z0.length=cap0∧(∀ i,i<z0.length→w.cell? (x.add i)=some (.int .u8 (z0.getD i 0))) ∧ ∀ n∈z0,(Lit.int .u8 n).wf=true) (y0:len0*1≤140737488351232) :
  Calls Try.prog 5 #[.slice a0 len0 cap0] w fun e w'=>e = .returned (.bool true)∧Below w.heap.size w w':=by
 obtain ⟨l0,rfl,hr0,hm0,hw0,hc0⟩:=ReadsInt.ofRowC w0
 obtain ⟨k,h⟩:=P l0 hm0 y0 hw0
 refine (laws_FnMaySay.calls k _ _ l0 true w (Kd.C_of_reads (d:=(0:Int)) (h1:=fun _=>rfl) hr0) hc0 ⟨rfl⟩ h).mono ?_
 rintro e w' ⟨rfl,hd⟩
 exact ⟨rfl,hd⟩
end Go.Proofs.Ytpampekijfjlkab.X
