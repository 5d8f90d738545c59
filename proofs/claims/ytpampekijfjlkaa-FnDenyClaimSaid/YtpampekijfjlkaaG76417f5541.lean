/- Joined by a program of this session's: X115. -/
import Derived.Test.YtpampekijfjlkaaGaa62ad0194
import Derived.Test.YtpampekijfjlkaaG540b471955
import Derived.Test.YtpampekijfjlkaaG066d820f08
import Derived.Test.YtpampekijfjlkaaGb453cec127
import Derived.Test.YtpampekijfjlkaaGce74359127

namespace Go.Proofs.Ytpampekijfjlkaa.X
open Go.RowKit Go.Proofs.YtpampekijfjlkaaW.PrintWords Go.Proofs.YtpampekijfjlkaaW.PrintLast Go.Proofs.YtpampekijfjlkaaW.PrintMore
open Go.Proofs.YtpampekijfjlkaaW.PrintWords renaming Aside0.mk → mA, pw_below_drewN → bN, below_drew1 → bD, below_alloc → bA, below_set → bS, blk_alloc → kA, blk_drewN → kN, blk_drew → kD, blk_cell → kC, blk_frozen → kF, below_size → bZ, below_step → bT, Kd.R_alloc → rA, Kd.R_drewN → rN, Kd.R_drew → rD, Kd.R_mono → rM, Kd.R_reads' → rR, Kd.R_far → rF, Kd.R_lt → rL, Kd.R_below → rB, Kd.C_alloc → cA, Kd.C_drewN → cN, Kd.C_drew → cD
open List renaming setIfInBounds_toArray → sA, set_cons_zero → sZ, set_cons_succ → sS, length_take → lT, length_drop → lD, map_toArray → mT, map_cons → mC, map_nil → mN
open Bool renaming true → I, false → O
attribute [local go_sem] max2_int min2_int max_two min_two max_three min_three max_four min_four   -- for this text's walks alone
set_option linter.unusedVariables false
set_option linter.unusedSimpArgs false
/-! ### laws_FnDenyClaim: function 17 -/
def laws_FnDenyClaim.j0:Nat→Int→Bool→Bool→Int→List (S52)→Int→List (S52)→Option (Bool)
 | 0,_,_,_,_,_,_,_=>none
 | k+1,x3,x6,x39,x107000,x107001,x113000,x113001=>if x39=true then (some false) else (if x6=true then ((impl_DenyClaim.f k x3 x113000 x113001).bind fun bt121=>((impl_ClaimOk.f k x3 x113000 x113001).bind fun t127=>(if t127=true then (if x113000=x107000 then (if (x113001.length:Int)=(wrap64 ((x107001.length:Int)+1)) then (if bt121.2.2=true then ((impl_ClaimTable.f k x3 bt121.1 bt121.2.1).bind fun t128=>((impl_ClaimTable.f k x3 x107000 x107001).bind fun t129=>(some (t128==t129)))) else (some true)) else (some false)) else (some false)) else (some false)))) else (if x113000=0 then (if (x113001.length:Int)=0 then ((laws_alive.f).bind fun t120=>(some t120)) else (some false)) else (some false)))
def laws_FnDenyClaim.f (k:Nat) (l0:List Int):Option (Bool):=if (l0.length:Int)>1048576 then (some true) else ((spec_DrawDenyClaim.f k l0).bind fun bt101=>((impl_DenyClaim.f k bt101.1 bt101.2.1 bt101.2.2).bind fun bt107=>((spec_DenyClaim.f k bt101.1 bt101.2.1 bt101.2.2).bind fun bt113=>((laws_sameClaim.f k bt107.1 bt107.2.1 bt113.1 bt113.2.1).bind fun t119=>(if t119=true then (laws_FnDenyClaim.j0 k bt101.1 bt107.2.2 (bt107.2.2 != bt113.2.2) bt101.2.1 bt101.2.2 bt107.1 bt107.2.1) else (laws_FnDenyClaim.j0 k bt101.1 bt107.2.2 true bt101.2.1 bt101.2.2 bt107.1 bt107.2.1))))))
theorem laws_FnDenyClaim.mono_l : ∀ k,(∀ y0 y1 y2 y3 y4 y5 y6,LeO (laws_FnDenyClaim.j0 k y0 y1 y2 y3 y4 y5 y6) (laws_FnDenyClaim.j0 (k+1) y0 y1 y2 y3 y4 y5 y6))
 | 0=>fun _ _ _ _ _ _ _ r h=>by simp [laws_FnDenyClaim.j0] at h
 | k+1=>by
  have ih0:=laws_FnDenyClaim.mono_l k
  ·intro y0 y1 y2 y3 y4 y5 y6
   unfold laws_FnDenyClaim.j0
   repeat' first
   | (with_reducible exact ih0 _ _ _ _ _ _ _)
   | (with_reducible exact impl_ClaimOk.mono _ _ _ _)
   | (with_reducible exact impl_ClaimTable.mono _ _ _ _)
   | (with_reducible exact impl_DenyClaim.mono _ _ _ _)
   | (with_reducible exact laws_sameClaim.mono _ _ _ _ _)
   | (with_reducible exact spec_DenyClaim.mono _ _ _ _)
   | (with_reducible exact spec_DrawDenyClaim.mono _ _)
   | (with_reducible exact LeO.refl _)
   | (with_reducible exact LeO.none _)
   | (with_reducible refine LeO.ite ?_ ?_)
   | (with_reducible refine LeO.bind ?_ (fun _=>?_))
   | exact ih0 _ _ _ _ _ _ _
   | exact impl_ClaimOk.mono _ _ _ _
   | exact impl_ClaimTable.mono _ _ _ _
   | exact impl_DenyClaim.mono _ _ _ _
   | exact laws_sameClaim.mono _ _ _ _ _
   | exact spec_DenyClaim.mono _ _ _ _
   | exact spec_DrawDenyClaim.mono _ _
   | exact LeO.none _
   | refine LeO.ite ?_ ?_
   | refine LeO.bind ?_ (fun _=>?_)
theorem laws_FnDenyClaim.mono : ∀ a0 k,LeO (laws_FnDenyClaim.f k a0) (laws_FnDenyClaim.f (k+1) a0):=by
 intro a0 k
 have ih0:=laws_FnDenyClaim.mono_l k
 unfold laws_FnDenyClaim.f
 repeat' first
   | (with_reducible exact ih0 _ _ _ _ _ _ _)
   | (with_reducible exact impl_ClaimOk.mono _ _ _ _)
   | (with_reducible exact impl_ClaimTable.mono _ _ _ _)
   | (with_reducible exact impl_DenyClaim.mono _ _ _ _)
   | (with_reducible exact laws_sameClaim.mono _ _ _ _ _)
   | (with_reducible exact spec_DenyClaim.mono _ _ _ _)
   | (with_reducible exact spec_DrawDenyClaim.mono _ _)
   | (with_reducible exact LeO.refl _)
   | (with_reducible exact LeO.none _)
   | (with_reducible refine LeO.ite ?_ ?_)
   | (with_reducible refine LeO.bind ?_ (fun _=>?_))
   | exact ih0 _ _ _ _ _ _ _
   | exact impl_ClaimOk.mono _ _ _ _
   | exact impl_ClaimTable.mono _ _ _ _
   | exact impl_DenyClaim.mono _ _ _ _
   | exact laws_sameClaim.mono _ _ _ _ _
   | exact spec_DenyClaim.mono _ _ _ _
   | exact spec_DrawDenyClaim.mono _ _
   | exact LeO.none _
   | refine LeO.ite ?_ ?_
   | refine LeO.bind ?_ (fun _=>?_)
def laws_FnDenyClaim.T11:Bool×List (List Nat×List Nat):=(true,[([],[]),([],[]),([0,1],[0,1]),([2,2],[2]),([3],[3]),([4,3],[3,4]),([3],[3]),([6,3],[3,6]),([5,7,3],[3,5,7]),([3,8],[3,8]),([9,3],[9]),([10],[10]),([11,10],[10,11]),([12,10],[10,12]),([10],[10]),([14,10],[10,14]),([15,10],[10,15]),([16,10],[10,16]),([13,17,10],[10,13,17]),([10,18],[10,18]),([19,10],[19]),([20],[20]),([21,20],[20,21]),([22,20,20],[20,22]),([23],[23]),([23],[23]),([24,25,23,23],[23,24,25]),([23],[23]),([23],[23]),([27,28,26,23],[23,27,28]),([26,29,23],[23,26,29]),([23,30,20],[20,23,30]),([20,31],[20,31]),([32,29,0,1,2,3,4,5,6,7,8,9,10,11,12,13,14,15,16,17,18,19,20,21,22,23,24,25,26,27,28,29,30,31,32],[32])])
def laws_FnDenyClaim.B11:List Nat:=[0,0,3,7,15,31,15,79,255,511,1023,2047,4095,8191,2047,18431,51199,116735,262143,524287,1048575,2097151,4194303,8388607,16777215,16777215,67108863,16777215,16777215,536870911,1073741823,2147483647,4294967295,8589934591]
theorem laws_FnDenyClaim.tab11:rtab .any (opsOf Try.f17 11)=laws_FnDenyClaim.T11:=by kernel_rfl
theorem laws_FnDenyClaim.bits11:waitsOk laws_FnDenyClaim.T11.2 laws_FnDenyClaim.B11=true:=by kernel_rfl
set_option maxHeartbeats 8000000 in
set_option maxRecDepth 100000 in
theorem laws_FnDenyClaim.calls (k:Nat) (A0:Option Addr) (c0:Nat) (l0:List Int) (r:Bool) (w:World) (hr0:Kd.C (Kd.int .u8) w A0 l0.length l0) (hc0:l0.length≤c0) (hr_:Aside0 (r=true)) (h:laws_FnDenyClaim.f k l0=some r) :
  Calls Try.prog 17 #[.slice A0 l0.length c0] w fun e w'=>e = .returned (.bool r)∧Below w.heap.size w w':=by
 have hu50:=Try.underlying50
 have HR0:=mA hr0
 have HC0:=mA hc0
 clear hr0 hc0
 have HB:=mA (Below.refl w.heap.size w)
 have H:(if (l0.length:Int)>1048576 then (some true) else ((spec_DrawDenyClaim.f k l0).bind fun bt101=>((impl_DenyClaim.f k bt101.1 bt101.2.1 bt101.2.2).bind fun bt107=>((spec_DenyClaim.f k bt101.1 bt101.2.1 bt101.2.2).bind fun bt113=>((laws_sameClaim.f k bt107.1 bt107.2.1 bt113.1 bt113.2.1).bind fun t119=>(if t119=true then (laws_FnDenyClaim.j0 k bt101.1 bt107.2.2 (bt107.2.2 != bt113.2.2) bt101.2.1 bt101.2.2 bt107.1 bt107.2.1) else (laws_FnDenyClaim.j0 k bt101.1 bt107.2.2 true bt101.2.1 bt101.2.2 bt107.1 bt107.2.1)))))))=some r:=h
 clear h
 by_cases c2:(l0.length:Int)>1048576
 ·rw [if_pos c2] at H
  have c2b0:decide (1048576<(l0.length:Int))=true:=decide_eq_true c2
  have c2b1:decide (1048576<l0.length)=true:=decide_eq_true (by omega)
  clear c2
  obtain rfl:=Option.some.inj H
  go_enter Try.func17,Try.ntmps17
  go_wp2
  go_ret
  exact ⟨by first|rfl|(simp [errW_none,errW_some]<;>rfl)|(simp [*, errW_none,errW_some]<;>rfl),by repeat (first|(with_reducible first|exact HB.out|apply bA|apply bN|apply bD)|exact HB.out)⟩
 ·rw [if_neg c2] at H
  have c2b0:decide (1048576<(l0.length:Int))=false:=decide_eq_false c2
  have c2b1:decide (1048576<l0.length)=false:=decide_eq_false (by omega)
  clear c2
  replace H:=Option.bind_eq_some_iff.mp H
  obtain ⟨⟨t101,t102,t103⟩,A30,H⟩:=H
  replace H:((impl_DenyClaim.f k t101 t102 t103).bind fun bt107=>((spec_DenyClaim.f k t101 t102 t103).bind fun bt113=>((laws_sameClaim.f k bt107.1 bt107.2.1 bt113.1 bt113.2.1).bind fun t119=>(if t119=true then (laws_FnDenyClaim.j0 k t101 bt107.2.2 (bt107.2.2 != bt113.2.2) t102 t103 bt107.1 bt107.2.1) else (laws_FnDenyClaim.j0 k t101 bt107.2.2 true t102 t103 bt107.1 bt107.2.1)))))=some r:=H
  have A3:=mA A30
  clear A30
  replace H:=Option.bind_eq_some_iff.mp H
  obtain ⟨⟨t107,t108,t111⟩,A40,H⟩:=H
  replace H:((spec_DenyClaim.f k t101 t102 t103).bind fun bt113=>((laws_sameClaim.f k t107 t108 bt113.1 bt113.2.1).bind fun t119=>(if t119=true then (laws_FnDenyClaim.j0 k t101 t111 (t111 != bt113.2.2) t102 t103 t107 t108) else (laws_FnDenyClaim.j0 k t101 t111 true t102 t103 t107 t108))))=some r:=H
  have A4:=mA A40
  clear A40
  replace H:=Option.bind_eq_some_iff.mp H
  obtain ⟨⟨t113,t114,t117⟩,A50,H⟩:=H
  replace H:((laws_sameClaim.f k t107 t108 t113 t114).bind fun t119=>(if t119=true then (laws_FnDenyClaim.j0 k t101 t111 (t111 != t117) t102 t103 t107 t108) else (laws_FnDenyClaim.j0 k t101 t111 true t102 t103 t107 t108)))=some r:=H
  have A5:=mA A50
  clear A50
  have HC6:=mA H
  clear H
  go_enter Try.func17,Try.ntmps17
  go_upto_region 6 with (first|((with_reducible refine gate_callee (f:=73) rfl ?_);refine goesL_ (some 16) rfl rfl Try.func73 (by kernel_rfl) rfl #[.slice A0 l0.length c0] rfl (by (try simp only [mT,mC,mN]);first|done|rfl|(simp only [lD,lT];rfl)) ?_;(with_reducible refine (spec_DrawDenyClaim.calls k _ _ l0 t101 t102 t103 _ ?side1 ?side2 A3.out).mono ?_);(case side1=>repeat (first|exact HR0.out|(with_reducible refine cA ?_ _)|(with_reducible refine cN ?_ _)|(with_reducible refine cD ?_)));(case side2=>exact HC0.out);rintro e w7 ⟨v104,rfl,ho0,hb⟩;refine ⟨_,rfl,?_⟩;have n0_:=mA (Kd.R_lower ho0 (bZ (by repeat (first|(with_reducible first|exact HB.out|apply bA|apply bN|apply bD)|exact HB.out))));have n1_:=mA (bT (by repeat (first|(with_reducible first|exact HB.out|apply bA|apply bN|apply bD)|exact HB.out)) hb);clear HB;have HO105:=n0_;have HB:=n1_;clear n0_ n1_;(try clear hb);(try clear hb2);(try clear hk);(try clear hi);(try clear ho0))|((with_reducible refine gate_dst (N:=4) rfl ?_);(try (refine gate_guard (by rfl) ?_;dsimp only));refine box_event ?hg (N:=4) ?hd (cs:=#[.int .i64 0,.slice none 0 0]) (t:=50) ?hr ?_;(case hd=>rfl);(case hg=>rfl);(case hr=>first|(go_simp;done)|(go_simp;rfl));intro gb106 hg w8 hbox hb;have n0_:=mA (rB (by (with_reducible repeat (first|apply rA|apply rN|apply rD));exact HO105.out) hb);have n1_:=mA (bT (by repeat (first|(with_reducible first|exact HB.out|apply bA|apply bN|apply bD)|exact HB.out)) hb);have n2_:=mA (hbox);have n3_:=mA ((by rw [hg];exact (bZ (by repeat (first|(with_reducible first|exact HB.out|apply bA|apply bN|apply bD)|exact HB.out))):w.heap.size≤gb106));have n4_:=mA ((by rw [hg];exact (bZ (by repeat (first|(with_reducible first|exact HB.out|apply bA|apply bN|apply bD)|exact HB.out))):w.heap.size≤gb106));clear HO105 HB;have HO105:=n0_;have HB:=n1_;have BK106:=n2_;have GW106:=n3_;have GE106:=n4_;clear n0_ n1_ n2_ n3_ n4_ hb hbox hg;have hcz9_0:w8.cell? ⟨gb106,0,none⟩=some (.int .i64 0):=(kC BK106.out 0).trans rfl;have hcz9_1:w8.cell? ⟨gb106,1,none⟩=some (.slice none 0 0):=(kC BK106.out 1).trans rfl;have hfz9_0:=kF BK106.out 0;have hfz9_1:=kF BK106.out 1;obtain ⟨Ao10,co10,eo10⟩:=Kd.R_slice HO105.out;subst eo10)|((with_reducible refine gate_callee (f:=74) rfl ?_);refine goesL_ (some 22) rfl rfl Try.func74 (by kernel_rfl) rfl #[.int .i64 t101,.agg #[.int .i64 t102,.slice Ao10 t103.length co10]] rfl (by (try simp only [mT,mC,mN]);first|done|rfl|(simp only [lD,lT];rfl)) ?_;(with_reducible refine (impl_DenyClaim.calls k t101 t102 _ _ t103 t107 t108 t111 _ ?side1 ?side2 A4.out).mono ?_);(case side1=>refine (rR (e:=52) (base:=w.heap.size) (ok:=fun k_=>True) (n:=t103.length) (c:=co10) ?_).2.2;exact (by (with_reducible repeat (first|apply rA|apply rN|apply rD));exact (rM (rF (p:=⟨gb106,1,none⟩) (rF (p:=⟨gb106,0,none⟩) (Kd.R_types HO105.out BK106.out (by decide)) (fun _ hk=>hk.2) (.int .i64 t102)) (fun _ hk=>hk.2) (.slice Ao10 t103.length co10)) (fun _ h_=>h_.1))));(case side2=>exact (rR HO105.out).2.1);rintro e w11 ⟨v109,rfl,ho0,hb⟩;refine ⟨_,rfl,?_⟩;have n0_:=mA (Kd.R_elder' (by (with_reducible repeat (first|apply rA|apply rN|apply rD));exact (rM (rF (p:=⟨gb106,1,none⟩) (rF (p:=⟨gb106,0,none⟩) (Kd.R_types HO105.out BK106.out (by decide)) (fun _ hk=>hk.2) (.int .i64 t102)) (fun _ hk=>hk.2) (.slice Ao10 t103.length co10)) (fun _ h_=>h_.1))) (Kd.R_base ho0) hb);have n1_:=mA (Kd.R_lower (Kd.R_new' ho0 (rL (by (with_reducible repeat (first|apply rA|apply rN|apply rD));exact (rM (rF (p:=⟨gb106,1,none⟩) (rF (p:=⟨gb106,0,none⟩) (Kd.R_types HO105.out BK106.out (by decide)) (fun _ hk=>hk.2) (.int .i64 t102)) (fun _ hk=>hk.2) (.slice Ao10 t103.length co10)) (fun _ h_=>h_.1))))) (bZ (by repeat (first|(with_reducible first|exact HB.out|apply bA|apply bN|apply bD|refine bS ?_ GE106.out)|exact HB.out))));have n2_:=mA (blk_below (g:=gb106) (o:=.cells #[.int .i64 t102,.slice Ao10 t103.length co10] 50 (0,0)) (by (with_reducible repeat (first|refine kN ?_ _|refine kD ?_|refine kA ?_ _));refine blk_put (cs:=#[.int .i64 t102,.slice none 0 0]) ?_ 1 _ rfl;(with_reducible repeat (first|refine kN ?_ _|refine kD ?_|refine kA ?_ _));refine blk_put (cs:=#[.int .i64 0,.slice none 0 0]) ?_ 0 _ rfl;(with_reducible repeat (first|refine kN ?_ _|refine kD ?_|refine kA ?_ _));exact BK106.out) hb);have n3_:=mA (bT (by repeat (first|(with_reducible first|exact HB.out|apply bA|apply bN|apply bD|refine bS ?_ GE106.out)|exact HB.out)) hb);clear HO105 BK106 HB;have HO105:=n0_;have HO110:=n1_;have BK106:=n2_;have HB:=n3_;clear n0_ n1_ n2_ n3_;(try clear hb);(try clear hb2);(try clear hk);(try clear hi);(try clear ho0))|((with_reducible refine gate_dst (N:=5) rfl ?_);(try (refine gate_guard (by rfl) ?_;dsimp only));refine box_event ?hg (N:=5) ?hd (cs:=#[.int .i64 0,.slice none 0 0]) (t:=50) ?hr ?_;(case hd=>rfl);(case hg=>rfl);(case hr=>first|(go_simp;done)|(go_simp;rfl));intro gb112 hg w12 hbox hb;have n0_:=mA (rB (by (with_reducible repeat (first|apply rA|apply rN|apply rD));exact HO105.out) hb);have n1_:=mA (rB (by (with_reducible repeat (first|apply rA|apply rN|apply rD));exact HO110.out) hb);have n2_:=mA (blk_below (g:=gb106) (o:=.cells #[.int .i64 t102,.slice Ao10 t103.length co10] 50 (0,0)) (by (with_reducible repeat (first|refine kN ?_ _|refine kD ?_|refine kA ?_ _));exact BK106.out) hb);have n3_:=mA (bT (by repeat (first|(with_reducible first|exact HB.out|apply bA|apply bN|apply bD|refine bS ?_ GE106.out)|exact HB.out)) hb);have n4_:=mA (hbox);have n5_:=mA ((by rw [hg];exact (bZ (by repeat (first|(with_reducible first|exact HB.out|apply bA|apply bN|apply bD|refine bS ?_ GE106.out)|exact HB.out))):w.heap.size≤gb112));have n6_:=mA ((by rw [hg];exact (bZ (by repeat (first|(with_reducible first|exact HB.out|apply bA|apply bN|apply bD|refine bS ?_ GE106.out)|exact HB.out))):w.heap.size≤gb112));have n7_:=mA ((by rw [hg];exact Nat.ne_of_lt (blk_lt (g:=gb106) (o:=.cells #[.int .i64 t102,.slice Ao10 t103.length co10] 50 (0,0)) (by (with_reducible repeat (first|refine kN ?_ _|refine kD ?_|refine kA ?_ _));exact BK106.out)):gb106≠gb112));have n8_:=mA ((by rw [hg];exact Nat.ne_of_gt (blk_lt (g:=gb106) (o:=.cells #[.int .i64 t102,.slice Ao10 t103.length co10] 50 (0,0)) (by (with_reducible repeat (first|refine kN ?_ _|refine kD ?_|refine kA ?_ _));exact BK106.out)):gb112≠gb106));clear HO105 HO110 BK106 HB;have HO105:=n0_;have HO110:=n1_;have BK106:=n2_;have HB:=n3_;have BK112:=n4_;have GW112:=n5_;have GE112:=n6_;have NB106_112:=n7_;have NB112_106:=n8_;clear n0_ n1_ n2_ n3_ n4_ n5_ n6_ n7_ n8_ hb hbox hg;have hnb13:=NB112_106.out;have hnc13:=NB106_112.out;have hcz14_0:w12.cell? ⟨gb112,0,none⟩=some (.int .i64 0):=(kC BK112.out 0).trans rfl;have hcz14_1:w12.cell? ⟨gb112,1,none⟩=some (.slice none 0 0):=(kC BK112.out 1).trans rfl;have hfz14_0:=kF BK112.out 0;have hfz14_1:=kF BK112.out 1;obtain ⟨Ao15,co15,eo15⟩:=Kd.R_slice HO110.out;subst eo15;have hcz16_0:w12.cell? ⟨gb106,0,none⟩=some (.int .i64 t102):=(kC BK106.out 0).trans rfl;have hcz16_1:w12.cell? ⟨gb106,1,none⟩=some (.slice Ao10 t103.length co10):=(kC BK106.out 1).trans rfl;have hfz16_0:=kF BK106.out 0;have hfz16_1:=kF BK106.out 1)|((with_reducible refine gate_callee (f:=75) rfl ?_);refine goesL_ (some 28) rfl rfl Try.func75 (by kernel_rfl) rfl #[.int .i64 t101,.agg #[.int .i64 t102,.slice Ao10 t103.length co10]] rfl (by (try simp only [mT,mC,mN]);first|done|rfl|(simp only [lD,lT];rfl)) ?_;(with_reducible refine (spec_DenyClaim.calls k t101 t102 _ _ t103 t113 t114 t117 _ ?side1 ?side2 A5.out).mono ?_);(case side1=>refine (rR (e:=52) (base:=w.heap.size) (ok:=fun k_=>(True∧some k_≠(.slice Ao15 t108.length co15:Value).ownBlock)) (n:=t103.length) (c:=co10) ?_).2.2;exact (by (with_reducible repeat (first|apply rA|apply rN|apply rD));exact (rM (rF (p:=⟨gb112,1,none⟩) (rF (p:=⟨gb112,0,none⟩) (Kd.R_types HO105.out BK112.out (by decide)) (fun _ hk=>hk.2) (.int .i64 t107)) (fun _ hk=>hk.2) (.slice Ao15 t108.length co15)) (fun _ h_=>h_.1))));(case side2=>exact (rR HO105.out).2.1);rintro e w17 ⟨v115,rfl,ho0,hb⟩;refine ⟨_,rfl,?_⟩;have n0_:=mA (Kd.R_elder' (by (with_reducible repeat (first|apply rA|apply rN|apply rD));exact (rM (rF (p:=⟨gb112,1,none⟩) (rF (p:=⟨gb112,0,none⟩) (Kd.R_types HO105.out BK112.out (by decide)) (fun _ hk=>hk.2) (.int .i64 t107)) (fun _ hk=>hk.2) (.slice Ao15 t108.length co15)) (fun _ h_=>h_.1))) (Kd.R_base ho0) hb);have n1_:=mA (Kd.R_elder' (by (with_reducible repeat (first|apply rA|apply rN|apply rD));exact (rM (rF (p:=⟨gb112,1,none⟩) (rF (p:=⟨gb112,0,none⟩) (Kd.R_types HO110.out BK112.out (by decide)) (fun _ hk=>hk.2) (.int .i64 t107)) (fun _ hk=>hk.2) (.slice Ao15 t108.length co15)) (fun _ h_=>h_.1))) (Kd.R_base ho0) hb);have n2_:=mA (Kd.R_lower (Kd.R_new' (Kd.R_new' ho0 (rL (by (with_reducible repeat (first|apply rA|apply rN|apply rD));exact (rM (rF (p:=⟨gb112,1,none⟩) (rF (p:=⟨gb112,0,none⟩) (Kd.R_types HO105.out BK112.out (by decide)) (fun _ hk=>hk.2) (.int .i64 t107)) (fun _ hk=>hk.2) (.slice Ao15 t108.length co15)) (fun _ h_=>h_.1))))) (rL (by (with_reducible repeat (first|apply rA|apply rN|apply rD));exact (rM (rF (p:=⟨gb112,1,none⟩) (rF (p:=⟨gb112,0,none⟩) (Kd.R_types HO110.out BK112.out (by decide)) (fun _ hk=>hk.2) (.int .i64 t107)) (fun _ hk=>hk.2) (.slice Ao15 t108.length co15)) (fun _ h_=>h_.1))))) (bZ (by repeat (first|(with_reducible first|exact HB.out|apply bA|apply bN|apply bD|refine bS ?_ GE106.out|refine bS ?_ GE112.out)|exact HB.out))));have n3_:=mA (blk_below (g:=gb106) (o:=.cells #[.int .i64 t102,.slice Ao10 t103.length co10] 50 (0,0)) (by (with_reducible repeat (first|refine kN ?_ _|refine kD ?_|refine kA ?_ _));refine blk_far ?_ NB106_112.out _;(with_reducible repeat (first|refine kN ?_ _|refine kD ?_|refine kA ?_ _));refine blk_far ?_ NB106_112.out _;(with_reducible repeat (first|refine kN ?_ _|refine kD ?_|refine kA ?_ _));exact BK106.out) hb);have n4_:=mA (blk_below (g:=gb112) (o:=.cells #[.int .i64 t107,.slice Ao15 t108.length co15] 50 (0,0)) (by (with_reducible repeat (first|refine kN ?_ _|refine kD ?_|refine kA ?_ _));refine blk_put (cs:=#[.int .i64 t107,.slice none 0 0]) ?_ 1 _ rfl;(with_reducible repeat (first|refine kN ?_ _|refine kD ?_|refine kA ?_ _));refine blk_put (cs:=#[.int .i64 0,.slice none 0 0]) ?_ 0 _ rfl;(with_reducible repeat (first|refine kN ?_ _|refine kD ?_|refine kA ?_ _));exact BK112.out) hb);have n5_:=mA (bT (by repeat (first|(with_reducible first|exact HB.out|apply bA|apply bN|apply bD|refine bS ?_ GE106.out|refine bS ?_ GE112.out)|exact HB.out)) hb);clear HO105 HO110 BK106 BK112 HB;have HO105:=n0_;have HO110:=n1_;have HO116:=n2_;have BK106:=n3_;have BK112:=n4_;have HB:=n5_;clear n0_ n1_ n2_ n3_ n4_ n5_;(try clear hb);(try clear hb2);(try clear hk);(try clear hi);(try clear ho0))|((with_reducible refine gate_dst (N:=7) rfl ?_);(try (refine gate_guard (by rfl) ?_;dsimp only));refine box_event ?hg (N:=7) ?hd (cs:=#[.int .i64 0,.slice none 0 0]) (t:=50) ?hr ?_;(case hd=>rfl);(case hg=>rfl);(case hr=>first|(go_simp;done)|(go_simp;rfl));intro gb118 hg w18 hbox hb;have n0_:=mA (rB (by (with_reducible repeat (first|apply rA|apply rN|apply rD));exact HO105.out) hb);have n1_:=mA (rB (by (with_reducible repeat (first|apply rA|apply rN|apply rD));exact HO110.out) hb);have n2_:=mA (rB (by (with_reducible repeat (first|apply rA|apply rN|apply rD));exact HO116.out) hb);have n3_:=mA (blk_below (g:=gb106) (o:=.cells #[.int .i64 t102,.slice Ao10 t103.length co10] 50 (0,0)) (by (with_reducible repeat (first|refine kN ?_ _|refine kD ?_|refine kA ?_ _));exact BK106.out) hb);have n4_:=mA (blk_below (g:=gb112) (o:=.cells #[.int .i64 t107,.slice Ao15 t108.length co15] 50 (0,0)) (by (with_reducible repeat (first|refine kN ?_ _|refine kD ?_|refine kA ?_ _));exact BK112.out) hb);have n5_:=mA (bT (by repeat (first|(with_reducible first|exact HB.out|apply bA|apply bN|apply bD|refine bS ?_ GE106.out|refine bS ?_ GE112.out)|exact HB.out)) hb);have n6_:=mA (hbox);have n7_:=mA ((by rw [hg];exact (bZ (by repeat (first|(with_reducible first|exact HB.out|apply bA|apply bN|apply bD|refine bS ?_ GE106.out|refine bS ?_ GE112.out)|exact HB.out))):w.heap.size≤gb118));have n8_:=mA ((by rw [hg];exact (bZ (by repeat (first|(with_reducible first|exact HB.out|apply bA|apply bN|apply bD|refine bS ?_ GE106.out|refine bS ?_ GE112.out)|exact HB.out))):w.heap.size≤gb118));have n9_:=mA ((by rw [hg];exact Nat.ne_of_lt (blk_lt (g:=gb106) (o:=.cells #[.int .i64 t102,.slice Ao10 t103.length co10] 50 (0,0)) (by (with_reducible repeat (first|refine kN ?_ _|refine kD ?_|refine kA ?_ _));exact BK106.out)):gb106≠gb118));have n10_:=mA ((by rw [hg];exact Nat.ne_of_gt (blk_lt (g:=gb106) (o:=.cells #[.int .i64 t102,.slice Ao10 t103.length co10] 50 (0,0)) (by (with_reducible repeat (first|refine kN ?_ _|refine kD ?_|refine kA ?_ _));exact BK106.out)):gb118≠gb106));have n11_:=mA ((by rw [hg];exact Nat.ne_of_lt (blk_lt (g:=gb112) (o:=.cells #[.int .i64 t107,.slice Ao15 t108.length co15] 50 (0,0)) (by (with_reducible repeat (first|refine kN ?_ _|refine kD ?_|refine kA ?_ _));exact BK112.out)):gb112≠gb118));have n12_:=mA ((by rw [hg];exact Nat.ne_of_gt (blk_lt (g:=gb112) (o:=.cells #[.int .i64 t107,.slice Ao15 t108.length co15] 50 (0,0)) (by (with_reducible repeat (first|refine kN ?_ _|refine kD ?_|refine kA ?_ _));exact BK112.out)):gb118≠gb112));clear HO105 HO110 HO116 BK106 BK112 HB;have HO105:=n0_;have HO110:=n1_;have HO116:=n2_;have BK106:=n3_;have BK112:=n4_;have HB:=n5_;have BK118:=n6_;have GW118:=n7_;have GE118:=n8_;have NB106_118:=n9_;have NB118_106:=n10_;have NB112_118:=n11_;have NB118_112:=n12_;clear n0_ n1_ n2_ n3_ n4_ n5_ n6_ n7_ n8_ n9_ n10_ n11_ n12_ hb hbox hg;have hnb19:=NB118_106.out;have hnc19:=NB106_118.out;have hnb20:=NB118_112.out;have hnc20:=NB112_118.out;have hcz21_0:w18.cell? ⟨gb118,0,none⟩=some (.int .i64 0):=(kC BK118.out 0).trans rfl;have hcz21_1:w18.cell? ⟨gb118,1,none⟩=some (.slice none 0 0):=(kC BK118.out 1).trans rfl;have hfz21_0:=kF BK118.out 0;have hfz21_1:=kF BK118.out 1;obtain ⟨Ao22,co22,eo22⟩:=Kd.R_slice HO116.out;subst eo22))
  (try simp only [Act.put,sA,sZ,sS])
  go_cut [39] (fun v39 wc=>∃ (kq:Nat) (x39_5:Bool),v39 = .bool x39_5∧Aside0 (laws_FnDenyClaim.j0 kq t101 t111 x39_5 t102 t103 t107 t108=some r)∧Aside0 (kq≤k)∧Aside0 (Kd.R k52 52 wc w.heap.size (fun k_=>some k_≠((.slice Ao15 t108.length co15):Value).ownBlock∧some k_≠((.slice Ao22 t114.length co22):Value).ownBlock) (.slice Ao10 t103.length co10) t103)∧Aside0 (Kd.R k52 52 wc w.heap.size (fun k_=>some k_≠((.slice Ao10 t103.length co10):Value).ownBlock∧some k_≠((.slice Ao22 t114.length co22):Value).ownBlock) (.slice Ao15 t108.length co15) t108)∧Aside0 (Kd.R k52 52 wc w.heap.size (fun k_=>some k_≠((.slice Ao10 t103.length co10):Value).ownBlock∧some k_≠((.slice Ao15 t108.length co15):Value).ownBlock) (.slice Ao22 t114.length co22) t114)∧Aside0 (wc.heap[gb106]?=some (.cells #[.int .i64 t102,(.slice Ao10 t103.length co10)] 50 (0,0)))∧Aside0 (wc.heap[gb112]?=some (.cells #[.int .i64 t107,(.slice Ao15 t108.length co15)] 50 (0,0)))∧Aside0 (wc.heap[gb118]?=some (.cells #[.int .i64 t113,(.slice Ao22 t114.length co22)] 50 (0,0)))∧Aside0 (Below w.heap.size w wc))
  case first =>
   have H:=HC6.out
   clear HC6
   replace H:=Option.bind_eq_some_iff.mp H
   obtain ⟨t119,A230,H⟩:=H
   replace H:(if t119=true then (laws_FnDenyClaim.j0 k t101 t111 (t111 != t117) t102 t103 t107 t108) else (laws_FnDenyClaim.j0 k t101 t111 true t102 t103 t107 t108))=some r:=H
   have A23:=mA A230
   clear A230
   by_cases c24:t119=true
   ·subst c24
    have H1:(laws_FnDenyClaim.j0 k t101 t111 (t111 != t117) t102 t103 t107 t108)=some r:=by rw [if_pos rfl] at H;exact H
    clear H
    have H:=H1
    clear H1
    have H':=mA H
    clear H
    have hnb25:=NB112_106.out
    have hnc25:=NB106_112.out
    have hnb26:=NB112_118.out
    have hnc26:=NB118_112.out
    have hcz27_0:w18.cell? ⟨gb112,0,none⟩=some (.int .i64 t107):=(kC BK112.out 0).trans rfl
    have hcz27_1:w18.cell? ⟨gb112,1,none⟩=some (.slice Ao15 t108.length co15):=(kC BK112.out 1).trans rfl
    have hfz27_0:=kF BK112.out 0
    have hfz27_1:=kF BK112.out 1
    have hnb28:=NB118_106.out
    have hnc28:=NB106_118.out
    have hcz29_0:w18.cell? ⟨gb118,0,none⟩=some (.int .i64 0):=(kC BK118.out 0).trans rfl
    have hcz29_1:w18.cell? ⟨gb118,1,none⟩=some (.slice none 0 0):=(kC BK118.out 1).trans rfl
    have hfz29_0:=kF BK118.out 0
    have hfz29_1:=kF BK118.out 1
    go_wp2_with (first|((with_reducible refine gate_callee (f:=76) rfl ?_);refine goesL_ (some 33) rfl rfl Try.func76 (by kernel_rfl) rfl #[.agg #[.int .i64 t107,.slice Ao15 t108.length co15],.agg #[.int .i64 t113,.slice Ao22 t114.length co22]] rfl (by (try simp only [mT,mC,mN]);first|done|rfl|(simp only [lD,lT];rfl)) ?_;(with_reducible refine (laws_sameClaim.calls k t107 _ _ t108 t113 _ _ t114 true _ ?side1 ?side2 ?side3 ?side4 A23.out).mono ?_);(case side1=>refine (rR (e:=52) (base:=w.heap.size) (ok:=fun k_=>((True∧some k_≠(.slice Ao10 t103.length co10:Value).ownBlock)∧some k_≠(.slice Ao22 t114.length co22:Value).ownBlock)) (n:=t108.length) (c:=co15) ?_).2.2;exact (by (with_reducible repeat (first|apply rA|apply rN|apply rD));exact (rM (rF (p:=⟨gb118,1,none⟩) (rF (p:=⟨gb118,0,none⟩) (Kd.R_types HO110.out BK118.out (by decide)) (fun _ hk=>hk.2) (.int .i64 t113)) (fun _ hk=>hk.2) (.slice Ao22 t114.length co22)) (fun _ h_=>h_.1))));(case side2=>exact (rR HO110.out).2.1);(case side3=>refine (rR (e:=52) (base:=w.heap.size) (ok:=fun k_=>((True∧some k_≠(.slice Ao10 t103.length co10:Value).ownBlock)∧some k_≠(.slice Ao15 t108.length co15:Value).ownBlock)) (n:=t114.length) (c:=co22) ?_).2.2;exact (by (with_reducible repeat (first|apply rA|apply rN|apply rD));exact (rM (rF (p:=⟨gb118,1,none⟩) (rF (p:=⟨gb118,0,none⟩) (Kd.R_types HO116.out BK118.out (by decide)) (fun _ hk=>hk.2) (.int .i64 t113)) (fun _ hk=>hk.2) (.slice Ao22 t114.length co22)) (fun _ h_=>h_.1))));(case side4=>exact (rR HO116.out).2.1);rintro e w30 ⟨rfl,hb⟩;refine ⟨_,rfl,?_⟩;have n0_:=mA (rB (by (with_reducible repeat (first|apply rA|apply rN|apply rD));exact (rM (rF (p:=⟨gb118,1,none⟩) (rF (p:=⟨gb118,0,none⟩) (Kd.R_types HO105.out BK118.out (by decide)) (fun _ hk=>hk.2) (.int .i64 t113)) (fun _ hk=>hk.2) (.slice Ao22 t114.length co22)) (fun _ h_=>h_.1))) hb);have n1_:=mA (rB (by (with_reducible repeat (first|apply rA|apply rN|apply rD));exact (rM (rF (p:=⟨gb118,1,none⟩) (rF (p:=⟨gb118,0,none⟩) (Kd.R_types HO110.out BK118.out (by decide)) (fun _ hk=>hk.2) (.int .i64 t113)) (fun _ hk=>hk.2) (.slice Ao22 t114.length co22)) (fun _ h_=>h_.1))) hb);have n2_:=mA (rB (by (with_reducible repeat (first|apply rA|apply rN|apply rD));exact (rM (rF (p:=⟨gb118,1,none⟩) (rF (p:=⟨gb118,0,none⟩) (Kd.R_types HO116.out BK118.out (by decide)) (fun _ hk=>hk.2) (.int .i64 t113)) (fun _ hk=>hk.2) (.slice Ao22 t114.length co22)) (fun _ h_=>h_.1))) hb);have n3_:=mA (blk_below (g:=gb106) (o:=.cells #[.int .i64 t102,.slice Ao10 t103.length co10] 50 (0,0)) (by (with_reducible repeat (first|refine kN ?_ _|refine kD ?_|refine kA ?_ _));refine blk_far ?_ NB106_118.out _;(with_reducible repeat (first|refine kN ?_ _|refine kD ?_|refine kA ?_ _));refine blk_far ?_ NB106_118.out _;(with_reducible repeat (first|refine kN ?_ _|refine kD ?_|refine kA ?_ _));exact BK106.out) hb);have n4_:=mA (blk_below (g:=gb112) (o:=.cells #[.int .i64 t107,.slice Ao15 t108.length co15] 50 (0,0)) (by (with_reducible repeat (first|refine kN ?_ _|refine kD ?_|refine kA ?_ _));refine blk_far ?_ NB112_118.out _;(with_reducible repeat (first|refine kN ?_ _|refine kD ?_|refine kA ?_ _));refine blk_far ?_ NB112_118.out _;(with_reducible repeat (first|refine kN ?_ _|refine kD ?_|refine kA ?_ _));exact BK112.out) hb);have n5_:=mA (blk_below (g:=gb118) (o:=.cells #[.int .i64 t113,.slice Ao22 t114.length co22] 50 (0,0)) (by (with_reducible repeat (first|refine kN ?_ _|refine kD ?_|refine kA ?_ _));refine blk_put (cs:=#[.int .i64 t113,.slice none 0 0]) ?_ 1 _ rfl;(with_reducible repeat (first|refine kN ?_ _|refine kD ?_|refine kA ?_ _));refine blk_put (cs:=#[.int .i64 0,.slice none 0 0]) ?_ 0 _ rfl;(with_reducible repeat (first|refine kN ?_ _|refine kD ?_|refine kA ?_ _));exact BK118.out) hb);have n6_:=mA (bT (by repeat (first|(with_reducible first|exact HB.out|apply bA|apply bN|apply bD|refine bS ?_ GE106.out|refine bS ?_ GE112.out|refine bS ?_ GE118.out)|exact HB.out)) hb);clear HO105 HO110 HO116 BK106 BK112 BK118 HB;have HO105:=n0_;have HO110:=n1_;have HO116:=n2_;have BK106:=n3_;have BK112:=n4_;have BK118:=n5_;have HB:=n6_;clear n0_ n1_ n2_ n3_ n4_ n5_ n6_;(try clear hb);(try clear hb2);(try clear hk);(try clear hi)))
    go_meet
    case rel=>exact ⟨_,((t111 != t117)),(by first|rfl|(simp;done)|(simp [*];done)),H',⟨by first|omega|exact Nat.le_refl _⟩,⟨by (with_reducible repeat (first|apply rA|apply rN|apply rD));exact rM HO105.out (fun _ hk=>⟨hk.1.2,hk.2⟩)⟩,⟨by (with_reducible repeat (first|apply rA|apply rN|apply rD));exact rM HO110.out (fun _ hk=>⟨hk.1.2,hk.2⟩)⟩,⟨by (with_reducible repeat (first|apply rA|apply rN|apply rD));exact rM HO116.out (fun _ hk=>⟨hk.1.2,hk.2⟩)⟩,⟨by (with_reducible repeat (first|refine kN ?_ _|refine kD ?_|refine kA ?_ _));exact BK106.out⟩,⟨by (with_reducible repeat (first|refine kN ?_ _|refine kD ?_|refine kA ?_ _));exact BK112.out⟩,⟨by (with_reducible repeat (first|refine kN ?_ _|refine kD ?_|refine kA ?_ _));exact BK118.out⟩,⟨by repeat (first|(with_reducible first|exact HB.out|apply bA|apply bN|apply bD|refine bS ?_ GE106.out|refine bS ?_ GE112.out|refine bS ?_ GE118.out)|exact HB.out)⟩⟩
   ·replace c24:=Bool.eq_false_iff.mpr c24
    subst c24
    have H1:(laws_FnDenyClaim.j0 k t101 t111 true t102 t103 t107 t108)=some r:=by rw [if_neg (show ¬ (false=true) by decide)] at H;exact H
    clear H
    have H:=H1
    clear H1
    have H':=mA H
    clear H
    have hnb31:=NB112_106.out
    have hnc31:=NB106_112.out
    have hnb32:=NB112_118.out
    have hnc32:=NB118_112.out
    have hcz33_0:w18.cell? ⟨gb112,0,none⟩=some (.int .i64 t107):=(kC BK112.out 0).trans rfl
    have hcz33_1:w18.cell? ⟨gb112,1,none⟩=some (.slice Ao15 t108.length co15):=(kC BK112.out 1).trans rfl
    have hfz33_0:=kF BK112.out 0
    have hfz33_1:=kF BK112.out 1
    have hnb34:=NB118_106.out
    have hnc34:=NB106_118.out
    have hcz35_0:w18.cell? ⟨gb118,0,none⟩=some (.int .i64 0):=(kC BK118.out 0).trans rfl
    have hcz35_1:w18.cell? ⟨gb118,1,none⟩=some (.slice none 0 0):=(kC BK118.out 1).trans rfl
    have hfz35_0:=kF BK118.out 0
    have hfz35_1:=kF BK118.out 1
    go_wp2_with (first|((with_reducible refine gate_callee (f:=76) rfl ?_);refine goesL_ (some 33) rfl rfl Try.func76 (by kernel_rfl) rfl #[.agg #[.int .i64 t107,.slice Ao15 t108.length co15],.agg #[.int .i64 t113,.slice Ao22 t114.length co22]] rfl (by (try simp only [mT,mC,mN]);first|done|rfl|(simp only [lD,lT];rfl)) ?_;(with_reducible refine (laws_sameClaim.calls k t107 _ _ t108 t113 _ _ t114 false _ ?side1 ?side2 ?side3 ?side4 A23.out).mono ?_);(case side1=>refine (rR (e:=52) (base:=w.heap.size) (ok:=fun k_=>((True∧some k_≠(.slice Ao10 t103.length co10:Value).ownBlock)∧some k_≠(.slice Ao22 t114.length co22:Value).ownBlock)) (n:=t108.length) (c:=co15) ?_).2.2;exact (by (with_reducible repeat (first|apply rA|apply rN|apply rD));exact (rM (rF (p:=⟨gb118,1,none⟩) (rF (p:=⟨gb118,0,none⟩) (Kd.R_types HO110.out BK118.out (by decide)) (fun _ hk=>hk.2) (.int .i64 t113)) (fun _ hk=>hk.2) (.slice Ao22 t114.length co22)) (fun _ h_=>h_.1))));(case side2=>exact (rR HO110.out).2.1);(case side3=>refine (rR (e:=52) (base:=w.heap.size) (ok:=fun k_=>((True∧some k_≠(.slice Ao10 t103.length co10:Value).ownBlock)∧some k_≠(.slice Ao15 t108.length co15:Value).ownBlock)) (n:=t114.length) (c:=co22) ?_).2.2;exact (by (with_reducible repeat (first|apply rA|apply rN|apply rD));exact (rM (rF (p:=⟨gb118,1,none⟩) (rF (p:=⟨gb118,0,none⟩) (Kd.R_types HO116.out BK118.out (by decide)) (fun _ hk=>hk.2) (.int .i64 t113)) (fun _ hk=>hk.2) (.slice Ao22 t114.length co22)) (fun _ h_=>h_.1))));(case side4=>exact (rR HO116.out).2.1);rintro e w36 ⟨rfl,hb⟩;refine ⟨_,rfl,?_⟩;have n0_:=mA (rB (by (with_reducible repeat (first|apply rA|apply rN|apply rD));exact (rM (rF (p:=⟨gb118,1,none⟩) (rF (p:=⟨gb118,0,none⟩) (Kd.R_types HO105.out BK118.out (by decide)) (fun _ hk=>hk.2) (.int .i64 t113)) (fun _ hk=>hk.2) (.slice Ao22 t114.length co22)) (fun _ h_=>h_.1))) hb);have n1_:=mA (rB (by (with_reducible repeat (first|apply rA|apply rN|apply rD));exact (rM (rF (p:=⟨gb118,1,none⟩) (rF (p:=⟨gb118,0,none⟩) (Kd.R_types HO110.out BK118.out (by decide)) (fun _ hk=>hk.2) (.int .i64 t113)) (fun _ hk=>hk.2) (.slice Ao22 t114.length co22)) (fun _ h_=>h_.1))) hb);have n2_:=mA (rB (by (with_reducible repeat (first|apply rA|apply rN|apply rD));exact (rM (rF (p:=⟨gb118,1,none⟩) (rF (p:=⟨gb118,0,none⟩) (Kd.R_types HO116.out BK118.out (by decide)) (fun _ hk=>hk.2) (.int .i64 t113)) (fun _ hk=>hk.2) (.slice Ao22 t114.length co22)) (fun _ h_=>h_.1))) hb);have n3_:=mA (blk_below (g:=gb106) (o:=.cells #[.int .i64 t102,.slice Ao10 t103.length co10] 50 (0,0)) (by (with_reducible repeat (first|refine kN ?_ _|refine kD ?_|refine kA ?_ _));refine blk_far ?_ NB106_118.out _;(with_reducible repeat (first|refine kN ?_ _|refine kD ?_|refine kA ?_ _));refine blk_far ?_ NB106_118.out _;(with_reducible repeat (first|refine kN ?_ _|refine kD ?_|refine kA ?_ _));exact BK106.out) hb);have n4_:=mA (blk_below (g:=gb112) (o:=.cells #[.int .i64 t107,.slice Ao15 t108.length co15] 50 (0,0)) (by (with_reducible repeat (first|refine kN ?_ _|refine kD ?_|refine kA ?_ _));refine blk_far ?_ NB112_118.out _;(with_reducible repeat (first|refine kN ?_ _|refine kD ?_|refine kA ?_ _));refine blk_far ?_ NB112_118.out _;(with_reducible repeat (first|refine kN ?_ _|refine kD ?_|refine kA ?_ _));exact BK112.out) hb);have n5_:=mA (blk_below (g:=gb118) (o:=.cells #[.int .i64 t113,.slice Ao22 t114.length co22] 50 (0,0)) (by (with_reducible repeat (first|refine kN ?_ _|refine kD ?_|refine kA ?_ _));refine blk_put (cs:=#[.int .i64 t113,.slice none 0 0]) ?_ 1 _ rfl;(with_reducible repeat (first|refine kN ?_ _|refine kD ?_|refine kA ?_ _));refine blk_put (cs:=#[.int .i64 0,.slice none 0 0]) ?_ 0 _ rfl;(with_reducible repeat (first|refine kN ?_ _|refine kD ?_|refine kA ?_ _));exact BK118.out) hb);have n6_:=mA (bT (by repeat (first|(with_reducible first|exact HB.out|apply bA|apply bN|apply bD|refine bS ?_ GE106.out|refine bS ?_ GE112.out|refine bS ?_ GE118.out)|exact HB.out)) hb);clear HO105 HO110 HO116 BK106 BK112 BK118 HB;have HO105:=n0_;have HO110:=n1_;have HO116:=n2_;have BK106:=n3_;have BK112:=n4_;have BK118:=n5_;have HB:=n6_;clear n0_ n1_ n2_ n3_ n4_ n5_ n6_;(try clear hb);(try clear hb2);(try clear hk);(try clear hi)))
    go_meet
    case rel=>exact ⟨_,(true),(by first|rfl|(simp;done)|(simp [*];done)),H',⟨by first|omega|exact Nat.le_refl _⟩,⟨by (with_reducible repeat (first|apply rA|apply rN|apply rD));exact rM HO105.out (fun _ hk=>⟨hk.1.2,hk.2⟩)⟩,⟨by (with_reducible repeat (first|apply rA|apply rN|apply rD));exact rM HO110.out (fun _ hk=>⟨hk.1.2,hk.2⟩)⟩,⟨by (with_reducible repeat (first|apply rA|apply rN|apply rD));exact rM HO116.out (fun _ hk=>⟨hk.1.2,hk.2⟩)⟩,⟨by (with_reducible repeat (first|refine kN ?_ _|refine kD ?_|refine kA ?_ _));exact BK106.out⟩,⟨by (with_reducible repeat (first|refine kN ?_ _|refine kD ?_|refine kA ?_ _));exact BK112.out⟩,⟨by (with_reducible repeat (first|refine kN ?_ _|refine kD ?_|refine kA ?_ _));exact BK118.out⟩,⟨by repeat (first|(with_reducible first|exact HB.out|apply bA|apply bN|apply bD|refine bS ?_ GE106.out|refine bS ?_ GE112.out|refine bS ?_ GE118.out)|exact HB.out)⟩⟩
  case rest =>
   clear HC6
   try clear c1
   try clear c2
   try clear c2b0
   try clear c2b1
   try clear p2
   try clear c3
   try clear c7
   try clear c13
   try clear c17
   try clear c19
   try clear c20
   try clear c24
   try clear c25
   try clear c26
   try clear c28
   try clear c31
   try clear c32
   try clear c34
   try clear hcz14_0
   try clear hcz14_1
   try clear hcz16_0
   try clear hcz16_1
   try clear hcz21_0
   try clear hcz21_1
   try clear hcz27_0
   try clear hcz27_1
   try clear hcz29_0
   try clear hcz29_1
   try clear hcz33_0
   try clear hcz33_1
   try clear hcz35_0
   try clear hcz35_1
   try clear hcz9_0
   try clear hcz9_1
   try clear hfz14_0
   try clear hfz14_1
   try clear hfz16_0
   try clear hfz16_1
   try clear hfz21_0
   try clear hfz21_1
   try clear hfz27_0
   try clear hfz27_1
   try clear hfz29_0
   try clear hfz29_1
   try clear hfz33_0
   try clear hfz33_1
   try clear hfz35_0
   try clear hfz35_1
   try clear hfz9_0
   try clear hfz9_1
   obtain ⟨kq,x39_5,rfl,HA,HJ5,HO_107001,HO_113001,HO_119001,BK106,BK112,BK118,HB⟩:=hcut
   cases kq with
   | zero=>exact absurd HA.out (by simp [laws_FnDenyClaim.j0])
   | succ kj5 =>
    have H:=HA.out
    clear HA
    simp only [laws_FnDenyClaim.j0] at H
    by_cases c37:x39_5=true
    ·subst c37
     have H1:(some false)=some r:=by rw [if_pos rfl] at H;exact H
     clear H
     have H:=H1
     clear H1
     exact absurd ((Option.some.inj H).trans hr_.out) (by decide)
    ·replace c37:=Bool.eq_false_iff.mpr c37
     subst c37
     have H1:(if t111=true then ((impl_DenyClaim.f kj5 t101 t107 t108).bind fun bt121=>((impl_ClaimOk.f kj5 t101 t107 t108).bind fun t127=>(if t127=true then (if t107=t102 then (if (t108.length:Int)=(wrap64 ((t103.length:Int)+1)) then (if bt121.2.2=true then ((impl_ClaimTable.f kj5 t101 bt121.1 bt121.2.1).bind fun t128=>((impl_ClaimTable.f kj5 t101 t102 t103).bind fun t129=>(some (t128==t129)))) else (some true)) else (some false)) else (some false)) else (some false)))) else (if t107=0 then (if (t108.length:Int)=0 then ((laws_alive.f).bind fun t120=>(some t120)) else (some false)) else (some false)))=some r:=by rw [if_neg (show ¬ (false=true) by decide)] at H;exact H
     clear H
     have H:=H1
     clear H1
     by_cases c38:t111=true
     ·subst c38
      have H1:((impl_DenyClaim.f kj5 t101 t107 t108).bind fun bt121=>((impl_ClaimOk.f kj5 t101 t107 t108).bind fun t127=>(if t127=true then (if t107=t102 then (if (t108.length:Int)=(wrap64 ((t103.length:Int)+1)) then (if bt121.2.2=true then ((impl_ClaimTable.f kj5 t101 bt121.1 bt121.2.1).bind fun t128=>((impl_ClaimTable.f kj5 t101 t102 t103).bind fun t129=>(some (t128==t129)))) else (some true)) else (some false)) else (some false)) else (some false))))=some r:=by rw [if_pos rfl] at H;exact H
      clear H
      have H:=H1
      clear H1
      replace H:=Option.bind_eq_some_iff.mp H
      obtain ⟨⟨t121,t122,t125⟩,A390,H⟩:=H
      replace H:((impl_ClaimOk.f kj5 t101 t107 t108).bind fun t127=>(if t127=true then (if t107=t102 then (if (t108.length:Int)=(wrap64 ((t103.length:Int)+1)) then (if t125=true then ((impl_ClaimTable.f kj5 t101 t121 t122).bind fun t128=>((impl_ClaimTable.f kj5 t101 t102 t103).bind fun t129=>(some (t128==t129)))) else (some true)) else (some false)) else (some false)) else (some false)))=some r:=H
      have A39:=mA A390
      clear A390
      replace H:=Option.bind_eq_some_iff.mp H
      obtain ⟨t127,A400,H⟩:=H
      replace H:(if t127=true then (if t107=t102 then (if (t108.length:Int)=(wrap64 ((t103.length:Int)+1)) then (if t125=true then ((impl_ClaimTable.f kj5 t101 t121 t122).bind fun t128=>((impl_ClaimTable.f kj5 t101 t102 t103).bind fun t129=>(some (t128==t129)))) else (some true)) else (some false)) else (some false)) else (some false))=some r:=H
      have A40:=mA A400
      clear A400
      by_cases c41:t127=true
      ·subst c41
       have H1:(if t107=t102 then (if (t108.length:Int)=(wrap64 ((t103.length:Int)+1)) then (if t125=true then ((impl_ClaimTable.f kj5 t101 t121 t122).bind fun t128=>((impl_ClaimTable.f kj5 t101 t102 t103).bind fun t129=>(some (t128==t129)))) else (some true)) else (some false)) else (some false))=some r:=by rw [if_pos rfl] at H;exact H
       clear H
       have H:=H1
       clear H1
       by_cases c42:t107=t102
       ·rw [if_pos c42] at H
        have c42b0:(t107==t102)=true:=beq_iff_eq.mpr c42
        have c42b1:(t107 != t102)=false:=bne_eq_false_iff_eq.mpr c42
        clear c42
        by_cases c43:(t108.length:Int)=(wrap64 ((t103.length:Int)+1))
        ·rw [if_pos c43] at H
         have c43b0:((t108.length:Int)==(wrap64 ((t103.length:Int)+1)))=true:=beq_iff_eq.mpr c43
         have c43b1:((t108.length:Int) != (wrap64 ((t103.length:Int)+1)))=false:=bne_eq_false_iff_eq.mpr c43
         clear c43
         by_cases c44:t125=true
         ·subst c44
          have H1:((impl_ClaimTable.f kj5 t101 t121 t122).bind fun t128=>((impl_ClaimTable.f kj5 t101 t102 t103).bind fun t129=>(some (t128==t129))))=some r:=by rw [if_pos rfl] at H;exact H
          clear H
          have H:=H1
          clear H1
          replace H:=Option.bind_eq_some_iff.mp H
          obtain ⟨t128,A450,H⟩:=H
          replace H:((impl_ClaimTable.f kj5 t101 t102 t103).bind fun t129=>(some (t128==t129)))=some r:=H
          have A45:=mA A450
          clear A450
          replace H:=Option.bind_eq_some_iff.mp H
          obtain ⟨t129,A460,H⟩:=H
          replace H:(some (t128==t129))=some r:=H
          have A46:=mA A460
          clear A460
          obtain rfl:=Option.some.inj H
          have hnb47:=NB112_106.out
          have hnc47:=NB106_112.out
          have hnb48:=NB112_118.out
          have hnc48:=NB118_112.out
          have hcz49_0:wc.cell? ⟨gb112,0,none⟩=some (.int .i64 t107):=(kC BK112.out 0).trans rfl
          have hcz49_1:wc.cell? ⟨gb112,1,none⟩=some (.slice Ao15 t108.length co15):=(kC BK112.out 1).trans rfl
          have hfz49_0:=kF BK112.out 0
          have hfz49_1:=kF BK112.out 1
          try go_wp2_with (first|((with_reducible refine gate_callee (f:=74) rfl ?_);refine goesL_ (some 57) rfl rfl Try.func74 (by kernel_rfl) rfl #[.int .i64 t101,.agg #[.int .i64 t107,.slice Ao15 t108.length co15]] rfl (by (try simp only [mT,mC,mN]);first|done|rfl|(simp only [lD,lT];rfl)) ?_;(with_reducible refine (impl_DenyClaim.calls kj5 t101 t107 _ _ t108 t121 t122 true _ ?side1 ?side2 A39.out).mono ?_);(case side1=>repeat (first|exact (rR HO_113001.out).2.2|(with_reducible refine cA ?_ _)|(with_reducible refine cN ?_ _)|(with_reducible refine cD ?_)));(case side2=>exact (rR HO_113001.out).2.1);rintro e w50 ⟨v123,rfl,ho0,hb⟩;refine ⟨_,rfl,?_⟩;have n0_:=mA (Kd.R_elder' (by (with_reducible repeat (first|apply rA|apply rN|apply rD));exact HO_107001.out) (Kd.R_base ho0) hb);have n1_:=mA (Kd.R_elder' (by (with_reducible repeat (first|apply rA|apply rN|apply rD));exact HO_113001.out) (Kd.R_base ho0) hb);have n2_:=mA (Kd.R_elder' (by (with_reducible repeat (first|apply rA|apply rN|apply rD));exact HO_119001.out) (Kd.R_base ho0) hb);have n3_:=mA (Kd.R_lower (Kd.R_new' (Kd.R_new' (Kd.R_new' ho0 (rL (by (with_reducible repeat (first|apply rA|apply rN|apply rD));exact HO_107001.out))) (rL (by (with_reducible repeat (first|apply rA|apply rN|apply rD));exact HO_113001.out))) (rL (by (with_reducible repeat (first|apply rA|apply rN|apply rD));exact HO_119001.out))) (bZ (by repeat (first|(with_reducible first|exact HB.out|apply bA|apply bN|apply bD|refine bS ?_ GE106.out|refine bS ?_ GE112.out|refine bS ?_ GE118.out)|exact HB.out))));have n4_:=mA (blk_below (g:=gb106) (o:=.cells #[.int .i64 t102,.slice Ao10 t103.length co10] 50 (0,0)) (by (with_reducible repeat (first|refine kN ?_ _|refine kD ?_|refine kA ?_ _));exact BK106.out) hb);have n5_:=mA (blk_below (g:=gb112) (o:=.cells #[.int .i64 t107,.slice Ao15 t108.length co15] 50 (0,0)) (by (with_reducible repeat (first|refine kN ?_ _|refine kD ?_|refine kA ?_ _));exact BK112.out) hb);have n6_:=mA (blk_below (g:=gb118) (o:=.cells #[.int .i64 t113,.slice Ao22 t114.length co22] 50 (0,0)) (by (with_reducible repeat (first|refine kN ?_ _|refine kD ?_|refine kA ?_ _));exact BK118.out) hb);have n7_:=mA (bT (by repeat (first|(with_reducible first|exact HB.out|apply bA|apply bN|apply bD|refine bS ?_ GE106.out|refine bS ?_ GE112.out|refine bS ?_ GE118.out)|exact HB.out)) hb);clear HO_107001 HO_113001 HO_119001 BK106 BK112 BK118 HB;have HO_107001:=n0_;have HO_113001:=n1_;have HO_119001:=n2_;have HO124:=n3_;have BK106:=n4_;have BK112:=n5_;have BK118:=n6_;have HB:=n7_;clear n0_ n1_ n2_ n3_ n4_ n5_ n6_ n7_;(try clear hb);(try clear hb2);(try clear hk);(try clear hi);(try clear ho0))|((with_reducible refine gate_dst (N:=9) rfl ?_);(try (refine gate_guard (by rfl) ?_;dsimp only));refine box_event ?hg (N:=9) ?hd (cs:=#[.int .i64 0,.slice none 0 0]) (t:=50) ?hr ?_;(case hd=>rfl);(case hg=>rfl);(case hr=>first|(go_simp;done)|(go_simp;rfl));intro gb126 hg w51 hbox hb;have n0_:=mA (rB (by (with_reducible repeat (first|apply rA|apply rN|apply rD));exact HO_107001.out) hb);have n1_:=mA (rB (by (with_reducible repeat (first|apply rA|apply rN|apply rD));exact HO_113001.out) hb);have n2_:=mA (rB (by (with_reducible repeat (first|apply rA|apply rN|apply rD));exact HO_119001.out) hb);have n3_:=mA (rB (by (with_reducible repeat (first|apply rA|apply rN|apply rD));exact HO124.out) hb);have n4_:=mA (blk_below (g:=gb106) (o:=.cells #[.int .i64 t102,.slice Ao10 t103.length co10] 50 (0,0)) (by (with_reducible repeat (first|refine kN ?_ _|refine kD ?_|refine kA ?_ _));exact BK106.out) hb);have n5_:=mA (blk_below (g:=gb112) (o:=.cells #[.int .i64 t107,.slice Ao15 t108.length co15] 50 (0,0)) (by (with_reducible repeat (first|refine kN ?_ _|refine kD ?_|refine kA ?_ _));exact BK112.out) hb);have n6_:=mA (blk_below (g:=gb118) (o:=.cells #[.int .i64 t113,.slice Ao22 t114.length co22] 50 (0,0)) (by (with_reducible repeat (first|refine kN ?_ _|refine kD ?_|refine kA ?_ _));exact BK118.out) hb);have n7_:=mA (bT (by repeat (first|(with_reducible first|exact HB.out|apply bA|apply bN|apply bD|refine bS ?_ GE106.out|refine bS ?_ GE112.out|refine bS ?_ GE118.out)|exact HB.out)) hb);have n8_:=mA (hbox);have n9_:=mA ((by rw [hg];exact (bZ (by repeat (first|(with_reducible first|exact HB.out|apply bA|apply bN|apply bD|refine bS ?_ GE106.out|refine bS ?_ GE112.out|refine bS ?_ GE118.out)|exact HB.out))):w.heap.size≤gb126));have n10_:=mA ((by rw [hg];exact (bZ (by repeat (first|(with_reducible first|exact HB.out|apply bA|apply bN|apply bD|refine bS ?_ GE106.out|refine bS ?_ GE112.out|refine bS ?_ GE118.out)|exact HB.out))):w.heap.size≤gb126));have n11_:=mA ((by rw [hg];exact Nat.ne_of_lt (blk_lt (g:=gb106) (o:=.cells #[.int .i64 t102,.slice Ao10 t103.length co10] 50 (0,0)) (by (with_reducible repeat (first|refine kN ?_ _|refine kD ?_|refine kA ?_ _));exact BK106.out)):gb106≠gb126));have n12_:=mA ((by rw [hg];exact Nat.ne_of_gt (blk_lt (g:=gb106) (o:=.cells #[.int .i64 t102,.slice Ao10 t103.length co10] 50 (0,0)) (by (with_reducible repeat (first|refine kN ?_ _|refine kD ?_|refine kA ?_ _));exact BK106.out)):gb126≠gb106));have n13_:=mA ((by rw [hg];exact Nat.ne_of_lt (blk_lt (g:=gb112) (o:=.cells #[.int .i64 t107,.slice Ao15 t108.length co15] 50 (0,0)) (by (with_reducible repeat (first|refine kN ?_ _|refine kD ?_|refine kA ?_ _));exact BK112.out)):gb112≠gb126));have n14_:=mA ((by rw [hg];exact Nat.ne_of_gt (blk_lt (g:=gb112) (o:=.cells #[.int .i64 t107,.slice Ao15 t108.length co15] 50 (0,0)) (by (with_reducible repeat (first|refine kN ?_ _|refine kD ?_|refine kA ?_ _));exact BK112.out)):gb126≠gb112));have n15_:=mA ((by rw [hg];exact Nat.ne_of_lt (blk_lt (g:=gb118) (o:=.cells #[.int .i64 t113,.slice Ao22 t114.length co22] 50 (0,0)) (by (with_reducible repeat (first|refine kN ?_ _|refine kD ?_|refine kA ?_ _));exact BK118.out)):gb118≠gb126));have n16_:=mA ((by rw [hg];exact Nat.ne_of_gt (blk_lt (g:=gb118) (o:=.cells #[.int .i64 t113,.slice Ao22 t114.length co22] 50 (0,0)) (by (with_reducible repeat (first|refine kN ?_ _|refine kD ?_|refine kA ?_ _));exact BK118.out)):gb126≠gb118));clear HO_107001 HO_113001 HO_119001 HO124 BK106 BK112 BK118 HB;have HO_107001:=n0_;have HO_113001:=n1_;have HO_119001:=n2_;have HO124:=n3_;have BK106:=n4_;have BK112:=n5_;have BK118:=n6_;have HB:=n7_;have BK126:=n8_;have GW126:=n9_;have GE126:=n10_;have NB106_126:=n11_;have NB126_106:=n12_;have NB112_126:=n13_;have NB126_112:=n14_;have NB118_126:=n15_;have NB126_118:=n16_;clear n0_ n1_ n2_ n3_ n4_ n5_ n6_ n7_ n8_ n9_ n10_ n11_ n12_ n13_ n14_ n15_ n16_ hb hbox hg;have hnb52:=NB126_106.out;have hnc52:=NB106_126.out;have hnb53:=NB126_112.out;have hnc53:=NB112_126.out;have hnb54:=NB126_118.out;have hnc54:=NB118_126.out;have hcz55_0:w51.cell? ⟨gb126,0,none⟩=some (.int .i64 0):=(kC BK126.out 0).trans rfl;have hcz55_1:w51.cell? ⟨gb126,1,none⟩=some (.slice none 0 0):=(kC BK126.out 1).trans rfl;have hfz55_0:=kF BK126.out 0;have hfz55_1:=kF BK126.out 1;obtain ⟨Ao56,co56,eo56⟩:=Kd.R_slice HO124.out;subst eo56))
          have n0_:Aside0 (Kd.R k52 52 ((w51.setCell ⟨gb126,0,none⟩ (.int .i64 t121)).setCell ⟨gb126,1,none⟩ (.slice Ao56 t122.length co56)) w.heap.size (fun k_=>some k_≠(.slice Ao15 t108.length co15:Value).ownBlock∧some k_≠(.slice Ao22 t114.length co22:Value).ownBlock∧some k_≠(.slice Ao56 t122.length co56:Value).ownBlock) (.slice Ao10 t103.length co10) t103):=⟨by (with_reducible repeat (first|apply rA|apply rN|apply rD));exact rM (rF (p:=⟨gb126,1,none⟩) (rF (p:=⟨gb126,0,none⟩) (Kd.R_types HO_107001.out BK126.out (by decide)) (fun _ hk=>hk.2) (.int .i64 t121)) (fun _ hk=>hk.2) (.slice Ao56 t122.length co56)) (fun _ hk=>⟨hk.1.1.1,⟨hk.1.1.2,hk.1.2⟩⟩)⟩
          have n1_:Aside0 (Kd.R k52 52 ((w51.setCell ⟨gb126,0,none⟩ (.int .i64 t121)).setCell ⟨gb126,1,none⟩ (.slice Ao56 t122.length co56)) w.heap.size (fun k_=>some k_≠(.slice Ao10 t103.length co10:Value).ownBlock∧some k_≠(.slice Ao22 t114.length co22:Value).ownBlock∧some k_≠(.slice Ao56 t122.length co56:Value).ownBlock) (.slice Ao15 t108.length co15) t108):=⟨by (with_reducible repeat (first|apply rA|apply rN|apply rD));exact rM (rF (p:=⟨gb126,1,none⟩) (rF (p:=⟨gb126,0,none⟩) (Kd.R_types HO_113001.out BK126.out (by decide)) (fun _ hk=>hk.2) (.int .i64 t121)) (fun _ hk=>hk.2) (.slice Ao56 t122.length co56)) (fun _ hk=>⟨hk.1.1.1,⟨hk.1.1.2,hk.1.2⟩⟩)⟩
          have n2_:Aside0 (Kd.R k52 52 ((w51.setCell ⟨gb126,0,none⟩ (.int .i64 t121)).setCell ⟨gb126,1,none⟩ (.slice Ao56 t122.length co56)) w.heap.size (fun k_=>some k_≠(.slice Ao10 t103.length co10:Value).ownBlock∧some k_≠(.slice Ao15 t108.length co15:Value).ownBlock∧some k_≠(.slice Ao56 t122.length co56:Value).ownBlock) (.slice Ao22 t114.length co22) t114):=⟨by (with_reducible repeat (first|apply rA|apply rN|apply rD));exact rM (rF (p:=⟨gb126,1,none⟩) (rF (p:=⟨gb126,0,none⟩) (Kd.R_types HO_119001.out BK126.out (by decide)) (fun _ hk=>hk.2) (.int .i64 t121)) (fun _ hk=>hk.2) (.slice Ao56 t122.length co56)) (fun _ hk=>⟨hk.1.1.1,⟨hk.1.1.2,hk.1.2⟩⟩)⟩
          have n3_:Aside0 (Kd.R k52 52 ((w51.setCell ⟨gb126,0,none⟩ (.int .i64 t121)).setCell ⟨gb126,1,none⟩ (.slice Ao56 t122.length co56)) w.heap.size (fun k_=>some k_≠(.slice Ao10 t103.length co10:Value).ownBlock∧some k_≠(.slice Ao15 t108.length co15:Value).ownBlock∧some k_≠(.slice Ao22 t114.length co22:Value).ownBlock) (.slice Ao56 t122.length co56) t122):=⟨by (with_reducible repeat (first|apply rA|apply rN|apply rD));exact rM (rF (p:=⟨gb126,1,none⟩) (rF (p:=⟨gb126,0,none⟩) (Kd.R_types HO124.out BK126.out (by decide)) (fun _ hk=>hk.2) (.int .i64 t121)) (fun _ hk=>hk.2) (.slice Ao56 t122.length co56)) (fun _ hk=>⟨hk.1.1.1.2,⟨hk.1.1.2,hk.1.2⟩⟩)⟩
          have n4_:Aside0 (((w51.setCell ⟨gb126,0,none⟩ (.int .i64 t121)).setCell ⟨gb126,1,none⟩ (.slice Ao56 t122.length co56)).heap[gb106]?=some (.cells #[.int .i64 t102,.slice Ao10 t103.length co10] 50 (0,0))):=⟨by (with_reducible repeat (first|refine kN ?_ _|refine kD ?_|refine kA ?_ _));refine blk_far ?_ NB106_126.out _;(with_reducible repeat (first|refine kN ?_ _|refine kD ?_|refine kA ?_ _));refine blk_far ?_ NB106_126.out _;(with_reducible repeat (first|refine kN ?_ _|refine kD ?_|refine kA ?_ _));exact BK106.out⟩
          have n5_:Aside0 (((w51.setCell ⟨gb126,0,none⟩ (.int .i64 t121)).setCell ⟨gb126,1,none⟩ (.slice Ao56 t122.length co56)).heap[gb112]?=some (.cells #[.int .i64 t107,.slice Ao15 t108.length co15] 50 (0,0))):=⟨by (with_reducible repeat (first|refine kN ?_ _|refine kD ?_|refine kA ?_ _));refine blk_far ?_ NB112_126.out _;(with_reducible repeat (first|refine kN ?_ _|refine kD ?_|refine kA ?_ _));refine blk_far ?_ NB112_126.out _;(with_reducible repeat (first|refine kN ?_ _|refine kD ?_|refine kA ?_ _));exact BK112.out⟩
          have n6_:Aside0 (((w51.setCell ⟨gb126,0,none⟩ (.int .i64 t121)).setCell ⟨gb126,1,none⟩ (.slice Ao56 t122.length co56)).heap[gb118]?=some (.cells #[.int .i64 t113,.slice Ao22 t114.length co22] 50 (0,0))):=⟨by (with_reducible repeat (first|refine kN ?_ _|refine kD ?_|refine kA ?_ _));refine blk_far ?_ NB118_126.out _;(with_reducible repeat (first|refine kN ?_ _|refine kD ?_|refine kA ?_ _));refine blk_far ?_ NB118_126.out _;(with_reducible repeat (first|refine kN ?_ _|refine kD ?_|refine kA ?_ _));exact BK118.out⟩
          have n7_:Aside0 (((w51.setCell ⟨gb126,0,none⟩ (.int .i64 t121)).setCell ⟨gb126,1,none⟩ (.slice Ao56 t122.length co56)).heap[gb126]?=some (.cells #[.int .i64 t121,.slice Ao56 t122.length co56] 50 (0,0))):=⟨by (with_reducible repeat (first|refine kN ?_ _|refine kD ?_|refine kA ?_ _));refine blk_put (cs:=#[.int .i64 t121,.slice none 0 0]) ?_ 1 _ rfl;(with_reducible repeat (first|refine kN ?_ _|refine kD ?_|refine kA ?_ _));refine blk_put (cs:=#[.int .i64 0,.slice none 0 0]) ?_ 0 _ rfl;(with_reducible repeat (first|refine kN ?_ _|refine kD ?_|refine kA ?_ _));exact BK126.out⟩
          have n8_:Aside0 (Below w.heap.size w ((w51.setCell ⟨gb126,0,none⟩ (.int .i64 t121)).setCell ⟨gb126,1,none⟩ (.slice Ao56 t122.length co56))):=⟨by repeat (first|(with_reducible first|exact HB.out|apply bA|apply bN|apply bD|refine bS ?_ GE106.out|refine bS ?_ GE112.out|refine bS ?_ GE118.out|refine bS ?_ GE126.out)|exact HB.out)⟩
          (try clear HO_107001)
          (try clear HO_113001)
          (try clear HO_119001)
          (try clear HO124)
          (try clear BK106)
          (try clear BK112)
          (try clear BK118)
          (try clear BK126)
          (try clear HB)
          generalize ((w51.setCell ⟨gb126,0,none⟩ (.int .i64 t121)).setCell ⟨gb126,1,none⟩ (.slice Ao56 t122.length co56))=w57 at n0_ n1_ n2_ n3_ n4_ n5_ n6_ n7_ n8_ ⊢
          have HO_107001:=n0_
          have HO_113001:=n1_
          have HO_119001:=n2_
          have HO124:=n3_
          have BK106:=n4_
          have BK112:=n5_
          have BK118:=n6_
          have BK126:=n7_
          have HB:=n8_
          clear n0_ n1_ n2_ n3_ n4_ n5_ n6_ n7_ n8_
          have n0_:=mA (rD HO_107001.out)
          have n1_:=mA (rD HO_113001.out)
          have n2_:=mA (rD HO_119001.out)
          have n3_:=mA (rD HO124.out)
          have n4_:=mA (kD BK106.out)
          have n5_:=mA (kD BK112.out)
          have n6_:=mA (kD BK118.out)
          have n7_:=mA (kD BK126.out)
          have n8_:=mA (bD HB.out)
          clear HO_107001
          clear HO_113001
          clear HO_119001
          clear HO124
          clear BK106
          clear BK112
          clear BK118
          clear BK126
          clear HB
          have HO_107001:=n0_
          have HO_113001:=n1_
          have HO_119001:=n2_
          have HO124:=n3_
          have BK106:=n4_
          have BK112:=n5_
          have BK118:=n6_
          have BK126:=n7_
          have HB:=n8_
          clear n0_ n1_ n2_ n3_ n4_ n5_ n6_ n7_ n8_
          refine start_ (n:=34) (S:=fun w'=>w'.cell? ⟨gb112,0,none⟩=some (.int .i64 t107)∧w'.cell? ⟨gb112,1,none⟩=some (.slice Ao15 t108.length co15)∧w'.cell? ⟨gb106,0,none⟩=some (.int .i64 t102)∧w'.cell? ⟨gb106,1,none⟩=some (.slice Ao10 t103.length co10)∧w'.cell? ⟨gb126,0,none⟩=some (.int .i64 t121)∧w'.cell? ⟨gb126,1,none⟩=some (.slice Ao56 t122.length co56)) (ds:=[]) #[O,O,O,O,O,O,O,O,O,O,O,O,O,O,O,O,O,O,O,O,O,O,O,O,O,O,O,O,O,O,O,O,O,O] (by kernel_rfl) rfl rfl ⟨(kC BK112.out 0).trans rfl,(kC BK112.out 1).trans rfl,(kC BK106.out 0).trans rfl,(kC BK106.out 1).trans rfl,(kC BK126.out 0).trans rfl,(kC BK126.out 1).trans rfl⟩ (fun hHeld=>?_);refine with_tabW laws_FnDenyClaim.tab11 laws_FnDenyClaim.bits11 (fun HT_ HW_=>?_)
          generalize w57.drew=w58 at HO_107001 HO_113001 HO_119001 HO124 BK106 BK112 BK118 BK126 HB hHeld ⊢
          refine pure_ (i:=0) (N:=some 60) (v:=?_) (a':=?_) #[I,O,O,O,O,O,O,O,O,O,O,O,O,O,O,O,O,O,O,O,O,O,O,O,O,O,O,O,O,O,O,O,O,O] rfl rfl (any_of HT_.out (by kernel_rfl)) (fun _ _ _ h=>h) (Or.inl ⟨by rfl,?_⟩) ?_ ?_
          rotate_left
          ·intro w'
           go_simp
           with_reducible rfl
          rotate_left
          ·simp only [Act.put,sA,sZ,sS,i64_w,i32_w]
           rfl
          refine take_ (i:=1) (N:=some 61) (v:=?_) (a':=?_) #[I,I,O,O,O,O,O,O,O,O,O,O,O,O,O,O,O,O,O,O,O,O,O,O,O,O,O,O,O,O,O,O,O,O] rfl rfl (take_ofW HT_.out HW_.out (by kernel_rfl)) (fun _ _ _ h=>h) (Or.inl ⟨by rfl,?_⟩) hHeld ?_ ?_
          rotate_left
          ·rintro w' ⟨s0,s1,s2,s3,s4,s5⟩
           go_simp
           with_reducible rfl
          rotate_left
          ·simp only [Act.put,sA,sZ,sS,i64_w,i32_w]
           rfl
          refine one_ (i:=2) (N:=some 62) #[I,I,I,O,O,O,O,O,O,O,O,O,O,O,O,O,O,O,O,O,O,O,O,O,O,O,O,O,O,O,O,O,O,O] rfl rfl (one_of HT_.out (by kernel_rfl)) (by decide) (fun K hK=>?_)
          refine goes_ Try.func77 (by kernel_rfl) rfl #[.int .i64 t101,.agg #[.int .i64 t107,.slice Ao15 t108.length co15]] (by rfl) rfl rfl (by (try simp only [mT,mC,mN]);first|done|rfl|(simp only [lD,lT];rfl)) ?_
          with_reducible refine (impl_ClaimOk.calls kj5 t101 t107 _ _ t108 true _ ?side1 ?side2 A40.out).mono ?_
          (case side1=>repeat (first|exact (rR HO_113001.out).2.2|(with_reducible refine cA ?_ _)|(with_reducible refine cN ?_ _)|(with_reducible refine cD ?_)))
          (case side2=>exact (rR HO_113001.out).2.1)
          rintro e w59 ⟨rfl,hb⟩
          refine ⟨_,rfl,?_⟩
          have n0_:=mA (rB (by (with_reducible repeat (first|apply rA|apply rN|apply rD));exact HO_107001.out) hb)
          have n1_:=mA (rB (by (with_reducible repeat (first|apply rA|apply rN|apply rD));exact HO_113001.out) hb)
          have n2_:=mA (rB (by (with_reducible repeat (first|apply rA|apply rN|apply rD));exact HO_119001.out) hb)
          have n3_:=mA (rB (by (with_reducible repeat (first|apply rA|apply rN|apply rD));exact HO124.out) hb)
          have n4_:=mA (blk_below (g:=gb106) (o:=.cells #[.int .i64 t102,.slice Ao10 t103.length co10] 50 (0,0)) (by (with_reducible repeat (first|refine kN ?_ _|refine kD ?_|refine kA ?_ _));exact BK106.out) hb)
          have n5_:=mA (blk_below (g:=gb112) (o:=.cells #[.int .i64 t107,.slice Ao15 t108.length co15] 50 (0,0)) (by (with_reducible repeat (first|refine kN ?_ _|refine kD ?_|refine kA ?_ _));exact BK112.out) hb)
          have n6_:=mA (blk_below (g:=gb118) (o:=.cells #[.int .i64 t113,.slice Ao22 t114.length co22] 50 (0,0)) (by (with_reducible repeat (first|refine kN ?_ _|refine kD ?_|refine kA ?_ _));exact BK118.out) hb)
          have n7_:=mA (blk_below (g:=gb126) (o:=.cells #[.int .i64 t121,.slice Ao56 t122.length co56] 50 (0,0)) (by (with_reducible repeat (first|refine kN ?_ _|refine kD ?_|refine kA ?_ _));exact BK126.out) hb)
          have n8_:=mA (bT (by repeat (first|(with_reducible first|exact HB.out|apply bA|apply bN|apply bD|refine bS ?_ GE106.out|refine bS ?_ GE112.out|refine bS ?_ GE118.out|refine bS ?_ GE126.out)|exact HB.out)) hb)
          clear HO_107001
          clear HO_113001
          clear HO_119001
          clear HO124
          clear BK106
          clear BK112
          clear BK118
          clear BK126
          clear HB
          have HO_107001:=n0_
          have HO_113001:=n1_
          have HO_119001:=n2_
          have HO124:=n3_
          have BK106:=n4_
          have BK112:=n5_
          have BK118:=n6_
          have BK126:=n7_
          have HB:=n8_
          clear n0_ n1_ n2_ n3_ n4_ n5_ n6_ n7_ n8_
          (try clear hb)
          (try clear hb2)
          (try clear hk)
          (try clear hi)
          refine hK.out _ _ ⟨(kC BK112.out 0).trans rfl,(kC BK112.out 1).trans rfl,(kC BK106.out 0).trans rfl,(kC BK106.out 1).trans rfl,(kC BK126.out 0).trans rfl,(kC BK126.out 1).trans rfl⟩ (fun hHeld=>?_)
          clear hK K
          refine norm_ (a':=?_) ?_ ?_
          rotate_left
          ·show Act.put _ (some 62) _=_
           simp only [Act.put,sA,sZ,sS,i64_w,i32_w]
           rfl
          refine pure_ (i:=3) (N:=some 63) (v:=?_) (a':=?_) #[I,I,I,I,O,O,O,O,O,O,O,O,O,O,O,O,O,O,O,O,O,O,O,O,O,O,O,O,O,O,O,O,O,O] rfl rfl (any_of HT_.out (by kernel_rfl)) (fun _ _ _ h=>h) (Or.inl ⟨by rfl,?_⟩) ?_ ?_
          rotate_left
          ·intro w'
           go_simp
           with_reducible rfl
          rotate_left
          ·simp only [Act.put,sA,sZ,sS,i64_w,i32_w]
           rfl
          refine pure_ (i:=4) (N:=some 64) (v:=?_) (a':=?_) #[I,I,I,I,I,O,O,O,O,O,O,O,O,O,O,O,O,O,O,O,O,O,O,O,O,O,O,O,O,O,O,O,O,O] rfl rfl (any_of HT_.out (by kernel_rfl)) (fun _ _ _ h=>h) (Or.inl ⟨by rfl,?_⟩) ?_ ?_
          rotate_left
          ·intro w'
           go_simp
           with_reducible rfl
          rotate_left
          ·simp only [Act.put,sA,sZ,sS,i64_w,i32_w]
           rfl
          refine pure_ (i:=6) (N:=some 66) (v:=?_) (a':=?_) #[I,I,I,I,I,O,I,O,O,O,O,O,O,O,O,O,O,O,O,O,O,O,O,O,O,O,O,O,O,O,O,O,O,O] rfl rfl (any_of HT_.out (by kernel_rfl)) (fun _ _ _ h=>h) (Or.inl ⟨by rfl,?_⟩) ?_ ?_
          rotate_left
          ·intro w'
           go_simp
           with_reducible rfl
          rotate_left
          ·simp only [Act.put,sA,sZ,sS,i64_w,i32_w]
           rfl
          refine take_ (i:=5) (N:=some 65) (v:=?_) (a':=?_) #[I,I,I,I,I,I,I,O,O,O,O,O,O,O,O,O,O,O,O,O,O,O,O,O,O,O,O,O,O,O,O,O,O,O] rfl rfl (take_ofW HT_.out HW_.out (by kernel_rfl)) (fun _ _ _ h=>h) (Or.inl ⟨by rfl,?_⟩) hHeld ?_ ?_
          rotate_left
          ·rintro w' ⟨s0,s1,s2,s3,s4,s5⟩
           go_simp
           with_reducible rfl
          rotate_left
          ·simp only [Act.put,sA,sZ,sS,i64_w,i32_w]
           rfl
          refine take_ (i:=7) (N:=some 67) (v:=?_) (a':=?_) #[I,I,I,I,I,I,I,I,O,O,O,O,O,O,O,O,O,O,O,O,O,O,O,O,O,O,O,O,O,O,O,O,O,O] rfl rfl (take_ofW HT_.out HW_.out (by kernel_rfl)) (fun _ _ _ h=>h) (Or.inl ⟨by rfl,?_⟩) hHeld ?_ ?_
          rotate_left
          ·rintro w' ⟨s0,s1,s2,s3,s4,s5⟩
           go_simp
           with_reducible rfl
          rotate_left
          ·simp only [Act.put,sA,sZ,sS,i64_w,i32_w]
           rfl
          refine pure_ (i:=8) (N:=some 68) (v:=?_) (a':=?_) #[I,I,I,I,I,I,I,I,I,O,O,O,O,O,O,O,O,O,O,O,O,O,O,O,O,O,O,O,O,O,O,O,O,O] rfl rfl (any_of HT_.out (by kernel_rfl)) (fun _ _ _ h=>h) (Or.inl ⟨by rfl,?_⟩) ?_ ?_
          rotate_left
          ·intro w'
           go_simp
           with_reducible rfl
          rotate_left
          ·simp only [Act.put,sA,sZ,sS,i64_w,i32_w]
           rfl
          refine pure_ (i:=9) (N:=some 69) (v:=?_) (a':=?_) #[I,I,I,I,I,I,I,I,I,I,O,O,O,O,O,O,O,O,O,O,O,O,O,O,O,O,O,O,O,O,O,O,O,O] rfl rfl (any_of HT_.out (by kernel_rfl)) (fun _ _ _ h=>h) (Or.inl ⟨by rfl,?_⟩) ?_ ?_
          rotate_left
          ·intro w'
           go_simp
           with_reducible rfl
          rotate_left
          ·simp only [Act.put,sA,sZ,sS,i64_w,i32_w]
           rfl
          refine pure_ (i:=10) (N:=some 70) (v:=?_) (a':=?_) #[I,I,I,I,I,I,I,I,I,I,I,O,O,O,O,O,O,O,O,O,O,O,O,O,O,O,O,O,O,O,O,O,O,O] rfl rfl (any_of HT_.out (by kernel_rfl)) (fun _ _ _ h=>h) (Or.inl ⟨by rfl,?_⟩) ?_ ?_
          rotate_left
          ·intro w'
           go_simp
           with_reducible rfl
          rotate_left
          ·simp only [Act.put,sA,sZ,sS,i64_w,i32_w]
           rfl
          refine pure_ (i:=11) (N:=some 71) (v:=?_) (a':=?_) #[I,I,I,I,I,I,I,I,I,I,I,I,O,O,O,O,O,O,O,O,O,O,O,O,O,O,O,O,O,O,O,O,O,O] rfl rfl (any_of HT_.out (by kernel_rfl)) (fun _ _ _ h=>h) (Or.inl ⟨by rfl,?_⟩) ?_ ?_
          rotate_left
          ·intro w'
           go_simp
           with_reducible rfl
          rotate_left
          ·simp only [Act.put,sA,sZ,sS,i64_w,i32_w]
           rfl
          refine pure_ (i:=14) (N:=some 74) (v:=?_) (a':=?_) #[I,I,I,I,I,I,I,I,I,I,I,I,O,O,I,O,O,O,O,O,O,O,O,O,O,O,O,O,O,O,O,O,O,O] rfl rfl (any_of HT_.out (by kernel_rfl)) (fun _ _ _ h=>h) (Or.inl ⟨by rfl,?_⟩) ?_ ?_
          rotate_left
          ·intro w'
           go_simp
           with_reducible rfl
          rotate_left
          ·simp only [Act.put,sA,sZ,sS,i64_w,i32_w]
           rfl
          refine take_ (i:=12) (N:=some 72) (v:=?_) (a':=?_) #[I,I,I,I,I,I,I,I,I,I,I,I,I,O,I,O,O,O,O,O,O,O,O,O,O,O,O,O,O,O,O,O,O,O] rfl rfl (take_ofW HT_.out HW_.out (by kernel_rfl)) (fun _ _ _ h=>h) (Or.inl ⟨by rfl,?_⟩) hHeld ?_ ?_
          rotate_left
          ·rintro w' ⟨s0,s1,s2,s3,s4,s5⟩
           go_simp
           with_reducible rfl
          rotate_left
          ·simp only [Act.put,sA,sZ,sS,i64_w,i32_w]
           rfl
          refine pure_ (i:=13) (N:=some 73) (v:=?_) (a':=?_) #[I,I,I,I,I,I,I,I,I,I,I,I,I,I,I,O,O,O,O,O,O,O,O,O,O,O,O,O,O,O,O,O,O,O] rfl rfl (any_of HT_.out (by kernel_rfl)) (fun _ _ _ h=>h) (Or.inl ⟨by rfl,?_⟩) ?_ ?_
          rotate_left
          ·intro w'
           go_simp
           with_reducible rfl
          rotate_left
          ·simp only [Act.put,sA,sZ,sS,i64_w,i32_w]
           rfl
          refine take_ (i:=15) (N:=some 75) (v:=?_) (a':=?_) #[I,I,I,I,I,I,I,I,I,I,I,I,I,I,I,I,O,O,O,O,O,O,O,O,O,O,O,O,O,O,O,O,O,O] rfl rfl (take_ofW HT_.out HW_.out (by kernel_rfl)) (fun _ _ _ h=>h) (Or.inl ⟨by rfl,?_⟩) hHeld ?_ ?_
          rotate_left
          ·rintro w' ⟨s0,s1,s2,s3,s4,s5⟩
           go_simp
           with_reducible rfl
          rotate_left
          ·simp only [Act.put,sA,sZ,sS,i64_w,i32_w]
           rfl
          refine pure_ (i:=16) (N:=some 76) (v:=?_) (a':=?_) #[I,I,I,I,I,I,I,I,I,I,I,I,I,I,I,I,I,O,O,O,O,O,O,O,O,O,O,O,O,O,O,O,O,O] rfl rfl (any_of HT_.out (by kernel_rfl)) (fun _ _ _ h=>h) (Or.inl ⟨by rfl,?_⟩) ?_ ?_
          rotate_left
          ·intro w'
           go_simp
           with_reducible rfl
          rotate_left
          ·simp only [Act.put,sA,sZ,sS,i64_w,i32_w]
           rfl
          refine pure_ (i:=17) (N:=some 77) (v:=?_) (a':=?_) #[I,I,I,I,I,I,I,I,I,I,I,I,I,I,I,I,I,I,O,O,O,O,O,O,O,O,O,O,O,O,O,O,O,O] rfl rfl (any_of HT_.out (by kernel_rfl)) (fun _ _ _ h=>h) (Or.inl ⟨by rfl,?_⟩) ?_ ?_
          rotate_left
          ·intro w'
           go_simp
           with_reducible rfl
          rotate_left
          ·simp only [Act.put,sA,sZ,sS,i64_w,i32_w]
           rfl
          refine pure_ (i:=18) (N:=some 78) (v:=?_) (a':=?_) #[I,I,I,I,I,I,I,I,I,I,I,I,I,I,I,I,I,I,I,O,O,O,O,O,O,O,O,O,O,O,O,O,O,O] rfl rfl (any_of HT_.out (by kernel_rfl)) (fun _ _ _ h=>h) (Or.inl ⟨by rfl,?_⟩) ?_ ?_
          rotate_left
          ·intro w'
           go_simp
           with_reducible rfl
          rotate_left
          ·simp only [Act.put,sA,sZ,sS,i64_w,i32_w]
           rfl
          refine pure_ (i:=19) (N:=some 79) (v:=?_) (a':=?_) #[I,I,I,I,I,I,I,I,I,I,I,I,I,I,I,I,I,I,I,I,O,O,O,O,O,O,O,O,O,O,O,O,O,O] rfl rfl (any_of HT_.out (by kernel_rfl)) (fun _ _ _ h=>h) (Or.inl ⟨by rfl,?_⟩) ?_ ?_
          rotate_left
          ·intro w'
           go_simp
           with_reducible rfl
          rotate_left
          ·simp only [Act.put,sA,sZ,sS,i64_w,i32_w]
           rfl
          refine pure_ (i:=20) (N:=some 80) (v:=?_) (a':=?_) #[I,I,I,I,I,I,I,I,I,I,I,I,I,I,I,I,I,I,I,I,I,O,O,O,O,O,O,O,O,O,O,O,O,O] rfl rfl (any_of HT_.out (by kernel_rfl)) (fun _ _ _ h=>h) (Or.inl ⟨by rfl,?_⟩) ?_ ?_
          rotate_left
          ·intro w'
           go_simp
           with_reducible rfl
          rotate_left
          ·simp only [Act.put,sA,sZ,sS,i64_w,i32_w]
           rfl
          refine pure_ (i:=21) (N:=some 81) (v:=?_) (a':=?_) #[I,I,I,I,I,I,I,I,I,I,I,I,I,I,I,I,I,I,I,I,I,I,O,O,O,O,O,O,O,O,O,O,O,O] rfl rfl (any_of HT_.out (by kernel_rfl)) (fun _ _ _ h=>h) (Or.inl ⟨by rfl,?_⟩) ?_ ?_
          rotate_left
          ·intro w'
           go_simp
           with_reducible rfl
          rotate_left
          ·simp only [Act.put,sA,sZ,sS,i64_w,i32_w]
           rfl
          refine pure_ (i:=22) (N:=some 82) (v:=?_) (a':=?_) #[I,I,I,I,I,I,I,I,I,I,I,I,I,I,I,I,I,I,I,I,I,I,I,O,O,O,O,O,O,O,O,O,O,O] rfl rfl (any_of HT_.out (by kernel_rfl)) (fun _ _ _ h=>h) (Or.inl ⟨by rfl,?_⟩) ?_ ?_
          rotate_left
          ·intro w'
           go_simp
           with_reducible rfl
          rotate_left
          ·simp only [Act.put,sA,sZ,sS,i64_w,i32_w]
           rfl
          refine pure_ (i:=23) (N:=some 83) (v:=?_) (a':=?_) #[I,I,I,I,I,I,I,I,I,I,I,I,I,I,I,I,I,I,I,I,I,I,I,I,O,O,O,O,O,O,O,O,O,O] rfl rfl (any_of HT_.out (by kernel_rfl)) (fun _ _ _ h=>h) (Or.inl ⟨by rfl,?_⟩) ?_ ?_
          rotate_left
          ·intro w'
           go_simp
           with_reducible rfl
          rotate_left
          ·simp only [Act.put,sA,sZ,sS,i64_w,i32_w]
           rfl
          refine pure_ (i:=24) (N:=some 84) (v:=?_) (a':=?_) #[I,I,I,I,I,I,I,I,I,I,I,I,I,I,I,I,I,I,I,I,I,I,I,I,I,O,O,O,O,O,O,O,O,O] rfl rfl (any_of HT_.out (by kernel_rfl)) (fun _ _ _ h=>h) (Or.inl ⟨by rfl,?_⟩) ?_ ?_
          rotate_left
          ·intro w'
           go_simp
           with_reducible rfl
          rotate_left
          ·simp only [Act.put,sA,sZ,sS,i64_w,i32_w]
           rfl
          refine pure_ (i:=27) (N:=some 87) (v:=?_) (a':=?_) #[I,I,I,I,I,I,I,I,I,I,I,I,I,I,I,I,I,I,I,I,I,I,I,I,I,O,O,I,O,O,O,O,O,O] rfl rfl (any_of HT_.out (by kernel_rfl)) (fun _ _ _ h=>h) (Or.inl ⟨by rfl,?_⟩) ?_ ?_
          rotate_left
          ·intro w'
           go_simp
           with_reducible rfl
          rotate_left
          ·simp only [Act.put,sA,sZ,sS,i64_w,i32_w]
           rfl
          refine take_ (i:=25) (N:=some 85) (v:=?_) (a':=?_) #[I,I,I,I,I,I,I,I,I,I,I,I,I,I,I,I,I,I,I,I,I,I,I,I,I,I,O,I,O,O,O,O,O,O] rfl rfl (take_ofW HT_.out HW_.out (by kernel_rfl)) (fun _ _ _ h=>h) (Or.inl ⟨by rfl,?_⟩) hHeld ?_ ?_
          rotate_left
          ·rintro w' ⟨s0,s1,s2,s3,s4,s5⟩
           go_simp
           with_reducible rfl
          rotate_left
          ·simp only [Act.put,sA,sZ,sS,i64_w,i32_w]
           rfl
          refine take_ (i:=28) (N:=some 88) (v:=?_) (a':=?_) #[I,I,I,I,I,I,I,I,I,I,I,I,I,I,I,I,I,I,I,I,I,I,I,I,I,I,O,I,I,O,O,O,O,O] rfl rfl (take_ofW HT_.out HW_.out (by kernel_rfl)) (fun _ _ _ h=>h) (Or.inl ⟨by rfl,?_⟩) hHeld ?_ ?_
          rotate_left
          ·rintro w' ⟨s0,s1,s2,s3,s4,s5⟩
           go_simp
           with_reducible rfl
          rotate_left
          ·simp only [Act.put,sA,sZ,sS,i64_w,i32_w]
           rfl
          refine one_ (i:=26) (N:=some 86) #[I,I,I,I,I,I,I,I,I,I,I,I,I,I,I,I,I,I,I,I,I,I,I,I,I,I,I,I,I,O,O,O,O,O] rfl rfl (one_of HT_.out (by kernel_rfl)) (by decide) (fun K hK=>?_)
          refine goes_ Try.func47 (by kernel_rfl) rfl #[.int .i64 t101,.agg #[.int .i64 t121,.slice Ao56 t122.length co56]] (by rfl) rfl rfl (by (try simp only [mT,mC,mN]);first|done|rfl|(simp only [lD,lT];rfl)) ?_
          with_reducible refine (impl_ClaimTable.calls kj5 t101 t121 _ _ t122 t128 _ ?side1 ?side2 A45.out).mono ?_
          (case side1=>repeat (first|exact (rR HO124.out).2.2|(with_reducible refine cA ?_ _)|(with_reducible refine cN ?_ _)|(with_reducible refine cD ?_)))
          (case side2=>exact (rR HO124.out).2.1)
          rintro e w60 ⟨rfl,hb⟩
          refine ⟨_,rfl,?_⟩
          have n0_:=mA (rB (by (with_reducible repeat (first|apply rA|apply rN|apply rD));exact HO_107001.out) hb)
          have n1_:=mA (rB (by (with_reducible repeat (first|apply rA|apply rN|apply rD));exact HO_113001.out) hb)
          have n2_:=mA (rB (by (with_reducible repeat (first|apply rA|apply rN|apply rD));exact HO_119001.out) hb)
          have n3_:=mA (rB (by (with_reducible repeat (first|apply rA|apply rN|apply rD));exact HO124.out) hb)
          have n4_:=mA (blk_below (g:=gb106) (o:=.cells #[.int .i64 t102,.slice Ao10 t103.length co10] 50 (0,0)) (by (with_reducible repeat (first|refine kN ?_ _|refine kD ?_|refine kA ?_ _));exact BK106.out) hb)
          have n5_:=mA (blk_below (g:=gb112) (o:=.cells #[.int .i64 t107,.slice Ao15 t108.length co15] 50 (0,0)) (by (with_reducible repeat (first|refine kN ?_ _|refine kD ?_|refine kA ?_ _));exact BK112.out) hb)
          have n6_:=mA (blk_below (g:=gb118) (o:=.cells #[.int .i64 t113,.slice Ao22 t114.length co22] 50 (0,0)) (by (with_reducible repeat (first|refine kN ?_ _|refine kD ?_|refine kA ?_ _));exact BK118.out) hb)
          have n7_:=mA (blk_below (g:=gb126) (o:=.cells #[.int .i64 t121,.slice Ao56 t122.length co56] 50 (0,0)) (by (with_reducible repeat (first|refine kN ?_ _|refine kD ?_|refine kA ?_ _));exact BK126.out) hb)
          have n8_:=mA (bT (by repeat (first|(with_reducible first|exact HB.out|apply bA|apply bN|apply bD|refine bS ?_ GE106.out|refine bS ?_ GE112.out|refine bS ?_ GE118.out|refine bS ?_ GE126.out)|exact HB.out)) hb)
          clear HO_107001
          clear HO_113001
          clear HO_119001
          clear HO124
          clear BK106
          clear BK112
          clear BK118
          clear BK126
          clear HB
          have HO_107001:=n0_
          have HO_113001:=n1_
          have HO_119001:=n2_
          have HO124:=n3_
          have BK106:=n4_
          have BK112:=n5_
          have BK118:=n6_
          have BK126:=n7_
          have HB:=n8_
          clear n0_ n1_ n2_ n3_ n4_ n5_ n6_ n7_ n8_
          (try clear hb)
          (try clear hb2)
          (try clear hk)
          (try clear hi)
          refine hK.out _ _ ⟨(kC BK112.out 0).trans rfl,(kC BK112.out 1).trans rfl,(kC BK106.out 0).trans rfl,(kC BK106.out 1).trans rfl,(kC BK126.out 0).trans rfl,(kC BK126.out 1).trans rfl⟩ (fun hHeld=>?_)
          clear hK K
          refine norm_ (a':=?_) ?_ ?_
          rotate_left
          ·show Act.put _ (some 86) _=_
           simp only [Act.put,sA,sZ,sS,i64_w,i32_w]
           rfl
          refine one_ (i:=29) (N:=some 89) #[I,I,I,I,I,I,I,I,I,I,I,I,I,I,I,I,I,I,I,I,I,I,I,I,I,I,I,I,I,I,O,O,O,O] rfl rfl (one_of HT_.out (by kernel_rfl)) (by decide) (fun K hK=>?_)
          refine goes_ Try.func47 (by kernel_rfl) rfl #[.int .i64 t101,.agg #[.int .i64 t102,.slice Ao10 t103.length co10]] (by rfl) rfl rfl (by (try simp only [mT,mC,mN]);first|done|rfl|(simp only [lD,lT];rfl)) ?_
          with_reducible refine (impl_ClaimTable.calls kj5 t101 t102 _ _ t103 t129 _ ?side1 ?side2 A46.out).mono ?_
          (case side1=>repeat (first|exact (rR HO_107001.out).2.2|(with_reducible refine cA ?_ _)|(with_reducible refine cN ?_ _)|(with_reducible refine cD ?_)))
          (case side2=>exact (rR HO_107001.out).2.1)
          rintro e w61 ⟨rfl,hb⟩
          refine ⟨_,rfl,?_⟩
          have n0_:=mA (rB (by (with_reducible repeat (first|apply rA|apply rN|apply rD));exact HO_107001.out) hb)
          have n1_:=mA (rB (by (with_reducible repeat (first|apply rA|apply rN|apply rD));exact HO_113001.out) hb)
          have n2_:=mA (rB (by (with_reducible repeat (first|apply rA|apply rN|apply rD));exact HO_119001.out) hb)
          have n3_:=mA (rB (by (with_reducible repeat (first|apply rA|apply rN|apply rD));exact HO124.out) hb)
          have n4_:=mA (blk_below (g:=gb106) (o:=.cells #[.int .i64 t102,.slice Ao10 t103.length co10] 50 (0,0)) (by (with_reducible repeat (first|refine kN ?_ _|refine kD ?_|refine kA ?_ _));exact BK106.out) hb)
          have n5_:=mA (blk_below (g:=gb112) (o:=.cells #[.int .i64 t107,.slice Ao15 t108.length co15] 50 (0,0)) (by (with_reducible repeat (first|refine kN ?_ _|refine kD ?_|refine kA ?_ _));exact BK112.out) hb)
          have n6_:=mA (blk_below (g:=gb118) (o:=.cells #[.int .i64 t113,.slice Ao22 t114.length co22] 50 (0,0)) (by (with_reducible repeat (first|refine kN ?_ _|refine kD ?_|refine kA ?_ _));exact BK118.out) hb)
          have n7_:=mA (blk_below (g:=gb126) (o:=.cells #[.int .i64 t121,.slice Ao56 t122.length co56] 50 (0,0)) (by (with_reducible repeat (first|refine kN ?_ _|refine kD ?_|refine kA ?_ _));exact BK126.out) hb)
          have n8_:=mA (bT (by repeat (first|(with_reducible first|exact HB.out|apply bA|apply bN|apply bD|refine bS ?_ GE106.out|refine bS ?_ GE112.out|refine bS ?_ GE118.out|refine bS ?_ GE126.out)|exact HB.out)) hb)
          clear HO_107001
          clear HO_113001
          clear HO_119001
          clear HO124
          clear BK106
          clear BK112
          clear BK118
          clear BK126
          clear HB
          have HO_107001:=n0_
          have HO_113001:=n1_
          have HO_119001:=n2_
          have HO124:=n3_
          have BK106:=n4_
          have BK112:=n5_
          have BK118:=n6_
          have BK126:=n7_
          have HB:=n8_
          clear n0_ n1_ n2_ n3_ n4_ n5_ n6_ n7_ n8_
          (try clear hb)
          (try clear hb2)
          (try clear hk)
          (try clear hi)
          refine hK.out _ _ ⟨(kC BK112.out 0).trans rfl,(kC BK112.out 1).trans rfl,(kC BK106.out 0).trans rfl,(kC BK106.out 1).trans rfl,(kC BK126.out 0).trans rfl,(kC BK126.out 1).trans rfl⟩ (fun hHeld=>?_)
          clear hK K
          refine norm_ (a':=?_) ?_ ?_
          rotate_left
          ·show Act.put _ (some 89) _=_
           simp only [Act.put,sA,sZ,sS,i64_w,i32_w]
           rfl
          refine pure_ (i:=30) (N:=some 90) (v:=?_) (a':=?_) #[I,I,I,I,I,I,I,I,I,I,I,I,I,I,I,I,I,I,I,I,I,I,I,I,I,I,I,I,I,I,I,O,O,O] rfl rfl (any_of HT_.out (by kernel_rfl)) (fun _ _ _ h=>h) (Or.inl ⟨by rfl,?_⟩) ?_ ?_
          rotate_left
          ·intro w'
           go_simp
           with_reducible rfl
          rotate_left
          ·simp only [Act.put,sA,sZ,sS,i64_w,i32_w]
           rfl
          refine pure_ (i:=31) (N:=some 91) (v:=?_) (a':=?_) #[I,I,I,I,I,I,I,I,I,I,I,I,I,I,I,I,I,I,I,I,I,I,I,I,I,I,I,I,I,I,I,I,O,O] rfl rfl (any_of HT_.out (by kernel_rfl)) (fun _ _ _ h=>h) (Or.inl ⟨by rfl,?_⟩) ?_ ?_
          rotate_left
          ·intro w'
           go_simp
           with_reducible rfl
          rotate_left
          ·simp only [Act.put,sA,sZ,sS,i64_w,i32_w]
           rfl
          refine pure_ (i:=32) (N:=some 92) (v:=?_) (a':=?_) #[I,I,I,I,I,I,I,I,I,I,I,I,I,I,I,I,I,I,I,I,I,I,I,I,I,I,I,I,I,I,I,I,I,O] rfl rfl (any_of HT_.out (by kernel_rfl)) (fun _ _ _ h=>h) (Or.inl ⟨by rfl,?_⟩) ?_ ?_
          rotate_left
          ·intro w'
           go_simp
           with_reducible rfl
          rotate_left
          ·simp only [Act.put,sA,sZ,sS,i64_w,i32_w]
           rfl
          refine pure_ (i:=33) (N:=some 2) (v:=?_) (a':=?_) #[I,I,I,I,I,I,I,I,I,I,I,I,I,I,I,I,I,I,I,I,I,I,I,I,I,I,I,I,I,I,I,I,I,I] rfl rfl (any_of HT_.out (by kernel_rfl)) (fun _ _ _ h=>h) (Or.inl ⟨by rfl,?_⟩) ?_ ?_
          rotate_left
          ·intro w'
           go_simp
           with_reducible rfl
          rotate_left
          ·simp only [Act.put,sA,sZ,sS,i64_w,i32_w]
           rfl
          refine done_ (done_of HT_.out (by kernel_rfl)) ?_
          try go_wp2
          go_ret
          exact ⟨by first|rfl|(simp [errW_none,errW_some]<;>rfl)|(simp [*, errW_none,errW_some]<;>rfl),by repeat (first|(with_reducible first|exact HB.out|apply bA|apply bN|apply bD|refine bS ?_ GE106.out|refine bS ?_ GE112.out|refine bS ?_ GE118.out|refine bS ?_ GE126.out)|exact HB.out)⟩
         ·replace c44:=Bool.eq_false_iff.mpr c44
          subst c44
          have H1:(some true)=some r:=by rw [if_neg (show ¬ (false=true) by decide)] at H;exact H
          clear H
          have H:=H1
          clear H1
          obtain rfl:=Option.some.inj H
          have hnb62:=NB112_106.out
          have hnc62:=NB106_112.out
          have hnb63:=NB112_118.out
          have hnc63:=NB118_112.out
          have hcz64_0:wc.cell? ⟨gb112,0,none⟩=some (.int .i64 t107):=(kC BK112.out 0).trans rfl
          have hcz64_1:wc.cell? ⟨gb112,1,none⟩=some (.slice Ao15 t108.length co15):=(kC BK112.out 1).trans rfl
          have hfz64_0:=kF BK112.out 0
          have hfz64_1:=kF BK112.out 1
          try go_wp2_with (first|((with_reducible refine gate_callee (f:=74) rfl ?_);refine goesL_ (some 57) rfl rfl Try.func74 (by kernel_rfl) rfl #[.int .i64 t101,.agg #[.int .i64 t107,.slice Ao15 t108.length co15]] rfl (by (try simp only [mT,mC,mN]);first|done|rfl|(simp only [lD,lT];rfl)) ?_;(with_reducible refine (impl_DenyClaim.calls kj5 t101 t107 _ _ t108 t121 t122 false _ ?side1 ?side2 A39.out).mono ?_);(case side1=>repeat (first|exact (rR HO_113001.out).2.2|(with_reducible refine cA ?_ _)|(with_reducible refine cN ?_ _)|(with_reducible refine cD ?_)));(case side2=>exact (rR HO_113001.out).2.1);rintro e w65 ⟨v123,rfl,ho0,hb⟩;refine ⟨_,rfl,?_⟩;have n0_:=mA (Kd.R_elder' (by (with_reducible repeat (first|apply rA|apply rN|apply rD));exact HO_107001.out) (Kd.R_base ho0) hb);have n1_:=mA (Kd.R_elder' (by (with_reducible repeat (first|apply rA|apply rN|apply rD));exact HO_113001.out) (Kd.R_base ho0) hb);have n2_:=mA (Kd.R_elder' (by (with_reducible repeat (first|apply rA|apply rN|apply rD));exact HO_119001.out) (Kd.R_base ho0) hb);have n3_:=mA (Kd.R_lower (Kd.R_new' (Kd.R_new' (Kd.R_new' ho0 (rL (by (with_reducible repeat (first|apply rA|apply rN|apply rD));exact HO_107001.out))) (rL (by (with_reducible repeat (first|apply rA|apply rN|apply rD));exact HO_113001.out))) (rL (by (with_reducible repeat (first|apply rA|apply rN|apply rD));exact HO_119001.out))) (bZ (by repeat (first|(with_reducible first|exact HB.out|apply bA|apply bN|apply bD|refine bS ?_ GE106.out|refine bS ?_ GE112.out|refine bS ?_ GE118.out)|exact HB.out))));have n4_:=mA (blk_below (g:=gb106) (o:=.cells #[.int .i64 t102,.slice Ao10 t103.length co10] 50 (0,0)) (by (with_reducible repeat (first|refine kN ?_ _|refine kD ?_|refine kA ?_ _));exact BK106.out) hb);have n5_:=mA (blk_below (g:=gb112) (o:=.cells #[.int .i64 t107,.slice Ao15 t108.length co15] 50 (0,0)) (by (with_reducible repeat (first|refine kN ?_ _|refine kD ?_|refine kA ?_ _));exact BK112.out) hb);have n6_:=mA (blk_below (g:=gb118) (o:=.cells #[.int .i64 t113,.slice Ao22 t114.length co22] 50 (0,0)) (by (with_reducible repeat (first|refine kN ?_ _|refine kD ?_|refine kA ?_ _));exact BK118.out) hb);have n7_:=mA (bT (by repeat (first|(with_reducible first|exact HB.out|apply bA|apply bN|apply bD|refine bS ?_ GE106.out|refine bS ?_ GE112.out|refine bS ?_ GE118.out)|exact HB.out)) hb);clear HO_107001 HO_113001 HO_119001 BK106 BK112 BK118 HB;have HO_107001:=n0_;have HO_113001:=n1_;have HO_119001:=n2_;have HO124:=n3_;have BK106:=n4_;have BK112:=n5_;have BK118:=n6_;have HB:=n7_;clear n0_ n1_ n2_ n3_ n4_ n5_ n6_ n7_;(try clear hb);(try clear hb2);(try clear hk);(try clear hi);(try clear ho0))|((with_reducible refine gate_dst (N:=9) rfl ?_);(try (refine gate_guard (by rfl) ?_;dsimp only));refine box_event ?hg (N:=9) ?hd (cs:=#[.int .i64 0,.slice none 0 0]) (t:=50) ?hr ?_;(case hd=>rfl);(case hg=>rfl);(case hr=>first|(go_simp;done)|(go_simp;rfl));intro gb126 hg w66 hbox hb;have n0_:=mA (rB (by (with_reducible repeat (first|apply rA|apply rN|apply rD));exact HO_107001.out) hb);have n1_:=mA (rB (by (with_reducible repeat (first|apply rA|apply rN|apply rD));exact HO_113001.out) hb);have n2_:=mA (rB (by (with_reducible repeat (first|apply rA|apply rN|apply rD));exact HO_119001.out) hb);have n3_:=mA (rB (by (with_reducible repeat (first|apply rA|apply rN|apply rD));exact HO124.out) hb);have n4_:=mA (blk_below (g:=gb106) (o:=.cells #[.int .i64 t102,.slice Ao10 t103.length co10] 50 (0,0)) (by (with_reducible repeat (first|refine kN ?_ _|refine kD ?_|refine kA ?_ _));exact BK106.out) hb);have n5_:=mA (blk_below (g:=gb112) (o:=.cells #[.int .i64 t107,.slice Ao15 t108.length co15] 50 (0,0)) (by (with_reducible repeat (first|refine kN ?_ _|refine kD ?_|refine kA ?_ _));exact BK112.out) hb);have n6_:=mA (blk_below (g:=gb118) (o:=.cells #[.int .i64 t113,.slice Ao22 t114.length co22] 50 (0,0)) (by (with_reducible repeat (first|refine kN ?_ _|refine kD ?_|refine kA ?_ _));exact BK118.out) hb);have n7_:=mA (bT (by repeat (first|(with_reducible first|exact HB.out|apply bA|apply bN|apply bD|refine bS ?_ GE106.out|refine bS ?_ GE112.out|refine bS ?_ GE118.out)|exact HB.out)) hb);have n8_:=mA (hbox);have n9_:=mA ((by rw [hg];exact (bZ (by repeat (first|(with_reducible first|exact HB.out|apply bA|apply bN|apply bD|refine bS ?_ GE106.out|refine bS ?_ GE112.out|refine bS ?_ GE118.out)|exact HB.out))):w.heap.size≤gb126));have n10_:=mA ((by rw [hg];exact (bZ (by repeat (first|(with_reducible first|exact HB.out|apply bA|apply bN|apply bD|refine bS ?_ GE106.out|refine bS ?_ GE112.out|refine bS ?_ GE118.out)|exact HB.out))):w.heap.size≤gb126));have n11_:=mA ((by rw [hg];exact Nat.ne_of_lt (blk_lt (g:=gb106) (o:=.cells #[.int .i64 t102,.slice Ao10 t103.length co10] 50 (0,0)) (by (with_reducible repeat (first|refine kN ?_ _|refine kD ?_|refine kA ?_ _));exact BK106.out)):gb106≠gb126));have n12_:=mA ((by rw [hg];exact Nat.ne_of_gt (blk_lt (g:=gb106) (o:=.cells #[.int .i64 t102,.slice Ao10 t103.length co10] 50 (0,0)) (by (with_reducible repeat (first|refine kN ?_ _|refine kD ?_|refine kA ?_ _));exact BK106.out)):gb126≠gb106));have n13_:=mA ((by rw [hg];exact Nat.ne_of_lt (blk_lt (g:=gb112) (o:=.cells #[.int .i64 t107,.slice Ao15 t108.length co15] 50 (0,0)) (by (with_reducible repeat (first|refine kN ?_ _|refine kD ?_|refine kA ?_ _));exact BK112.out)):gb112≠gb126));have n14_:=mA ((by rw [hg];exact Nat.ne_of_gt (blk_lt (g:=gb112) (o:=.cells #[.int .i64 t107,.slice Ao15 t108.length co15] 50 (0,0)) (by (with_reducible repeat (first|refine kN ?_ _|refine kD ?_|refine kA ?_ _));exact BK112.out)):gb126≠gb112));have n15_:=mA ((by rw [hg];exact Nat.ne_of_lt (blk_lt (g:=gb118) (o:=.cells #[.int .i64 t113,.slice Ao22 t114.length co22] 50 (0,0)) (by (with_reducible repeat (first|refine kN ?_ _|refine kD ?_|refine kA ?_ _));exact BK118.out)):gb118≠gb126));have n16_:=mA ((by rw [hg];exact Nat.ne_of_gt (blk_lt (g:=gb118) (o:=.cells #[.int .i64 t113,.slice Ao22 t114.length co22] 50 (0,0)) (by (with_reducible repeat (first|refine kN ?_ _|refine kD ?_|refine kA ?_ _));exact BK118.out)):gb126≠gb118));clear HO_107001 HO_113001 HO_119001 HO124 BK106 BK112 BK118 HB;have HO_107001:=n0_;have HO_113001:=n1_;have HO_119001:=n2_;have HO124:=n3_;have BK106:=n4_;have BK112:=n5_;have BK118:=n6_;have HB:=n7_;have BK126:=n8_;have GW126:=n9_;have GE126:=n10_;have NB106_126:=n11_;have NB126_106:=n12_;have NB112_126:=n13_;have NB126_112:=n14_;have NB118_126:=n15_;have NB126_118:=n16_;clear n0_ n1_ n2_ n3_ n4_ n5_ n6_ n7_ n8_ n9_ n10_ n11_ n12_ n13_ n14_ n15_ n16_ hb hbox hg;have hnb67:=NB126_106.out;have hnc67:=NB106_126.out;have hnb68:=NB126_112.out;have hnc68:=NB112_126.out;have hnb69:=NB126_118.out;have hnc69:=NB118_126.out;have hcz70_0:w66.cell? ⟨gb126,0,none⟩=some (.int .i64 0):=(kC BK126.out 0).trans rfl;have hcz70_1:w66.cell? ⟨gb126,1,none⟩=some (.slice none 0 0):=(kC BK126.out 1).trans rfl;have hfz70_0:=kF BK126.out 0;have hfz70_1:=kF BK126.out 1;obtain ⟨Ao71,co71,eo71⟩:=Kd.R_slice HO124.out;subst eo71))
          have n0_:Aside0 (Kd.R k52 52 ((w66.setCell ⟨gb126,0,none⟩ (.int .i64 t121)).setCell ⟨gb126,1,none⟩ (.slice Ao71 t122.length co71)) w.heap.size (fun k_=>some k_≠(.slice Ao15 t108.length co15:Value).ownBlock∧some k_≠(.slice Ao22 t114.length co22:Value).ownBlock∧some k_≠(.slice Ao71 t122.length co71:Value).ownBlock) (.slice Ao10 t103.length co10) t103):=⟨by (with_reducible repeat (first|apply rA|apply rN|apply rD));exact rM (rF (p:=⟨gb126,1,none⟩) (rF (p:=⟨gb126,0,none⟩) (Kd.R_types HO_107001.out BK126.out (by decide)) (fun _ hk=>hk.2) (.int .i64 t121)) (fun _ hk=>hk.2) (.slice Ao71 t122.length co71)) (fun _ hk=>⟨hk.1.1.1,⟨hk.1.1.2,hk.1.2⟩⟩)⟩
          have n1_:Aside0 (Kd.R k52 52 ((w66.setCell ⟨gb126,0,none⟩ (.int .i64 t121)).setCell ⟨gb126,1,none⟩ (.slice Ao71 t122.length co71)) w.heap.size (fun k_=>some k_≠(.slice Ao10 t103.length co10:Value).ownBlock∧some k_≠(.slice Ao22 t114.length co22:Value).ownBlock∧some k_≠(.slice Ao71 t122.length co71:Value).ownBlock) (.slice Ao15 t108.length co15) t108):=⟨by (with_reducible repeat (first|apply rA|apply rN|apply rD));exact rM (rF (p:=⟨gb126,1,none⟩) (rF (p:=⟨gb126,0,none⟩) (Kd.R_types HO_113001.out BK126.out (by decide)) (fun _ hk=>hk.2) (.int .i64 t121)) (fun _ hk=>hk.2) (.slice Ao71 t122.length co71)) (fun _ hk=>⟨hk.1.1.1,⟨hk.1.1.2,hk.1.2⟩⟩)⟩
          have n2_:Aside0 (Kd.R k52 52 ((w66.setCell ⟨gb126,0,none⟩ (.int .i64 t121)).setCell ⟨gb126,1,none⟩ (.slice Ao71 t122.length co71)) w.heap.size (fun k_=>some k_≠(.slice Ao10 t103.length co10:Value).ownBlock∧some k_≠(.slice Ao15 t108.length co15:Value).ownBlock∧some k_≠(.slice Ao71 t122.length co71:Value).ownBlock) (.slice Ao22 t114.length co22) t114):=⟨by (with_reducible repeat (first|apply rA|apply rN|apply rD));exact rM (rF (p:=⟨gb126,1,none⟩) (rF (p:=⟨gb126,0,none⟩) (Kd.R_types HO_119001.out BK126.out (by decide)) (fun _ hk=>hk.2) (.int .i64 t121)) (fun _ hk=>hk.2) (.slice Ao71 t122.length co71)) (fun _ hk=>⟨hk.1.1.1,⟨hk.1.1.2,hk.1.2⟩⟩)⟩
          have n3_:Aside0 (Kd.R k52 52 ((w66.setCell ⟨gb126,0,none⟩ (.int .i64 t121)).setCell ⟨gb126,1,none⟩ (.slice Ao71 t122.length co71)) w.heap.size (fun k_=>some k_≠(.slice Ao10 t103.length co10:Value).ownBlock∧some k_≠(.slice Ao15 t108.length co15:Value).ownBlock∧some k_≠(.slice Ao22 t114.length co22:Value).ownBlock) (.slice Ao71 t122.length co71) t122):=⟨by (with_reducible repeat (first|apply rA|apply rN|apply rD));exact rM (rF (p:=⟨gb126,1,none⟩) (rF (p:=⟨gb126,0,none⟩) (Kd.R_types HO124.out BK126.out (by decide)) (fun _ hk=>hk.2) (.int .i64 t121)) (fun _ hk=>hk.2) (.slice Ao71 t122.length co71)) (fun _ hk=>⟨hk.1.1.1.2,⟨hk.1.1.2,hk.1.2⟩⟩)⟩
          have n4_:Aside0 (((w66.setCell ⟨gb126,0,none⟩ (.int .i64 t121)).setCell ⟨gb126,1,none⟩ (.slice Ao71 t122.length co71)).heap[gb106]?=some (.cells #[.int .i64 t102,.slice Ao10 t103.length co10] 50 (0,0))):=⟨by (with_reducible repeat (first|refine kN ?_ _|refine kD ?_|refine kA ?_ _));refine blk_far ?_ NB106_126.out _;(with_reducible repeat (first|refine kN ?_ _|refine kD ?_|refine kA ?_ _));refine blk_far ?_ NB106_126.out _;(with_reducible repeat (first|refine kN ?_ _|refine kD ?_|refine kA ?_ _));exact BK106.out⟩
          have n5_:Aside0 (((w66.setCell ⟨gb126,0,none⟩ (.int .i64 t121)).setCell ⟨gb126,1,none⟩ (.slice Ao71 t122.length co71)).heap[gb112]?=some (.cells #[.int .i64 t107,.slice Ao15 t108.length co15] 50 (0,0))):=⟨by (with_reducible repeat (first|refine kN ?_ _|refine kD ?_|refine kA ?_ _));refine blk_far ?_ NB112_126.out _;(with_reducible repeat (first|refine kN ?_ _|refine kD ?_|refine kA ?_ _));refine blk_far ?_ NB112_126.out _;(with_reducible repeat (first|refine kN ?_ _|refine kD ?_|refine kA ?_ _));exact BK112.out⟩
          have n6_:Aside0 (((w66.setCell ⟨gb126,0,none⟩ (.int .i64 t121)).setCell ⟨gb126,1,none⟩ (.slice Ao71 t122.length co71)).heap[gb118]?=some (.cells #[.int .i64 t113,.slice Ao22 t114.length co22] 50 (0,0))):=⟨by (with_reducible repeat (first|refine kN ?_ _|refine kD ?_|refine kA ?_ _));refine blk_far ?_ NB118_126.out _;(with_reducible repeat (first|refine kN ?_ _|refine kD ?_|refine kA ?_ _));refine blk_far ?_ NB118_126.out _;(with_reducible repeat (first|refine kN ?_ _|refine kD ?_|refine kA ?_ _));exact BK118.out⟩
          have n7_:Aside0 (((w66.setCell ⟨gb126,0,none⟩ (.int .i64 t121)).setCell ⟨gb126,1,none⟩ (.slice Ao71 t122.length co71)).heap[gb126]?=some (.cells #[.int .i64 t121,.slice Ao71 t122.length co71] 50 (0,0))):=⟨by (with_reducible repeat (first|refine kN ?_ _|refine kD ?_|refine kA ?_ _));refine blk_put (cs:=#[.int .i64 t121,.slice none 0 0]) ?_ 1 _ rfl;(with_reducible repeat (first|refine kN ?_ _|refine kD ?_|refine kA ?_ _));refine blk_put (cs:=#[.int .i64 0,.slice none 0 0]) ?_ 0 _ rfl;(with_reducible repeat (first|refine kN ?_ _|refine kD ?_|refine kA ?_ _));exact BK126.out⟩
          have n8_:Aside0 (Below w.heap.size w ((w66.setCell ⟨gb126,0,none⟩ (.int .i64 t121)).setCell ⟨gb126,1,none⟩ (.slice Ao71 t122.length co71))):=⟨by repeat (first|(with_reducible first|exact HB.out|apply bA|apply bN|apply bD|refine bS ?_ GE106.out|refine bS ?_ GE112.out|refine bS ?_ GE118.out|refine bS ?_ GE126.out)|exact HB.out)⟩
          (try clear HO_107001)
          (try clear HO_113001)
          (try clear HO_119001)
          (try clear HO124)
          (try clear BK106)
          (try clear BK112)
          (try clear BK118)
          (try clear BK126)
          (try clear HB)
          generalize ((w66.setCell ⟨gb126,0,none⟩ (.int .i64 t121)).setCell ⟨gb126,1,none⟩ (.slice Ao71 t122.length co71))=w72 at n0_ n1_ n2_ n3_ n4_ n5_ n6_ n7_ n8_ ⊢
          have HO_107001:=n0_
          have HO_113001:=n1_
          have HO_119001:=n2_
          have HO124:=n3_
          have BK106:=n4_
          have BK112:=n5_
          have BK118:=n6_
          have BK126:=n7_
          have HB:=n8_
          clear n0_ n1_ n2_ n3_ n4_ n5_ n6_ n7_ n8_
          have n0_:=mA (rD HO_107001.out)
          have n1_:=mA (rD HO_113001.out)
          have n2_:=mA (rD HO_119001.out)
          have n3_:=mA (rD HO124.out)
          have n4_:=mA (kD BK106.out)
          have n5_:=mA (kD BK112.out)
          have n6_:=mA (kD BK118.out)
          have n7_:=mA (kD BK126.out)
          have n8_:=mA (bD HB.out)
          clear HO_107001
          clear HO_113001
          clear HO_119001
          clear HO124
          clear BK106
          clear BK112
          clear BK118
          clear BK126
          clear HB
          have HO_107001:=n0_
          have HO_113001:=n1_
          have HO_119001:=n2_
          have HO124:=n3_
          have BK106:=n4_
          have BK112:=n5_
          have BK118:=n6_
          have BK126:=n7_
          have HB:=n8_
          clear n0_ n1_ n2_ n3_ n4_ n5_ n6_ n7_ n8_
          refine start_ (n:=34) (S:=fun w'=>w'.cell? ⟨gb112,0,none⟩=some (.int .i64 t107)∧w'.cell? ⟨gb112,1,none⟩=some (.slice Ao15 t108.length co15)∧w'.cell? ⟨gb106,0,none⟩=some (.int .i64 t102)∧w'.cell? ⟨gb106,1,none⟩=some (.slice Ao10 t103.length co10)) (ds:=[]) #[O,O,O,O,O,O,O,O,O,O,O,O,O,O,O,O,O,O,O,O,O,O,O,O,O,O,O,O,O,O,O,O,O,O] (by kernel_rfl) rfl rfl ⟨(kC BK112.out 0).trans rfl,(kC BK112.out 1).trans rfl,(kC BK106.out 0).trans rfl,(kC BK106.out 1).trans rfl⟩ (fun hHeld=>?_);refine with_tabW laws_FnDenyClaim.tab11 laws_FnDenyClaim.bits11 (fun HT_ HW_=>?_)
          generalize w72.drew=w73 at HO_107001 HO_113001 HO_119001 HO124 BK106 BK112 BK118 BK126 HB hHeld ⊢
          refine pure_ (i:=0) (N:=some 60) (v:=?_) (a':=?_) #[I,O,O,O,O,O,O,O,O,O,O,O,O,O,O,O,O,O,O,O,O,O,O,O,O,O,O,O,O,O,O,O,O,O] rfl rfl (any_of HT_.out (by kernel_rfl)) (fun _ _ _ h=>h) (Or.inl ⟨by rfl,?_⟩) ?_ ?_
          rotate_left
          ·intro w'
           go_simp
           with_reducible rfl
          rotate_left
          ·simp only [Act.put,sA,sZ,sS,i64_w,i32_w]
           rfl
          refine take_ (i:=1) (N:=some 61) (v:=?_) (a':=?_) #[I,I,O,O,O,O,O,O,O,O,O,O,O,O,O,O,O,O,O,O,O,O,O,O,O,O,O,O,O,O,O,O,O,O] rfl rfl (take_ofW HT_.out HW_.out (by kernel_rfl)) (fun _ _ _ h=>h) (Or.inl ⟨by rfl,?_⟩) hHeld ?_ ?_
          rotate_left
          ·rintro w' ⟨s0,s1,s2,s3⟩
           go_simp
           with_reducible rfl
          rotate_left
          ·simp only [Act.put,sA,sZ,sS,i64_w,i32_w]
           rfl
          refine one_ (i:=2) (N:=some 62) #[I,I,I,O,O,O,O,O,O,O,O,O,O,O,O,O,O,O,O,O,O,O,O,O,O,O,O,O,O,O,O,O,O,O] rfl rfl (one_of HT_.out (by kernel_rfl)) (by decide) (fun K hK=>?_)
          refine goes_ Try.func77 (by kernel_rfl) rfl #[.int .i64 t101,.agg #[.int .i64 t107,.slice Ao15 t108.length co15]] (by rfl) rfl rfl (by (try simp only [mT,mC,mN]);first|done|rfl|(simp only [lD,lT];rfl)) ?_
          with_reducible refine (impl_ClaimOk.calls kj5 t101 t107 _ _ t108 true _ ?side1 ?side2 A40.out).mono ?_
          (case side1=>repeat (first|exact (rR HO_113001.out).2.2|(with_reducible refine cA ?_ _)|(with_reducible refine cN ?_ _)|(with_reducible refine cD ?_)))
          (case side2=>exact (rR HO_113001.out).2.1)
          rintro e w74 ⟨rfl,hb⟩
          refine ⟨_,rfl,?_⟩
          have n0_:=mA (rB (by (with_reducible repeat (first|apply rA|apply rN|apply rD));exact HO_107001.out) hb)
          have n1_:=mA (rB (by (with_reducible repeat (first|apply rA|apply rN|apply rD));exact HO_113001.out) hb)
          have n2_:=mA (rB (by (with_reducible repeat (first|apply rA|apply rN|apply rD));exact HO_119001.out) hb)
          have n3_:=mA (rB (by (with_reducible repeat (first|apply rA|apply rN|apply rD));exact HO124.out) hb)
          have n4_:=mA (blk_below (g:=gb106) (o:=.cells #[.int .i64 t102,.slice Ao10 t103.length co10] 50 (0,0)) (by (with_reducible repeat (first|refine kN ?_ _|refine kD ?_|refine kA ?_ _));exact BK106.out) hb)
          have n5_:=mA (blk_below (g:=gb112) (o:=.cells #[.int .i64 t107,.slice Ao15 t108.length co15] 50 (0,0)) (by (with_reducible repeat (first|refine kN ?_ _|refine kD ?_|refine kA ?_ _));exact BK112.out) hb)
          have n6_:=mA (blk_below (g:=gb118) (o:=.cells #[.int .i64 t113,.slice Ao22 t114.length co22] 50 (0,0)) (by (with_reducible repeat (first|refine kN ?_ _|refine kD ?_|refine kA ?_ _));exact BK118.out) hb)
          have n7_:=mA (blk_below (g:=gb126) (o:=.cells #[.int .i64 t121,.slice Ao71 t122.length co71] 50 (0,0)) (by (with_reducible repeat (first|refine kN ?_ _|refine kD ?_|refine kA ?_ _));exact BK126.out) hb)
          have n8_:=mA (bT (by repeat (first|(with_reducible first|exact HB.out|apply bA|apply bN|apply bD|refine bS ?_ GE106.out|refine bS ?_ GE112.out|refine bS ?_ GE118.out|refine bS ?_ GE126.out)|exact HB.out)) hb)
          clear HO_107001
          clear HO_113001
          clear HO_119001
          clear HO124
          clear BK106
          clear BK112
          clear BK118
          clear BK126
          clear HB
          have HO_107001:=n0_
          have HO_113001:=n1_
          have HO_119001:=n2_
          have HO124:=n3_
          have BK106:=n4_
          have BK112:=n5_
          have BK118:=n6_
          have BK126:=n7_
          have HB:=n8_
          clear n0_ n1_ n2_ n3_ n4_ n5_ n6_ n7_ n8_
          (try clear hb)
          (try clear hb2)
          (try clear hk)
          (try clear hi)
          refine hK.out _ _ ⟨(kC BK112.out 0).trans rfl,(kC BK112.out 1).trans rfl,(kC BK106.out 0).trans rfl,(kC BK106.out 1).trans rfl⟩ (fun hHeld=>?_)
          clear hK K
          refine norm_ (a':=?_) ?_ ?_
          rotate_left
          ·show Act.put _ (some 62) _=_
           simp only [Act.put,sA,sZ,sS,i64_w,i32_w]
           rfl
          refine pure_ (i:=3) (N:=some 63) (v:=?_) (a':=?_) #[I,I,I,I,O,O,O,O,O,O,O,O,O,O,O,O,O,O,O,O,O,O,O,O,O,O,O,O,O,O,O,O,O,O] rfl rfl (any_of HT_.out (by kernel_rfl)) (fun _ _ _ h=>h) (Or.inl ⟨by rfl,?_⟩) ?_ ?_
          rotate_left
          ·intro w'
           go_simp
           with_reducible rfl
          rotate_left
          ·simp only [Act.put,sA,sZ,sS,i64_w,i32_w]
           rfl
          refine pure_ (i:=4) (N:=some 64) (v:=?_) (a':=?_) #[I,I,I,I,I,O,O,O,O,O,O,O,O,O,O,O,O,O,O,O,O,O,O,O,O,O,O,O,O,O,O,O,O,O] rfl rfl (any_of HT_.out (by kernel_rfl)) (fun _ _ _ h=>h) (Or.inl ⟨by rfl,?_⟩) ?_ ?_
          rotate_left
          ·intro w'
           go_simp
           with_reducible rfl
          rotate_left
          ·simp only [Act.put,sA,sZ,sS,i64_w,i32_w]
           rfl
          refine pure_ (i:=6) (N:=some 66) (v:=?_) (a':=?_) #[I,I,I,I,I,O,I,O,O,O,O,O,O,O,O,O,O,O,O,O,O,O,O,O,O,O,O,O,O,O,O,O,O,O] rfl rfl (any_of HT_.out (by kernel_rfl)) (fun _ _ _ h=>h) (Or.inl ⟨by rfl,?_⟩) ?_ ?_
          rotate_left
          ·intro w'
           go_simp
           with_reducible rfl
          rotate_left
          ·simp only [Act.put,sA,sZ,sS,i64_w,i32_w]
           rfl
          refine take_ (i:=5) (N:=some 65) (v:=?_) (a':=?_) #[I,I,I,I,I,I,I,O,O,O,O,O,O,O,O,O,O,O,O,O,O,O,O,O,O,O,O,O,O,O,O,O,O,O] rfl rfl (take_ofW HT_.out HW_.out (by kernel_rfl)) (fun _ _ _ h=>h) (Or.inl ⟨by rfl,?_⟩) hHeld ?_ ?_
          rotate_left
          ·rintro w' ⟨s0,s1,s2,s3⟩
           go_simp
           with_reducible rfl
          rotate_left
          ·simp only [Act.put,sA,sZ,sS,i64_w,i32_w]
           rfl
          refine take_ (i:=7) (N:=some 67) (v:=?_) (a':=?_) #[I,I,I,I,I,I,I,I,O,O,O,O,O,O,O,O,O,O,O,O,O,O,O,O,O,O,O,O,O,O,O,O,O,O] rfl rfl (take_ofW HT_.out HW_.out (by kernel_rfl)) (fun _ _ _ h=>h) (Or.inl ⟨by rfl,?_⟩) hHeld ?_ ?_
          rotate_left
          ·rintro w' ⟨s0,s1,s2,s3⟩
           go_simp
           with_reducible rfl
          rotate_left
          ·simp only [Act.put,sA,sZ,sS,i64_w,i32_w]
           rfl
          refine pure_ (i:=8) (N:=some 68) (v:=?_) (a':=?_) #[I,I,I,I,I,I,I,I,I,O,O,O,O,O,O,O,O,O,O,O,O,O,O,O,O,O,O,O,O,O,O,O,O,O] rfl rfl (any_of HT_.out (by kernel_rfl)) (fun _ _ _ h=>h) (Or.inl ⟨by rfl,?_⟩) ?_ ?_
          rotate_left
          ·intro w'
           go_simp
           with_reducible rfl
          rotate_left
          ·simp only [Act.put,sA,sZ,sS,i64_w,i32_w]
           rfl
          refine pure_ (i:=9) (N:=some 69) (v:=?_) (a':=?_) #[I,I,I,I,I,I,I,I,I,I,O,O,O,O,O,O,O,O,O,O,O,O,O,O,O,O,O,O,O,O,O,O,O,O] rfl rfl (any_of HT_.out (by kernel_rfl)) (fun _ _ _ h=>h) (Or.inl ⟨by rfl,?_⟩) ?_ ?_
          rotate_left
          ·intro w'
           go_simp
           with_reducible rfl
          rotate_left
          ·simp only [Act.put,sA,sZ,sS,i64_w,i32_w]
           rfl
          refine pure_ (i:=10) (N:=some 70) (v:=?_) (a':=?_) #[I,I,I,I,I,I,I,I,I,I,I,O,O,O,O,O,O,O,O,O,O,O,O,O,O,O,O,O,O,O,O,O,O,O] rfl rfl (any_of HT_.out (by kernel_rfl)) (fun _ _ _ h=>h) (Or.inl ⟨by rfl,?_⟩) ?_ ?_
          rotate_left
          ·intro w'
           go_simp
           with_reducible rfl
          rotate_left
          ·simp only [Act.put,sA,sZ,sS,i64_w,i32_w]
           rfl
          refine pure_ (i:=11) (N:=some 71) (v:=?_) (a':=?_) #[I,I,I,I,I,I,I,I,I,I,I,I,O,O,O,O,O,O,O,O,O,O,O,O,O,O,O,O,O,O,O,O,O,O] rfl rfl (any_of HT_.out (by kernel_rfl)) (fun _ _ _ h=>h) (Or.inl ⟨by rfl,?_⟩) ?_ ?_
          rotate_left
          ·intro w'
           go_simp
           with_reducible rfl
          rotate_left
          ·simp only [Act.put,sA,sZ,sS,i64_w,i32_w]
           rfl
          refine pure_ (i:=14) (N:=some 74) (v:=?_) (a':=?_) #[I,I,I,I,I,I,I,I,I,I,I,I,O,O,I,O,O,O,O,O,O,O,O,O,O,O,O,O,O,O,O,O,O,O] rfl rfl (any_of HT_.out (by kernel_rfl)) (fun _ _ _ h=>h) (Or.inl ⟨by rfl,?_⟩) ?_ ?_
          rotate_left
          ·intro w'
           go_simp
           with_reducible rfl
          rotate_left
          ·simp only [Act.put,sA,sZ,sS,i64_w,i32_w]
           rfl
          refine take_ (i:=12) (N:=some 72) (v:=?_) (a':=?_) #[I,I,I,I,I,I,I,I,I,I,I,I,I,O,I,O,O,O,O,O,O,O,O,O,O,O,O,O,O,O,O,O,O,O] rfl rfl (take_ofW HT_.out HW_.out (by kernel_rfl)) (fun _ _ _ h=>h) (Or.inl ⟨by rfl,?_⟩) hHeld ?_ ?_
          rotate_left
          ·rintro w' ⟨s0,s1,s2,s3⟩
           go_simp
           with_reducible rfl
          rotate_left
          ·simp only [Act.put,sA,sZ,sS,i64_w,i32_w]
           rfl
          refine pure_ (i:=13) (N:=some 73) (v:=?_) (a':=?_) #[I,I,I,I,I,I,I,I,I,I,I,I,I,I,I,O,O,O,O,O,O,O,O,O,O,O,O,O,O,O,O,O,O,O] rfl rfl (any_of HT_.out (by kernel_rfl)) (fun _ _ _ h=>h) (Or.inl ⟨by rfl,?_⟩) ?_ ?_
          rotate_left
          ·intro w'
           go_simp
           with_reducible rfl
          rotate_left
          ·simp only [Act.put,sA,sZ,sS,i64_w,i32_w]
           rfl
          refine take_ (i:=15) (N:=some 75) (v:=?_) (a':=?_) #[I,I,I,I,I,I,I,I,I,I,I,I,I,I,I,I,O,O,O,O,O,O,O,O,O,O,O,O,O,O,O,O,O,O] rfl rfl (take_ofW HT_.out HW_.out (by kernel_rfl)) (fun _ _ _ h=>h) (Or.inl ⟨by rfl,?_⟩) hHeld ?_ ?_
          rotate_left
          ·rintro w' ⟨s0,s1,s2,s3⟩
           go_simp
           with_reducible rfl
          rotate_left
          ·simp only [Act.put,sA,sZ,sS,i64_w,i32_w]
           rfl
          refine pure_ (i:=16) (N:=some 76) (v:=?_) (a':=?_) #[I,I,I,I,I,I,I,I,I,I,I,I,I,I,I,I,I,O,O,O,O,O,O,O,O,O,O,O,O,O,O,O,O,O] rfl rfl (any_of HT_.out (by kernel_rfl)) (fun _ _ _ h=>h) (Or.inl ⟨by rfl,?_⟩) ?_ ?_
          rotate_left
          ·intro w'
           go_simp
           with_reducible rfl
          rotate_left
          ·simp only [Act.put,sA,sZ,sS,i64_w,i32_w]
           rfl
          refine pure_ (i:=17) (N:=some 77) (v:=?_) (a':=?_) #[I,I,I,I,I,I,I,I,I,I,I,I,I,I,I,I,I,I,O,O,O,O,O,O,O,O,O,O,O,O,O,O,O,O] rfl rfl (any_of HT_.out (by kernel_rfl)) (fun _ _ _ h=>h) (Or.inl ⟨by rfl,?_⟩) ?_ ?_
          rotate_left
          ·intro w'
           go_simp
           with_reducible rfl
          rotate_left
          ·simp only [Act.put,sA,sZ,sS,i64_w,i32_w]
           rfl
          refine pure_ (i:=18) (N:=some 78) (v:=?_) (a':=?_) #[I,I,I,I,I,I,I,I,I,I,I,I,I,I,I,I,I,I,I,O,O,O,O,O,O,O,O,O,O,O,O,O,O,O] rfl rfl (any_of HT_.out (by kernel_rfl)) (fun _ _ _ h=>h) (Or.inl ⟨by rfl,?_⟩) ?_ ?_
          rotate_left
          ·intro w'
           go_simp
           with_reducible rfl
          rotate_left
          ·simp only [Act.put,sA,sZ,sS,i64_w,i32_w]
           rfl
          refine pure_ (i:=19) (N:=some 79) (v:=?_) (a':=?_) #[I,I,I,I,I,I,I,I,I,I,I,I,I,I,I,I,I,I,I,I,O,O,O,O,O,O,O,O,O,O,O,O,O,O] rfl rfl (any_of HT_.out (by kernel_rfl)) (fun _ _ _ h=>h) (Or.inl ⟨by rfl,?_⟩) ?_ ?_
          rotate_left
          ·intro w'
           go_simp
           with_reducible rfl
          rotate_left
          ·simp only [Act.put,sA,sZ,sS,i64_w,i32_w]
           rfl
          refine pure_ (i:=20) (N:=some 80) (v:=?_) (a':=?_) #[I,I,I,I,I,I,I,I,I,I,I,I,I,I,I,I,I,I,I,I,I,O,O,O,O,O,O,O,O,O,O,O,O,O] rfl rfl (any_of HT_.out (by kernel_rfl)) (fun _ _ _ h=>h) (Or.inl ⟨by rfl,?_⟩) ?_ ?_
          rotate_left
          ·intro w'
           go_simp
           with_reducible rfl
          rotate_left
          ·simp only [Act.put,sA,sZ,sS,i64_w,i32_w]
           rfl
          refine pure_ (i:=21) (N:=some 81) (v:=?_) (a':=?_) #[I,I,I,I,I,I,I,I,I,I,I,I,I,I,I,I,I,I,I,I,I,I,O,O,O,O,O,O,O,O,O,O,O,O] rfl rfl (any_of HT_.out (by kernel_rfl)) (fun _ _ _ h=>h) (Or.inl ⟨by rfl,?_⟩) ?_ ?_
          rotate_left
          ·intro w'
           go_simp
           with_reducible rfl
          rotate_left
          ·simp only [Act.put,sA,sZ,sS,i64_w,i32_w]
           rfl
          refine pure_ (i:=22) (N:=some 82) (v:=?_) (a':=?_) #[I,I,I,I,I,I,I,I,I,I,I,I,I,I,I,I,I,I,I,I,I,I,I,O,O,O,O,O,O,O,O,O,O,O] rfl rfl (any_of HT_.out (by kernel_rfl)) (fun _ _ _ h=>h) (Or.inl ⟨by rfl,?_⟩) ?_ ?_
          rotate_left
          ·intro w'
           go_simp
           with_reducible rfl
          rotate_left
          ·simp only [Act.put,sA,sZ,sS,i64_w,i32_w]
           rfl
          refine pure_ (i:=23) (N:=some 83) (v:=?_) (a':=?_) #[I,I,I,I,I,I,I,I,I,I,I,I,I,I,I,I,I,I,I,I,I,I,I,I,O,O,O,O,O,O,O,O,O,O] rfl rfl (any_of HT_.out (by kernel_rfl)) (fun _ _ _ h=>h) (Or.inl ⟨by rfl,?_⟩) ?_ ?_
          rotate_left
          ·intro w'
           go_simp
           with_reducible rfl
          rotate_left
          ·simp only [Act.put,sA,sZ,sS,i64_w,i32_w]
           rfl
          refine pure_ (i:=24) (N:=some 84) (v:=undef) (a':=?_) #[I,I,I,I,I,I,I,I,I,I,I,I,I,I,I,I,I,I,I,I,I,I,I,I,I,O,O,O,O,O,O,O,O,O] rfl rfl (any_of HT_.out (by kernel_rfl)) (fun _ _ _ h=>h) (Or.inr ⟨by rfl,rfl⟩) ?_ ?_
          rotate_left
          ·simp only [Act.put,sA,sZ,sS,i64_w,i32_w]
           rfl
          refine pure_ (i:=25) (N:=some 85) (v:=undef) (a':=?_) #[I,I,I,I,I,I,I,I,I,I,I,I,I,I,I,I,I,I,I,I,I,I,I,I,I,I,O,O,O,O,O,O,O,O] rfl rfl (any_of HT_.out (by kernel_rfl)) (fun _ _ _ h=>h) (Or.inr ⟨by rfl,rfl⟩) ?_ ?_
          rotate_left
          ·simp only [Act.put,sA,sZ,sS,i64_w,i32_w]
           rfl
          refine pure_ (i:=26) (N:=some 86) (v:=undef) (a':=?_) #[I,I,I,I,I,I,I,I,I,I,I,I,I,I,I,I,I,I,I,I,I,I,I,I,I,I,I,O,O,O,O,O,O,O] rfl rfl (any_of HT_.out (by kernel_rfl)) (fun _ _ _ h=>h) (Or.inr ⟨by rfl,rfl⟩) ?_ ?_
          rotate_left
          ·simp only [Act.put,sA,sZ,sS,i64_w,i32_w]
           rfl
          refine pure_ (i:=27) (N:=some 87) (v:=undef) (a':=?_) #[I,I,I,I,I,I,I,I,I,I,I,I,I,I,I,I,I,I,I,I,I,I,I,I,I,I,I,I,O,O,O,O,O,O] rfl rfl (any_of HT_.out (by kernel_rfl)) (fun _ _ _ h=>h) (Or.inr ⟨by rfl,rfl⟩) ?_ ?_
          rotate_left
          ·simp only [Act.put,sA,sZ,sS,i64_w,i32_w]
           rfl
          refine pure_ (i:=28) (N:=some 88) (v:=undef) (a':=?_) #[I,I,I,I,I,I,I,I,I,I,I,I,I,I,I,I,I,I,I,I,I,I,I,I,I,I,I,I,I,O,O,O,O,O] rfl rfl (any_of HT_.out (by kernel_rfl)) (fun _ _ _ h=>h) (Or.inr ⟨by rfl,rfl⟩) ?_ ?_
          rotate_left
          ·simp only [Act.put,sA,sZ,sS,i64_w,i32_w]
           rfl
          refine pure_ (i:=29) (N:=some 89) (v:=undef) (a':=?_) #[I,I,I,I,I,I,I,I,I,I,I,I,I,I,I,I,I,I,I,I,I,I,I,I,I,I,I,I,I,I,O,O,O,O] rfl rfl (any_of HT_.out (by kernel_rfl)) (fun _ _ _ h=>h) (Or.inr ⟨by rfl,rfl⟩) ?_ ?_
          rotate_left
          ·simp only [Act.put,sA,sZ,sS,i64_w,i32_w]
           rfl
          refine pure_ (i:=30) (N:=some 90) (v:=undef) (a':=?_) #[I,I,I,I,I,I,I,I,I,I,I,I,I,I,I,I,I,I,I,I,I,I,I,I,I,I,I,I,I,I,I,O,O,O] rfl rfl (any_of HT_.out (by kernel_rfl)) (fun _ _ _ h=>h) (Or.inr ⟨by rfl,rfl⟩) ?_ ?_
          rotate_left
          ·simp only [Act.put,sA,sZ,sS,i64_w,i32_w]
           rfl
          refine pure_ (i:=31) (N:=some 91) (v:=?_) (a':=?_) #[I,I,I,I,I,I,I,I,I,I,I,I,I,I,I,I,I,I,I,I,I,I,I,I,I,I,I,I,I,I,I,I,O,O] rfl rfl (any_of HT_.out (by kernel_rfl)) (fun _ _ _ h=>h) (Or.inl ⟨by rfl,?_⟩) ?_ ?_
          rotate_left
          ·intro w'
           go_simp
           with_reducible rfl
          rotate_left
          ·simp only [Act.put,sA,sZ,sS,i64_w,i32_w]
           rfl
          refine pure_ (i:=32) (N:=some 92) (v:=?_) (a':=?_) #[I,I,I,I,I,I,I,I,I,I,I,I,I,I,I,I,I,I,I,I,I,I,I,I,I,I,I,I,I,I,I,I,I,O] rfl rfl (any_of HT_.out (by kernel_rfl)) (fun _ _ _ h=>h) (Or.inl ⟨by rfl,?_⟩) ?_ ?_
          rotate_left
          ·intro w'
           go_simp
           with_reducible rfl
          rotate_left
          ·simp only [Act.put,sA,sZ,sS,i64_w,i32_w]
           rfl
          refine pure_ (i:=33) (N:=some 2) (v:=?_) (a':=?_) #[I,I,I,I,I,I,I,I,I,I,I,I,I,I,I,I,I,I,I,I,I,I,I,I,I,I,I,I,I,I,I,I,I,I] rfl rfl (any_of HT_.out (by kernel_rfl)) (fun _ _ _ h=>h) (Or.inl ⟨by rfl,?_⟩) ?_ ?_
          rotate_left
          ·intro w'
           go_simp
           with_reducible rfl
          rotate_left
          ·simp only [Act.put,sA,sZ,sS,i64_w,i32_w]
           rfl
          refine done_ (done_of HT_.out (by kernel_rfl)) ?_
          try go_wp2
          go_ret
          exact ⟨by first|rfl|(simp [errW_none,errW_some]<;>rfl)|(simp [*, errW_none,errW_some]<;>rfl),by repeat (first|(with_reducible first|exact HB.out|apply bA|apply bN|apply bD|refine bS ?_ GE106.out|refine bS ?_ GE112.out|refine bS ?_ GE118.out|refine bS ?_ GE126.out)|exact HB.out)⟩
        ·rw [if_neg c43] at H
         have c43b0:((t108.length:Int)==(wrap64 ((t103.length:Int)+1)))=false:=beq_eq_false_iff_ne.mpr c43
         have c43b1:((t108.length:Int) != (wrap64 ((t103.length:Int)+1)))=true:=bne_iff_ne.mpr c43
         exact absurd ((Option.some.inj H).trans hr_.out) (by decide)
       ·rw [if_neg c42] at H
        have c42b0:(t107==t102)=false:=beq_eq_false_iff_ne.mpr c42
        have c42b1:(t107 != t102)=true:=bne_iff_ne.mpr c42
        exact absurd ((Option.some.inj H).trans hr_.out) (by decide)
      ·replace c41:=Bool.eq_false_iff.mpr c41
       subst c41
       have H1:(some false)=some r:=by rw [if_neg (show ¬ (false=true) by decide)] at H;exact H
       clear H
       have H:=H1
       clear H1
       exact absurd ((Option.some.inj H).trans hr_.out) (by decide)
     ·replace c38:=Bool.eq_false_iff.mpr c38
      subst c38
      have H1:(if t107=0 then (if (t108.length:Int)=0 then ((laws_alive.f).bind fun t120=>(some t120)) else (some false)) else (some false))=some r:=by rw [if_neg (show ¬ (false=true) by decide)] at H;exact H
      clear H
      have H:=H1
      clear H1
      by_cases c75:t107=0
      ·rw [if_pos c75] at H
       have c75b0:(t107==0)=true:=beq_iff_eq.mpr c75
       have c75b1:(t107 != 0)=false:=bne_eq_false_iff_eq.mpr c75
       clear c75
       by_cases c76:(t108.length:Int)=0
       ·rw [if_pos c76] at H
        have c76b0:((t108.length:Int)==0)=true:=beq_iff_eq.mpr c76
        have c76b1:((t108.length:Int) != 0)=false:=bne_eq_false_iff_eq.mpr c76
        clear c76
        replace H:=Option.bind_eq_some_iff.mp H
        obtain ⟨t120,A770,H⟩:=H
        replace H:(some t120)=some r:=H
        have A77:=mA A770
        clear A770
        obtain rfl:=Option.some.inj H
        have hnb78:=NB112_106.out
        have hnc78:=NB106_112.out
        have hnb79:=NB112_118.out
        have hnc79:=NB118_112.out
        have hcz80_0:wc.cell? ⟨gb112,0,none⟩=some (.int .i64 t107):=(kC BK112.out 0).trans rfl
        have hcz80_1:wc.cell? ⟨gb112,1,none⟩=some (.slice Ao15 t108.length co15):=(kC BK112.out 1).trans rfl
        have hfz80_0:=kF BK112.out 0
        have hfz80_1:=kF BK112.out 1
        go_wp2_with (first|(go_at_call 37;(with_reducible refine (laws_alive.calls  t120 _ A77.out).mono ?_);rintro e w' ⟨rfl,⟨nd,rfl⟩⟩))
        go_ret
        exact ⟨by first|rfl|(simp [errW_none,errW_some]<;>rfl)|(simp [*, errW_none,errW_some]<;>rfl),by repeat (first|(with_reducible first|exact HB.out|apply bA|apply bN|apply bD|refine bS ?_ GE106.out|refine bS ?_ GE112.out|refine bS ?_ GE118.out)|exact HB.out)⟩
       ·rw [if_neg c76] at H
        have c76b0:((t108.length:Int)==0)=false:=beq_eq_false_iff_ne.mpr c76
        have c76b1:((t108.length:Int) != 0)=true:=bne_iff_ne.mpr c76
        have c76b2 : ¬ (t108=[]):=fun h_=>c76 (by rw [h_];rfl)
        exact absurd ((Option.some.inj H).trans hr_.out) (by decide)
      ·rw [if_neg c75] at H
       have c75b0:(t107==0)=false:=beq_eq_false_iff_ne.mpr c75
       have c75b1:(t107 != 0)=true:=bne_iff_ne.mpr c75
       exact absurd ((Option.some.inj H).trans hr_.out) (by decide)

/-- THE ONE PURE STATEMENT of laws_FnDenyClaim: yours. -/
def laws_FnDenyClaim.Pure:Prop:=∀ (l0:List Int),l0.length≤maxLen→l0.length*1≤140737488351232→(∀ x∈l0,(Lit.int .u8 x).wf=true) → ∃ k,laws_FnDenyClaim.f k l0=some true
theorem laws_FnDenyClaim.walk (P:laws_FnDenyClaim.Pure) (a0:Option Addr) (len0 cap0:Nat) (z0:List Int) (w:World) (w0:(a0=none∧len0=0∧cap0=0∧z0=[]) ∨ ∃ x,a0=some x∧len0≤cap0∧cap0≤maxLen∧z0.length=cap0∧(∀ i,i<z0.length→w.cell? (x.add i)=some (.int .u8 (z0.getD i 0))) ∧ ∀ n∈z0,(Lit.int .u8 n).wf=true) (y0:len0*1≤140737488351232) :
  Calls Try.prog 17 #[.slice a0 len0 cap0] w fun e w'=>e = .returned (.bool true)∧Below w.heap.size w w':=by
 obtain ⟨l0,rfl,hr0,hm0,hw0,hc0⟩:=ReadsInt.ofRowC w0
 obtain ⟨k,h⟩:=P l0 hm0 y0 hw0
 refine (laws_FnDenyClaim.calls k _ _ l0 true w (Kd.C_of_reads (d:=(0:Int)) (h1:=fun _=>rfl) hr0) hc0 ⟨rfl⟩ h).mono ?_
 rintro e w' ⟨rfl,hd⟩
 exact ⟨rfl,hd⟩
end Go.Proofs.Ytpampekijfjlkaa.X
