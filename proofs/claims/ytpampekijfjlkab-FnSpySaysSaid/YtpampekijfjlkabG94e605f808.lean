/- Joined by a program of this session's: X121, LDC, LDCC, LKD, LDSP, X42, X49, LKN, LH. -/
import Derived.Test.YtpampekijfjlkabG44e43c9cff
import Derived.Test.YtpampekijfjlkabG8efdcf72bb
import Derived.Test.YtpampekijfjlkabG13061b816a
import Derived.Test.YtpampekijfjlkabG28ae896ac6
import Derived.Test.YtpampekijfjlkabGb9b23e234f
import Derived.Test.YtpampekijfjlkabG3a3cc4b774
import Derived.Test.YtpampekijfjlkabG338a3a8524

namespace Go.Proofs.Ytpampekijfjlkab.X
open Go.RowKit Go.Proofs.YtpampekijfjlkabW.PrintWords Go.Proofs.YtpampekijfjlkabW.PrintLast Go.Proofs.YtpampekijfjlkabW.PrintMore
open Go.Proofs.YtpampekijfjlkabW.PrintWords renaming Aside0.mk → mA, pw_below_drewN → bN, below_drew1 → bD, below_alloc → bA, below_set → bS, blk_alloc → kA, blk_drewN → kN, blk_drew → kD, blk_cell → kC, blk_frozen → kF, below_size → bZ, below_step → bT, Kd.R_alloc → rA, Kd.R_drewN → rN, Kd.R_drew → rD, Kd.R_mono → rM, Kd.R_reads' → rR, Kd.R_far → rF, Kd.R_lt → rL, Kd.R_below → rB, Kd.C_alloc → cA, Kd.C_drewN → cN, Kd.C_drew → cD
open List renaming setIfInBounds_toArray → sA, set_cons_zero → sZ, set_cons_succ → sS, length_take → lT, length_drop → lD, map_toArray → mT, map_cons → mC, map_nil → mN
open Bool renaming true → I, false → O
attribute [local go_sem] max2_int min2_int max_two min_two max_three min_three max_four min_four   -- for this text's walks alone
set_option linter.unusedVariables false
set_option linter.unusedSimpArgs false
/-! ### laws_FnSpySays: function 16 -/
def laws_FnSpySays.j0:Nat→List Int→Bool→Bool→Int→List (S33)→Option (Bool)
 | 0,_,_,_,_,_=>none
 | k+1,x3,x5,x34,x109000,x109001=>if x34=true then (if x5=true then (some false) else ((laws_alive.f).bind fun t113=>(some t113))) else ((impl_DenyClaim.f k (x3.length:Int) x109000 x109001).bind fun bt114=>((impl_SpySays.f k x3 bt114.1 bt114.2.1).bind fun t120=>(if 0≤x109000 then (if x109000<(x3.length:Int) then (if (rd x3 x109000)=2 then (if x5=true then (if bt114.2.2=true then (some t120) else (some true)) else (some false)) else (if bt114.2.2=true then (if (t120 != x5)=true then ((impl_WorldOfKinds.f k x3).bind fun t122=>((impl_MaySay.f k (x3.length:Int) x109000 x109001 t122).bind fun t123=>(some (t123==x5)))) else (some false)) else ((impl_WorldOfKinds.f k x3).bind fun t124=>((impl_MaySay.f k (x3.length:Int) x109000 x109001 t124).bind fun t125=>(some (t125==x5)))))) else (none)) else (none))))
def laws_FnSpySays.f (k:Nat) (l0:List Int):Option (Bool):=if (l0.length:Int)>1048576 then (some true) else ((spec_DrawSpySays.f k l0).bind fun bt101=>((impl_SpySays.f k bt101.1 bt101.2.1 bt101.2.2).bind fun t109=>((spec_SpySays.f k bt101.1 bt101.2.1 bt101.2.2).bind fun t110=>(if (t109 != t110)=true then (some false) else ((spec_KindsOk.f k bt101.1).bind fun t111=>(if t111=true then ((spec_ClaimOk.f k (bt101.1.length:Int) bt101.2.1 bt101.2.2).bind fun t112=>(laws_FnSpySays.j0 k bt101.1 t109 (!t112) bt101.2.1 bt101.2.2)) else (laws_FnSpySays.j0 k bt101.1 t109 true bt101.2.1 bt101.2.2)))))))
theorem laws_FnSpySays.mono_l : ∀ k,(∀ y0 y1 y2 y3 y4,LeO (laws_FnSpySays.j0 k y0 y1 y2 y3 y4) (laws_FnSpySays.j0 (k+1) y0 y1 y2 y3 y4))
 | 0=>fun _ _ _ _ _ r h=>by simp [laws_FnSpySays.j0] at h
 | k+1=>by
  have ih0:=laws_FnSpySays.mono_l k
  ·intro y0 y1 y2 y3 y4
   unfold laws_FnSpySays.j0
   repeat' first
   | (with_reducible exact ih0 _ _ _ _ _)
   | (with_reducible exact impl_DenyClaim.mono _ _ _ _)
   | (with_reducible exact impl_MaySay.mono _ _ _ _ _)
   | (with_reducible exact impl_SpySays.mono _ _ _ _)
   | (with_reducible exact impl_WorldOfKinds.mono _ _)
   | (with_reducible exact spec_ClaimOk.mono _ _ _ _)
   | (with_reducible exact spec_DrawSpySays.mono _ _)
   | (with_reducible exact spec_KindsOk.mono _ _)
   | (with_reducible exact spec_SpySays.mono _ _ _ _)
   | (with_reducible exact LeO.refl _)
   | (with_reducible exact LeO.none _)
   | (with_reducible refine LeO.ite ?_ ?_)
   | (with_reducible refine LeO.bind ?_ (fun _=>?_))
   | exact ih0 _ _ _ _ _
   | exact impl_DenyClaim.mono _ _ _ _
   | exact impl_MaySay.mono _ _ _ _ _
   | exact impl_SpySays.mono _ _ _ _
   | exact impl_WorldOfKinds.mono _ _
   | exact spec_ClaimOk.mono _ _ _ _
   | exact spec_DrawSpySays.mono _ _
   | exact spec_KindsOk.mono _ _
   | exact spec_SpySays.mono _ _ _ _
   | exact LeO.none _
   | refine LeO.ite ?_ ?_
   | refine LeO.bind ?_ (fun _=>?_)
theorem laws_FnSpySays.mono : ∀ a0 k,LeO (laws_FnSpySays.f k a0) (laws_FnSpySays.f (k+1) a0):=by
 intro a0 k
 have ih0:=laws_FnSpySays.mono_l k
 unfold laws_FnSpySays.f
 repeat' first
   | (with_reducible exact ih0 _ _ _ _ _)
   | (with_reducible exact impl_DenyClaim.mono _ _ _ _)
   | (with_reducible exact impl_MaySay.mono _ _ _ _ _)
   | (with_reducible exact impl_SpySays.mono _ _ _ _)
   | (with_reducible exact impl_WorldOfKinds.mono _ _)
   | (with_reducible exact spec_ClaimOk.mono _ _ _ _)
   | (with_reducible exact spec_DrawSpySays.mono _ _)
   | (with_reducible exact spec_KindsOk.mono _ _)
   | (with_reducible exact spec_SpySays.mono _ _ _ _)
   | (with_reducible exact LeO.refl _)
   | (with_reducible exact LeO.none _)
   | (with_reducible refine LeO.ite ?_ ?_)
   | (with_reducible refine LeO.bind ?_ (fun _=>?_))
   | exact ih0 _ _ _ _ _
   | exact impl_DenyClaim.mono _ _ _ _
   | exact impl_MaySay.mono _ _ _ _ _
   | exact impl_SpySays.mono _ _ _ _
   | exact impl_WorldOfKinds.mono _ _
   | exact spec_ClaimOk.mono _ _ _ _
   | exact spec_DrawSpySays.mono _ _
   | exact spec_KindsOk.mono _ _
   | exact spec_SpySays.mono _ _ _ _
   | exact LeO.none _
   | refine LeO.ite ?_ ?_
   | refine LeO.bind ?_ (fun _=>?_)
def laws_FnSpySays.T13:Bool×List (List Nat×List Nat):=(true,[([],[]),([0],[0]),([1],[1]),([2],[2]),([2],[2]),([3,4,2],[2,3,4]),([2,5],[2,5]),([6,2],[6]),([7],[7]),([8,7],[7,8]),([7],[7]),([7],[7]),([11,7,7],[7,11]),([9,10,12,12,7],[7,9,10,12]),([7],[7]),([13,14,7],[7,13,14]),([7,15],[7,15]),([16,13,0,1,2,3,4,5,6,7,8,9,10,11,12,13,14,15,16],[16])])
def laws_FnSpySays.B13:List Nat:=[0,1,3,7,7,31,63,127,255,511,255,255,2303,8191,255,32767,65535,131071]
theorem laws_FnSpySays.tab13:rtab .any (opsOf Try.f16 13)=laws_FnSpySays.T13:=by kernel_rfl
theorem laws_FnSpySays.bits13:waitsOk laws_FnSpySays.T13.2 laws_FnSpySays.B13=true:=by kernel_rfl
set_option maxHeartbeats 8000000 in
set_option maxRecDepth 100000 in
theorem laws_FnSpySays.calls (k:Nat) (A0:Option Addr) (c0:Nat) (l0:List Int) (r:Bool) (w:World) (hr0:Kd.C (Kd.int .u8) w A0 l0.length l0) (hc0:l0.length≤c0) (hr_:Aside0 (r=true)) (h:laws_FnSpySays.f k l0=some r) :
  Calls Try.prog 16 #[.slice A0 l0.length c0] w fun e w'=>e = .returned (.bool r)∧Below w.heap.size w w':=by
 have hu36:=Try.underlying36
 have HR0:=mA hr0
 have HC0:=mA hc0
 clear hr0 hc0
 have HB:=mA (Below.refl w.heap.size w)
 have H:(if (l0.length:Int)>1048576 then (some true) else ((spec_DrawSpySays.f k l0).bind fun bt101=>((impl_SpySays.f k bt101.1 bt101.2.1 bt101.2.2).bind fun t109=>((spec_SpySays.f k bt101.1 bt101.2.1 bt101.2.2).bind fun t110=>(if (t109 != t110)=true then (some false) else ((spec_KindsOk.f k bt101.1).bind fun t111=>(if t111=true then ((spec_ClaimOk.f k (bt101.1.length:Int) bt101.2.1 bt101.2.2).bind fun t112=>(laws_FnSpySays.j0 k bt101.1 t109 (!t112) bt101.2.1 bt101.2.2)) else (laws_FnSpySays.j0 k bt101.1 t109 true bt101.2.1 bt101.2.2))))))))=some r:=h
 clear h
 by_cases c2:(l0.length:Int)>1048576
 ·rw [if_pos c2] at H
  have c2b0:decide (1048576<(l0.length:Int))=true:=decide_eq_true c2
  have c2b1:decide (1048576<l0.length)=true:=decide_eq_true (by omega)
  clear c2
  obtain rfl:=Option.some.inj H
  go_enter Try.func16,Try.ntmps16
  go_wp2
  go_ret
  exact ⟨by first|rfl|(simp [errW_none,errW_some]<;>rfl)|(simp [*, errW_none,errW_some]<;>rfl),by repeat (first|(with_reducible first|exact HB.out|apply bA|apply bN|apply bD)|exact HB.out)⟩
 ·rw [if_neg c2] at H
  have c2b0:decide (1048576<(l0.length:Int))=false:=decide_eq_false c2
  have c2b1:decide (1048576<l0.length)=false:=decide_eq_false (by omega)
  clear c2
  replace H:=Option.bind_eq_some_iff.mp H
  obtain ⟨⟨t101,t104,t105⟩,A30,H⟩:=H
  replace H:((impl_SpySays.f k t101 t104 t105).bind fun t109=>((spec_SpySays.f k t101 t104 t105).bind fun t110=>(if (t109 != t110)=true then (some false) else ((spec_KindsOk.f k t101).bind fun t111=>(if t111=true then ((spec_ClaimOk.f k (t101.length:Int) t104 t105).bind fun t112=>(laws_FnSpySays.j0 k t101 t109 (!t112) t104 t105)) else (laws_FnSpySays.j0 k t101 t109 true t104 t105))))))=some r:=H
  have A3:=mA A30
  clear A30
  replace H:=Option.bind_eq_some_iff.mp H
  obtain ⟨t109,A40,H⟩:=H
  replace H:((spec_SpySays.f k t101 t104 t105).bind fun t110=>(if (t109 != t110)=true then (some false) else ((spec_KindsOk.f k t101).bind fun t111=>(if t111=true then ((spec_ClaimOk.f k (t101.length:Int) t104 t105).bind fun t112=>(laws_FnSpySays.j0 k t101 t109 (!t112) t104 t105)) else (laws_FnSpySays.j0 k t101 t109 true t104 t105)))))=some r:=H
  have A4:=mA A40
  clear A40
  replace H:=Option.bind_eq_some_iff.mp H
  obtain ⟨t110,A50,H⟩:=H
  replace H:(if (t109 != t110)=true then (some false) else ((spec_KindsOk.f k t101).bind fun t111=>(if t111=true then ((spec_ClaimOk.f k (t101.length:Int) t104 t105).bind fun t112=>(laws_FnSpySays.j0 k t101 t109 (!t112) t104 t105)) else (laws_FnSpySays.j0 k t101 t109 true t104 t105))))=some r:=H
  have A5:=mA A50
  clear A50
  by_cases c6:(t109 != t110)=true
  ·rw [if_pos c6] at H
   have c6b0:(t109 != t110)=true:=c6
   (try (have c6b1:decide (t109=t110)=false:=by simpa using c6))
   (try (have c6b2:(t109==t110)=false:=by simpa using c6))
   (try (have c6b3 : ¬ (t109=t110):=by simpa using c6))
   clear c6
   exact absurd ((Option.some.inj H).trans hr_.out) (by decide)
  ·rw [if_neg c6] at H
   have c6b0:(t109 != t110)=false:=by simpa using c6
   (try (have c6b1:decide (t109=t110)=true:=by simpa using c6))
   (try (have c6b2:(t109==t110)=true:=by simpa using c6))
   clear c6
   have HC7:=mA H
   clear H
   go_enter Try.func16,Try.ntmps16
   go_upto_region 7 with (first|((with_reducible refine gate_callee (f:=80) rfl ?_);refine goesL_ (some 14) rfl rfl Try.func80 (by kernel_rfl) rfl #[.slice A0 l0.length c0] rfl (by (try simp only [mT,mC,mN]);first|done|rfl|(simp only [lD,lT];rfl)) ?_;(with_reducible refine (spec_DrawSpySays.calls k _ _ l0 t101 t104 t105 _ ?side1 ?side2 A3.out).mono ?_);(case side1=>repeat (first|exact HR0.out|(with_reducible refine cA ?_ _)|(with_reducible refine cN ?_ _)|(with_reducible refine cD ?_)));(case side2=>exact HC0.out);rintro e w8 ⟨v102,v106,rfl,ho0,ho1,hb⟩;refine ⟨_,rfl,?_⟩;have n0_:=mA (Kd.R_lower ho0 (bZ (by repeat (first|(with_reducible first|exact HB.out|apply bA|apply bN|apply bD)|exact HB.out))));have n1_:=mA (Kd.R_lower ho1 (bZ (by repeat (first|(with_reducible first|exact HB.out|apply bA|apply bN|apply bD)|exact HB.out))));have n2_:=mA (bT (by repeat (first|(with_reducible first|exact HB.out|apply bA|apply bN|apply bD)|exact HB.out)) hb);clear HB;have HO103:=n0_;have HO107:=n1_;have HB:=n2_;clear n0_ n1_ n2_;(try clear hb);(try clear hb2);(try clear hk);(try clear hi);(try clear ho0);(try clear ho1))|((with_reducible refine gate_dst (N:=4) rfl ?_);(try (refine gate_guard (by rfl) ?_;dsimp only));refine box_event ?hg (N:=4) ?hd (cs:=#[.int .i64 0,.slice none 0 0]) (t:=36) ?hr ?_;(case hd=>rfl);(case hg=>rfl);(case hr=>first|(go_simp;done)|(go_simp;rfl));intro gb108 hg w9 hbox hb;have n0_:=mA (rB (by (with_reducible repeat (first|apply rA|apply rN|apply rD));exact HO103.out) hb);have n1_:=mA (rB (by (with_reducible repeat (first|apply rA|apply rN|apply rD));exact HO107.out) hb);have n2_:=mA (bT (by repeat (first|(with_reducible first|exact HB.out|apply bA|apply bN|apply bD)|exact HB.out)) hb);have n3_:=mA (hbox);have n4_:=mA ((by rw [hg];exact (bZ (by repeat (first|(with_reducible first|exact HB.out|apply bA|apply bN|apply bD)|exact HB.out))):w.heap.size≤gb108));have n5_:=mA ((by rw [hg];exact (bZ (by repeat (first|(with_reducible first|exact HB.out|apply bA|apply bN|apply bD)|exact HB.out))):w.heap.size≤gb108));clear HO103 HO107 HB;have HO103:=n0_;have HO107:=n1_;have HB:=n2_;have BK108:=n3_;have GW108:=n4_;have GE108:=n5_;clear n0_ n1_ n2_ n3_ n4_ n5_ hb hbox hg;have hcz10_0:w9.cell? ⟨gb108,0,none⟩=some (.int .i64 0):=(kC BK108.out 0).trans rfl;have hcz10_1:w9.cell? ⟨gb108,1,none⟩=some (.slice none 0 0):=(kC BK108.out 1).trans rfl;have hfz10_0:=kF BK108.out 0;have hfz10_1:=kF BK108.out 1;obtain ⟨Ao11,co11,eo11⟩:=Kd.R_slice HO107.out;subst eo11;obtain ⟨Ao12,co12,eo12⟩:=Kd.R_slice HO103.out;subst eo12)|((with_reducible refine gate_callee (f:=31) rfl ?_);refine goesL_ (some 19) rfl rfl Try.func31 (by kernel_rfl) rfl #[.slice Ao12 t101.length co12,.agg #[.int .i64 t104,.slice Ao11 t105.length co11]] rfl (by (try simp only [mT,mC,mN]);first|done|rfl|(simp only [lD,lT];rfl)) ?_;(with_reducible refine (impl_SpySays.calls k _ _ t101 t104 _ _ t105 t109 _ ?side1 ?side2 ?side3 ?side4 A4.out).mono ?_);(case side1=>refine (rR (e:=3) (base:=w.heap.size) (ok:=fun k_=>True) (n:=t101.length) (c:=co12) ?_).2.2;exact (by (with_reducible repeat (first|apply rA|apply rN|apply rD));exact (rM (rF (p:=⟨gb108,1,none⟩) (rF (p:=⟨gb108,0,none⟩) (Kd.R_types HO103.out BK108.out (by decide)) (fun _ hk=>hk.2) (.int .i64 t104)) (fun _ hk=>hk.2) (.slice Ao11 t105.length co11)) (fun _ h_=>h_.1))));(case side2=>exact (rR HO103.out).2.1);(case side3=>refine (rR (e:=33) (base:=w.heap.size) (ok:=fun k_=>True) (n:=t105.length) (c:=co11) ?_).2.2;exact (by (with_reducible repeat (first|apply rA|apply rN|apply rD));exact (rM (rF (p:=⟨gb108,1,none⟩) (rF (p:=⟨gb108,0,none⟩) (Kd.R_types HO107.out BK108.out (by decide)) (fun _ hk=>hk.2) (.int .i64 t104)) (fun _ hk=>hk.2) (.slice Ao11 t105.length co11)) (fun _ h_=>h_.1))));(case side4=>exact (rR HO107.out).2.1);rintro e w13 ⟨rfl,hb⟩;refine ⟨_,rfl,?_⟩;have n0_:=mA (rB (by (with_reducible repeat (first|apply rA|apply rN|apply rD));exact (rM (rF (p:=⟨gb108,1,none⟩) (rF (p:=⟨gb108,0,none⟩) (Kd.R_types HO103.out BK108.out (by decide)) (fun _ hk=>hk.2) (.int .i64 t104)) (fun _ hk=>hk.2) (.slice Ao11 t105.length co11)) (fun _ h_=>h_.1))) hb);have n1_:=mA (rB (by (with_reducible repeat (first|apply rA|apply rN|apply rD));exact (rM (rF (p:=⟨gb108,1,none⟩) (rF (p:=⟨gb108,0,none⟩) (Kd.R_types HO107.out BK108.out (by decide)) (fun _ hk=>hk.2) (.int .i64 t104)) (fun _ hk=>hk.2) (.slice Ao11 t105.length co11)) (fun _ h_=>h_.1))) hb);have n2_:=mA (blk_below (g:=gb108) (o:=.cells #[.int .i64 t104,.slice Ao11 t105.length co11] 36 (0,0)) (by (with_reducible repeat (first|refine kN ?_ _|refine kD ?_|refine kA ?_ _));refine blk_put (cs:=#[.int .i64 t104,.slice none 0 0]) ?_ 1 _ rfl;(with_reducible repeat (first|refine kN ?_ _|refine kD ?_|refine kA ?_ _));refine blk_put (cs:=#[.int .i64 0,.slice none 0 0]) ?_ 0 _ rfl;(with_reducible repeat (first|refine kN ?_ _|refine kD ?_|refine kA ?_ _));exact BK108.out) hb);have n3_:=mA (bT (by repeat (first|(with_reducible first|exact HB.out|apply bA|apply bN|apply bD|refine bS ?_ GE108.out)|exact HB.out)) hb);clear HO103 HO107 BK108 HB;have HO103:=n0_;have HO107:=n1_;have BK108:=n2_;have HB:=n3_;clear n0_ n1_ n2_ n3_;(try clear hb);(try clear hb2);(try clear hk);(try clear hi);have hcz14_0:w13.cell? ⟨gb108,0,none⟩=some (.int .i64 t104):=(kC BK108.out 0).trans rfl;have hcz14_1:w13.cell? ⟨gb108,1,none⟩=some (.slice Ao11 t105.length co11):=(kC BK108.out 1).trans rfl;have hfz14_0:=kF BK108.out 0;have hfz14_1:=kF BK108.out 1)|((with_reducible refine gate_callee (f:=28) rfl ?_);refine goesL_ (some 23) rfl rfl Try.func28 (by kernel_rfl) rfl #[.slice Ao12 t101.length co12,.agg #[.int .i64 t104,.slice Ao11 t105.length co11]] rfl (by (try simp only [mT,mC,mN]);first|done|rfl|(simp only [lD,lT];rfl)) ?_;(with_reducible refine (spec_SpySays.calls k _ _ t101 t104 _ _ t105 t110 _ ?side1 ?side2 ?side3 ?side4 A5.out).mono ?_);(case side1=>repeat (first|exact (rR HO103.out).2.2|(with_reducible refine cA ?_ _)|(with_reducible refine cN ?_ _)|(with_reducible refine cD ?_)));(case side2=>exact (rR HO103.out).2.1);(case side3=>repeat (first|exact (rR HO107.out).2.2|(with_reducible refine cA ?_ _)|(with_reducible refine cN ?_ _)|(with_reducible refine cD ?_)));(case side4=>exact (rR HO107.out).2.1);rintro e w15 ⟨rfl,hb⟩;refine ⟨_,rfl,?_⟩;have n0_:=mA (rB (by (with_reducible repeat (first|apply rA|apply rN|apply rD));exact HO103.out) hb);have n1_:=mA (rB (by (with_reducible repeat (first|apply rA|apply rN|apply rD));exact HO107.out) hb);have n2_:=mA (blk_below (g:=gb108) (o:=.cells #[.int .i64 t104,.slice Ao11 t105.length co11] 36 (0,0)) (by (with_reducible repeat (first|refine kN ?_ _|refine kD ?_|refine kA ?_ _));exact BK108.out) hb);have n3_:=mA (bT (by repeat (first|(with_reducible first|exact HB.out|apply bA|apply bN|apply bD|refine bS ?_ GE108.out)|exact HB.out)) hb);clear HO103 HO107 BK108 HB;have HO103:=n0_;have HO107:=n1_;have BK108:=n2_;have HB:=n3_;clear n0_ n1_ n2_ n3_;(try clear hb);(try clear hb2);(try clear hk);(try clear hi)))
   (try simp only [Act.put,sA,sZ,sS])
   go_cut [34] (fun v34 wc=>∃ (kq:Nat) (x34_6:Bool),v34 = .bool x34_6∧Aside0 (laws_FnSpySays.j0 kq t101 t109 x34_6 t104 t105=some r)∧Aside0 (kq≤k)∧Aside0 (Kd.R (Kd.int .i64) 3 wc w.heap.size (fun _=>True) (.slice Ao12 t101.length co12) t101)∧Aside0 (Kd.R k33 33 wc w.heap.size (fun _=>True) (.slice Ao11 t105.length co11) t105)∧Aside0 (wc.heap[gb108]?=some (.cells #[.int .i64 t104,(.slice Ao11 t105.length co11)] 36 (0,0)))∧Aside0 (Below w.heap.size w wc))
   case first =>
    have H:=HC7.out
    clear HC7
    replace H:=Option.bind_eq_some_iff.mp H
    obtain ⟨t111,A160,H⟩:=H
    replace H:(if t111=true then ((spec_ClaimOk.f k (t101.length:Int) t104 t105).bind fun t112=>(laws_FnSpySays.j0 k t101 t109 (!t112) t104 t105)) else (laws_FnSpySays.j0 k t101 t109 true t104 t105))=some r:=H
    have A16:=mA A160
    clear A160
    by_cases c17:t111=true
    ·subst c17
     have H1:((spec_ClaimOk.f k (t101.length:Int) t104 t105).bind fun t112=>(laws_FnSpySays.j0 k t101 t109 (!t112) t104 t105))=some r:=by rw [if_pos rfl] at H;exact H
     clear H
     have H:=H1
     clear H1
     replace H:=Option.bind_eq_some_iff.mp H
     obtain ⟨t112,A180,H⟩:=H
     replace H:(laws_FnSpySays.j0 k t101 t109 (!t112) t104 t105)=some r:=H
     have A18:=mA A180
     clear A180
     have H':=mA H
     clear H
     go_wp2_with (first|((with_reducible refine gate_callee (f:=81) rfl ?_);refine goesL_ (some 26) rfl rfl Try.func81 (by kernel_rfl) rfl #[.slice Ao12 t101.length co12] rfl (by (try simp only [mT,mC,mN]);first|done|rfl|(simp only [lD,lT];rfl)) ?_;(with_reducible refine (spec_KindsOk.calls k _ _ t101 true _ ?side1 ?side2 A16.out).mono ?_);(case side1=>repeat (first|exact (rR HO103.out).2.2|(with_reducible refine cA ?_ _)|(with_reducible refine cN ?_ _)|(with_reducible refine cD ?_)));(case side2=>exact (rR HO103.out).2.1);rintro e w' ⟨rfl,⟨nd,rfl⟩⟩;refine ⟨_,rfl,?_⟩;have hcz19_0:w15.cell? ⟨gb108,0,none⟩=some (.int .i64 t104):=(kC BK108.out 0).trans rfl;have hcz19_1:w15.cell? ⟨gb108,1,none⟩=some (.slice Ao11 t105.length co11):=(kC BK108.out 1).trans rfl;have hfz19_0:=kF BK108.out 0;have hfz19_1:=kF BK108.out 1)|(go_at_call 37;(with_reducible refine (spec_ClaimOk.calls k (t101.length:Int) t104 _ _ t105 t112 _ ?side1 ?side2 A18.out).mono ?_);(case side1=>repeat (first|exact (rR HO107.out).2.2|(with_reducible refine cA ?_ _)|(with_reducible refine cN ?_ _)|(with_reducible refine cD ?_)));(case side2=>exact (rR HO107.out).2.1);rintro e w20 ⟨rfl,hb⟩;have n0_:=mA (rB (by (with_reducible repeat (first|apply rA|apply rN|apply rD));exact HO103.out) hb);have n1_:=mA (rB (by (with_reducible repeat (first|apply rA|apply rN|apply rD));exact HO107.out) hb);have n2_:=mA (blk_below (g:=gb108) (o:=.cells #[.int .i64 t104,.slice Ao11 t105.length co11] 36 (0,0)) (by (with_reducible repeat (first|refine kN ?_ _|refine kD ?_|refine kA ?_ _));exact BK108.out) hb);have n3_:=mA (bT (by repeat (first|(with_reducible first|exact HB.out|apply bA|apply bN|apply bD|refine bS ?_ GE108.out)|exact HB.out)) hb);clear HO103 HO107 BK108 HB;have HO103:=n0_;have HO107:=n1_;have BK108:=n2_;have HB:=n3_;clear n0_ n1_ n2_ n3_;(try clear hb);(try clear hb2);(try clear hk);(try clear hi)))
     go_meet
     case rel=>exact ⟨_,(!t112),(by first|rfl|(simp;done)|(simp [*];done)),H',⟨by first|omega|exact Nat.le_refl _⟩,⟨by (with_reducible repeat (first|apply rA|apply rN|apply rD));exact HO103.out⟩,⟨by (with_reducible repeat (first|apply rA|apply rN|apply rD));exact HO107.out⟩,⟨by (with_reducible repeat (first|refine kN ?_ _|refine kD ?_|refine kA ?_ _));exact BK108.out⟩,⟨by repeat (first|(with_reducible first|exact HB.out|apply bA|apply bN|apply bD|refine bS ?_ GE108.out)|exact HB.out)⟩⟩
    ·replace c17:=Bool.eq_false_iff.mpr c17
     subst c17
     have H1:(laws_FnSpySays.j0 k t101 t109 true t104 t105)=some r:=by rw [if_neg (show ¬ (false=true) by decide)] at H;exact H
     clear H
     have H:=H1
     clear H1
     have H':=mA H
     clear H
     go_wp2_with (first|((with_reducible refine gate_callee (f:=81) rfl ?_);refine goesL_ (some 26) rfl rfl Try.func81 (by kernel_rfl) rfl #[.slice Ao12 t101.length co12] rfl (by (try simp only [mT,mC,mN]);first|done|rfl|(simp only [lD,lT];rfl)) ?_;(with_reducible refine (spec_KindsOk.calls k _ _ t101 false _ ?side1 ?side2 A16.out).mono ?_);(case side1=>repeat (first|exact (rR HO103.out).2.2|(with_reducible refine cA ?_ _)|(with_reducible refine cN ?_ _)|(with_reducible refine cD ?_)));(case side2=>exact (rR HO103.out).2.1);rintro e w' ⟨rfl,⟨nd,rfl⟩⟩;refine ⟨_,rfl,?_⟩))
     go_meet
     case rel=>exact ⟨_,(true),(by first|rfl|(simp;done)|(simp [*];done)),H',⟨by first|omega|exact Nat.le_refl _⟩,⟨by (with_reducible repeat (first|apply rA|apply rN|apply rD));exact HO103.out⟩,⟨by (with_reducible repeat (first|apply rA|apply rN|apply rD));exact HO107.out⟩,⟨by (with_reducible repeat (first|refine kN ?_ _|refine kD ?_|refine kA ?_ _));exact BK108.out⟩,⟨by repeat (first|(with_reducible first|exact HB.out|apply bA|apply bN|apply bD|refine bS ?_ GE108.out)|exact HB.out)⟩⟩
   case rest =>
    clear HC7
    try clear c1
    try clear c2
    try clear c2b0
    try clear c2b1
    try clear p2
    try clear c3
    try clear c6
    try clear c6b0
    try clear c6b1
    try clear c6b2
    try clear c8
    try clear c16
    try clear c17
    try clear hcz10_0
    try clear hcz10_1
    try clear hcz14_0
    try clear hcz14_1
    try clear hcz19_0
    try clear hcz19_1
    try clear hfz10_0
    try clear hfz10_1
    try clear hfz14_0
    try clear hfz14_1
    try clear hfz19_0
    try clear hfz19_1
    obtain ⟨kq,x34_6,rfl,HA,HJ6,HO_3,HO_109001,BK108,HB⟩:=hcut
    cases kq with
    | zero=>exact absurd HA.out (by simp [laws_FnSpySays.j0])
    | succ kj6 =>
     have H:=HA.out
     clear HA
     simp only [laws_FnSpySays.j0] at H
     by_cases c21:x34_6=true
     ·subst c21
      have H1:(if t109=true then (some false) else ((laws_alive.f).bind fun t113=>(some t113)))=some r:=by rw [if_pos rfl] at H;exact H
      clear H
      have H:=H1
      clear H1
      by_cases c22:t109=true
      ·subst c22
       have H1:(some false)=some r:=by rw [if_pos rfl] at H;exact H
       clear H
       have H:=H1
       clear H1
       exact absurd ((Option.some.inj H).trans hr_.out) (by decide)
      ·replace c22:=Bool.eq_false_iff.mpr c22
       subst c22
       have H1:((laws_alive.f).bind fun t113=>(some t113))=some r:=by rw [if_neg (show ¬ (false=true) by decide)] at H;exact H
       clear H
       have H:=H1
       clear H1
       replace H:=Option.bind_eq_some_iff.mp H
       obtain ⟨t113,A230,H⟩:=H
       replace H:(some t113)=some r:=H
       have A23:=mA A230
       clear A230
       obtain rfl:=Option.some.inj H
       go_wp2_with (first|(go_at_call 26;(with_reducible refine (laws_alive.calls  t113 _ A23.out).mono ?_);rintro e w' ⟨rfl,⟨nd,rfl⟩⟩))
       go_ret
       exact ⟨by first|rfl|(simp [errW_none,errW_some]<;>rfl)|(simp [*, errW_none,errW_some]<;>rfl),by repeat (first|(with_reducible first|exact HB.out|apply bA|apply bN|apply bD|refine bS ?_ GE108.out)|exact HB.out)⟩
     ·replace c21:=Bool.eq_false_iff.mpr c21
      subst c21
      have H1:((impl_DenyClaim.f kj6 (t101.length:Int) t104 t105).bind fun bt114=>((impl_SpySays.f kj6 t101 bt114.1 bt114.2.1).bind fun t120=>(if 0≤t104 then (if t104<(t101.length:Int) then (if (rd t101 t104)=2 then (if t109=true then (if bt114.2.2=true then (some t120) else (some true)) else (some false)) else (if bt114.2.2=true then (if (t120 != t109)=true then ((impl_WorldOfKinds.f kj6 t101).bind fun t122=>((impl_MaySay.f kj6 (t101.length:Int) t104 t105 t122).bind fun t123=>(some (t123==t109)))) else (some false)) else ((impl_WorldOfKinds.f kj6 t101).bind fun t124=>((impl_MaySay.f kj6 (t101.length:Int) t104 t105 t124).bind fun t125=>(some (t125==t109)))))) else (none)) else (none))))=some r:=by rw [if_neg (show ¬ (false=true) by decide)] at H;exact H
      clear H
      have H:=H1
      clear H1
      replace H:=Option.bind_eq_some_iff.mp H
      obtain ⟨⟨t114,t115,t118⟩,A240,H⟩:=H
      replace H:((impl_SpySays.f kj6 t101 t114 t115).bind fun t120=>(if 0≤t104 then (if t104<(t101.length:Int) then (if (rd t101 t104)=2 then (if t109=true then (if t118=true then (some t120) else (some true)) else (some false)) else (if t118=true then (if (t120 != t109)=true then ((impl_WorldOfKinds.f kj6 t101).bind fun t122=>((impl_MaySay.f kj6 (t101.length:Int) t104 t105 t122).bind fun t123=>(some (t123==t109)))) else (some false)) else ((impl_WorldOfKinds.f kj6 t101).bind fun t124=>((impl_MaySay.f kj6 (t101.length:Int) t104 t105 t124).bind fun t125=>(some (t125==t109)))))) else (none)) else (none)))=some r:=H
      have A24:=mA A240
      clear A240
      replace H:=Option.bind_eq_some_iff.mp H
      obtain ⟨t120,A250,H⟩:=H
      replace H:(if 0≤t104 then (if t104<(t101.length:Int) then (if (rd t101 t104)=2 then (if t109=true then (if t118=true then (some t120) else (some true)) else (some false)) else (if t118=true then (if (t120 != t109)=true then ((impl_WorldOfKinds.f kj6 t101).bind fun t122=>((impl_MaySay.f kj6 (t101.length:Int) t104 t105 t122).bind fun t123=>(some (t123==t109)))) else (some false)) else ((impl_WorldOfKinds.f kj6 t101).bind fun t124=>((impl_MaySay.f kj6 (t101.length:Int) t104 t105 t124).bind fun t125=>(some (t125==t109)))))) else (none)) else (none))=some r:=H
      have A25:=mA A250
      clear A250
      by_cases c26:0≤t104
      ·rw [if_pos c26] at H
       have c26b0:decide (0≤t104)=true:=decide_eq_true c26
       clear c26
       by_cases c27:t104<(t101.length:Int)
       ·rw [if_pos c27] at H
        have c27b0:decide (t104<(t101.length:Int))=true:=decide_eq_true c27
        clear c27
        by_cases c28:(rd t101 t104)=2
        ·rw [if_pos c28] at H
         have c28b0:((rd t101 t104)==2)=true:=beq_iff_eq.mpr c28
         have c28b1:((rd t101 t104) != 2)=false:=bne_eq_false_iff_eq.mpr c28
         clear c28
         by_cases c29:t109=true
         ·subst c29
          have H1:(if t118=true then (some t120) else (some true))=some r:=by rw [if_pos rfl] at H;exact H
          clear H
          have H:=H1
          clear H1
          by_cases c30:t118=true
          ·subst c30
           have H1:(some t120)=some r:=by rw [if_pos rfl] at H;exact H
           clear H
           have H:=H1
           clear H1
           obtain rfl:=Option.some.inj H
           have hcz31_0:wc.cell? ⟨gb108,0,none⟩=some (.int .i64 t104):=(kC BK108.out 0).trans rfl
           have hcz31_1:wc.cell? ⟨gb108,1,none⟩=some (.slice Ao11 t105.length co11):=(kC BK108.out 1).trans rfl
           have hfz31_0:=kF BK108.out 0
           have hfz31_1:=kF BK108.out 1
           go_wp2_with (first|((with_reducible refine gate_callee (f:=39) rfl ?_);refine goesL_ (some 44) rfl rfl Try.func39 (by kernel_rfl) rfl #[.int .i64 (t101.length:Int),.agg #[.int .i64 t104,.slice Ao11 t105.length co11]] rfl (by (try simp only [mT,mC,mN]);first|done|rfl|(simp only [lD,lT];rfl)) ?_;(with_reducible refine (impl_DenyClaim.calls kj6 (t101.length:Int) t104 _ _ t105 t114 t115 true _ ?side1 ?side2 A24.out).mono ?_);(case side1=>repeat (first|exact (rR HO_109001.out).2.2|(with_reducible refine cA ?_ _)|(with_reducible refine cN ?_ _)|(with_reducible refine cD ?_)));(case side2=>exact (rR HO_109001.out).2.1);rintro e w32 ⟨v116,rfl,ho0,hb⟩;refine ⟨_,rfl,?_⟩;have n0_:=mA (rB (by (with_reducible repeat (first|apply rA|apply rN|apply rD));exact HO_3.out) hb);have n1_:=mA (Kd.R_elder' (by (with_reducible repeat (first|apply rA|apply rN|apply rD));exact HO_109001.out) (Kd.R_base ho0) hb);have n2_:=mA (Kd.R_lower (Kd.R_new' ho0 (rL (by (with_reducible repeat (first|apply rA|apply rN|apply rD));exact HO_109001.out))) (bZ (by repeat (first|(with_reducible first|exact HB.out|apply bA|apply bN|apply bD|refine bS ?_ GE108.out)|exact HB.out))));have n3_:=mA (blk_below (g:=gb108) (o:=.cells #[.int .i64 t104,.slice Ao11 t105.length co11] 36 (0,0)) (by (with_reducible repeat (first|refine kN ?_ _|refine kD ?_|refine kA ?_ _));exact BK108.out) hb);have n4_:=mA (bT (by repeat (first|(with_reducible first|exact HB.out|apply bA|apply bN|apply bD|refine bS ?_ GE108.out)|exact HB.out)) hb);clear HO_3 HO_109001 BK108 HB;have HO_3:=n0_;have HO_109001:=n1_;have HO117:=n2_;have BK108:=n3_;have HB:=n4_;clear n0_ n1_ n2_ n3_ n4_;(try clear hb);(try clear hb2);(try clear hk);(try clear hi);(try clear ho0))|((with_reducible refine gate_dst (N:=6) rfl ?_);(try (refine gate_guard (by rfl) ?_;dsimp only));refine box_event ?hg (N:=6) ?hd (cs:=#[.int .i64 0,.slice none 0 0]) (t:=36) ?hr ?_;(case hd=>rfl);(case hg=>rfl);(case hr=>first|(go_simp;done)|(go_simp;rfl));intro gb119 hg w33 hbox hb;have n0_:=mA (rB (by (with_reducible repeat (first|apply rA|apply rN|apply rD));exact HO_3.out) hb);have n1_:=mA (rB (by (with_reducible repeat (first|apply rA|apply rN|apply rD));exact HO_109001.out) hb);have n2_:=mA (rB (by (with_reducible repeat (first|apply rA|apply rN|apply rD));exact HO117.out) hb);have n3_:=mA (blk_below (g:=gb108) (o:=.cells #[.int .i64 t104,.slice Ao11 t105.length co11] 36 (0,0)) (by (with_reducible repeat (first|refine kN ?_ _|refine kD ?_|refine kA ?_ _));exact BK108.out) hb);have n4_:=mA (bT (by repeat (first|(with_reducible first|exact HB.out|apply bA|apply bN|apply bD|refine bS ?_ GE108.out)|exact HB.out)) hb);have n5_:=mA (hbox);have n6_:=mA ((by rw [hg];exact (bZ (by repeat (first|(with_reducible first|exact HB.out|apply bA|apply bN|apply bD|refine bS ?_ GE108.out)|exact HB.out))):w.heap.size≤gb119));have n7_:=mA ((by rw [hg];exact (bZ (by repeat (first|(with_reducible first|exact HB.out|apply bA|apply bN|apply bD|refine bS ?_ GE108.out)|exact HB.out))):w.heap.size≤gb119));have n8_:=mA ((by rw [hg];exact Nat.ne_of_lt (blk_lt (g:=gb108) (o:=.cells #[.int .i64 t104,.slice Ao11 t105.length co11] 36 (0,0)) (by (with_reducible repeat (first|refine kN ?_ _|refine kD ?_|refine kA ?_ _));exact BK108.out)):gb108≠gb119));have n9_:=mA ((by rw [hg];exact Nat.ne_of_gt (blk_lt (g:=gb108) (o:=.cells #[.int .i64 t104,.slice Ao11 t105.length co11] 36 (0,0)) (by (with_reducible repeat (first|refine kN ?_ _|refine kD ?_|refine kA ?_ _));exact BK108.out)):gb119≠gb108));clear HO_3 HO_109001 HO117 BK108 HB;have HO_3:=n0_;have HO_109001:=n1_;have HO117:=n2_;have BK108:=n3_;have HB:=n4_;have BK119:=n5_;have GW119:=n6_;have GE119:=n7_;have NB108_119:=n8_;have NB119_108:=n9_;clear n0_ n1_ n2_ n3_ n4_ n5_ n6_ n7_ n8_ n9_ hb hbox hg;have hnb34:=NB119_108.out;have hnc34:=NB108_119.out;have hcz35_0:w33.cell? ⟨gb119,0,none⟩=some (.int .i64 0):=(kC BK119.out 0).trans rfl;have hcz35_1:w33.cell? ⟨gb119,1,none⟩=some (.slice none 0 0):=(kC BK119.out 1).trans rfl;have hfz35_0:=kF BK119.out 0;have hfz35_1:=kF BK119.out 1;obtain ⟨Ao36,co36,eo36⟩:=Kd.R_slice HO117.out;subst eo36)|((with_reducible refine gate_callee (f:=31) rfl ?_);refine goesL_ (some 49) rfl rfl Try.func31 (by kernel_rfl) rfl #[.slice Ao12 t101.length co12,.agg #[.int .i64 t114,.slice Ao36 t115.length co36]] rfl (by (try simp only [mT,mC,mN]);first|done|rfl|(simp only [lD,lT];rfl)) ?_;(with_reducible refine (impl_SpySays.calls kj6 _ _ t101 t114 _ _ t115 t120 _ ?side1 ?side2 ?side3 ?side4 A25.out).mono ?_);(case side1=>refine (rR (e:=3) (base:=w.heap.size) (ok:=fun k_=>True) (n:=t101.length) (c:=co12) ?_).2.2;exact (by (with_reducible repeat (first|apply rA|apply rN|apply rD));exact (rM (rF (p:=⟨gb119,1,none⟩) (rF (p:=⟨gb119,0,none⟩) (Kd.R_types HO_3.out BK119.out (by decide)) (fun _ hk=>hk.2) (.int .i64 t114)) (fun _ hk=>hk.2) (.slice Ao36 t115.length co36)) (fun _ h_=>h_.1))));(case side2=>exact (rR HO_3.out).2.1);(case side3=>refine (rR (e:=33) (base:=w.heap.size) (ok:=fun k_=>(True∧some k_≠(.slice Ao11 t105.length co11:Value).ownBlock)) (n:=t115.length) (c:=co36) ?_).2.2;exact (by (with_reducible repeat (first|apply rA|apply rN|apply rD));exact (rM (rF (p:=⟨gb119,1,none⟩) (rF (p:=⟨gb119,0,none⟩) (Kd.R_types HO117.out BK119.out (by decide)) (fun _ hk=>hk.2) (.int .i64 t114)) (fun _ hk=>hk.2) (.slice Ao36 t115.length co36)) (fun _ h_=>h_.1))));(case side4=>exact (rR HO117.out).2.1);rintro e w37 ⟨rfl,hb⟩;refine ⟨_,rfl,?_⟩;have n0_:=mA (rB (by (with_reducible repeat (first|apply rA|apply rN|apply rD));exact (rM (rF (p:=⟨gb119,1,none⟩) (rF (p:=⟨gb119,0,none⟩) (Kd.R_types HO_3.out BK119.out (by decide)) (fun _ hk=>hk.2) (.int .i64 t114)) (fun _ hk=>hk.2) (.slice Ao36 t115.length co36)) (fun _ h_=>h_.1))) hb);have n1_:=mA (rB (by (with_reducible repeat (first|apply rA|apply rN|apply rD));exact (rM (rF (p:=⟨gb119,1,none⟩) (rF (p:=⟨gb119,0,none⟩) (Kd.R_types HO_109001.out BK119.out (by decide)) (fun _ hk=>hk.2) (.int .i64 t114)) (fun _ hk=>hk.2) (.slice Ao36 t115.length co36)) (fun _ h_=>h_.1))) hb);have n2_:=mA (rB (by (with_reducible repeat (first|apply rA|apply rN|apply rD));exact (rM (rF (p:=⟨gb119,1,none⟩) (rF (p:=⟨gb119,0,none⟩) (Kd.R_types HO117.out BK119.out (by decide)) (fun _ hk=>hk.2) (.int .i64 t114)) (fun _ hk=>hk.2) (.slice Ao36 t115.length co36)) (fun _ h_=>h_.1))) hb);have n3_:=mA (blk_below (g:=gb108) (o:=.cells #[.int .i64 t104,.slice Ao11 t105.length co11] 36 (0,0)) (by (with_reducible repeat (first|refine kN ?_ _|refine kD ?_|refine kA ?_ _));refine blk_far ?_ NB108_119.out _;(with_reducible repeat (first|refine kN ?_ _|refine kD ?_|refine kA ?_ _));refine blk_far ?_ NB108_119.out _;(with_reducible repeat (first|refine kN ?_ _|refine kD ?_|refine kA ?_ _));exact BK108.out) hb);have n4_:=mA (blk_below (g:=gb119) (o:=.cells #[.int .i64 t114,.slice Ao36 t115.length co36] 36 (0,0)) (by (with_reducible repeat (first|refine kN ?_ _|refine kD ?_|refine kA ?_ _));refine blk_put (cs:=#[.int .i64 t114,.slice none 0 0]) ?_ 1 _ rfl;(with_reducible repeat (first|refine kN ?_ _|refine kD ?_|refine kA ?_ _));refine blk_put (cs:=#[.int .i64 0,.slice none 0 0]) ?_ 0 _ rfl;(with_reducible repeat (first|refine kN ?_ _|refine kD ?_|refine kA ?_ _));exact BK119.out) hb);have n5_:=mA (bT (by repeat (first|(with_reducible first|exact HB.out|apply bA|apply bN|apply bD|refine bS ?_ GE108.out|refine bS ?_ GE119.out)|exact HB.out)) hb);clear HO_3 HO_109001 HO117 BK108 BK119 HB;have HO_3:=n0_;have HO_109001:=n1_;have HO117:=n2_;have BK108:=n3_;have BK119:=n4_;have HB:=n5_;clear n0_ n1_ n2_ n3_ n4_ n5_;(try clear hb);(try clear hb2);(try clear hk);(try clear hi);have hcz38_0:w37.cell? ⟨gb108,0,none⟩=some (.int .i64 t104):=(kC BK108.out 0).trans rfl;have hcz38_1:w37.cell? ⟨gb108,1,none⟩=some (.slice Ao11 t105.length co11):=(kC BK108.out 1).trans rfl;have hfz38_0:=kF BK108.out 0;have hfz38_1:=kF BK108.out 1;have p121:0≤(t104:Int):=of_decide_eq_true (by first|(with_reducible assumption)|assumption);have q121:t104<(t101.length:Int):=of_decide_eq_true (by first|(with_reducible assumption)|assumption);obtain ⟨ad121,e121,hx121_0⟩:=Kd.at_int (rR HO_3.out).2.2 t104 p121 q121;cases e121;replace p121:=eq_true p121;replace q121:=eq_true q121))
           go_ret
           exact ⟨by first|rfl|(simp [errW_none,errW_some]<;>rfl)|(simp [*, errW_none,errW_some]<;>rfl),by repeat (first|(with_reducible first|exact HB.out|apply bA|apply bN|apply bD|refine bS ?_ GE108.out|refine bS ?_ GE119.out)|exact HB.out)⟩
          ·replace c30:=Bool.eq_false_iff.mpr c30
           subst c30
           have H1:(some true)=some r:=by rw [if_neg (show ¬ (false=true) by decide)] at H;exact H
           clear H
           have H:=H1
           clear H1
           obtain rfl:=Option.some.inj H
           have hcz39_0:wc.cell? ⟨gb108,0,none⟩=some (.int .i64 t104):=(kC BK108.out 0).trans rfl
           have hcz39_1:wc.cell? ⟨gb108,1,none⟩=some (.slice Ao11 t105.length co11):=(kC BK108.out 1).trans rfl
           have hfz39_0:=kF BK108.out 0
           have hfz39_1:=kF BK108.out 1
           go_wp2_with (first|((with_reducible refine gate_callee (f:=39) rfl ?_);refine goesL_ (some 44) rfl rfl Try.func39 (by kernel_rfl) rfl #[.int .i64 (t101.length:Int),.agg #[.int .i64 t104,.slice Ao11 t105.length co11]] rfl (by (try simp only [mT,mC,mN]);first|done|rfl|(simp only [lD,lT];rfl)) ?_;(with_reducible refine (impl_DenyClaim.calls kj6 (t101.length:Int) t104 _ _ t105 t114 t115 false _ ?side1 ?side2 A24.out).mono ?_);(case side1=>repeat (first|exact (rR HO_109001.out).2.2|(with_reducible refine cA ?_ _)|(with_reducible refine cN ?_ _)|(with_reducible refine cD ?_)));(case side2=>exact (rR HO_109001.out).2.1);rintro e w40 ⟨v116,rfl,ho0,hb⟩;refine ⟨_,rfl,?_⟩;have n0_:=mA (rB (by (with_reducible repeat (first|apply rA|apply rN|apply rD));exact HO_3.out) hb);have n1_:=mA (Kd.R_elder' (by (with_reducible repeat (first|apply rA|apply rN|apply rD));exact HO_109001.out) (Kd.R_base ho0) hb);have n2_:=mA (Kd.R_lower (Kd.R_new' ho0 (rL (by (with_reducible repeat (first|apply rA|apply rN|apply rD));exact HO_109001.out))) (bZ (by repeat (first|(with_reducible first|exact HB.out|apply bA|apply bN|apply bD|refine bS ?_ GE108.out)|exact HB.out))));have n3_:=mA (blk_below (g:=gb108) (o:=.cells #[.int .i64 t104,.slice Ao11 t105.length co11] 36 (0,0)) (by (with_reducible repeat (first|refine kN ?_ _|refine kD ?_|refine kA ?_ _));exact BK108.out) hb);have n4_:=mA (bT (by repeat (first|(with_reducible first|exact HB.out|apply bA|apply bN|apply bD|refine bS ?_ GE108.out)|exact HB.out)) hb);clear HO_3 HO_109001 BK108 HB;have HO_3:=n0_;have HO_109001:=n1_;have HO117:=n2_;have BK108:=n3_;have HB:=n4_;clear n0_ n1_ n2_ n3_ n4_;(try clear hb);(try clear hb2);(try clear hk);(try clear hi);(try clear ho0))|((with_reducible refine gate_dst (N:=6) rfl ?_);(try (refine gate_guard (by rfl) ?_;dsimp only));refine box_event ?hg (N:=6) ?hd (cs:=#[.int .i64 0,.slice none 0 0]) (t:=36) ?hr ?_;(case hd=>rfl);(case hg=>rfl);(case hr=>first|(go_simp;done)|(go_simp;rfl));intro gb119 hg w41 hbox hb;have n0_:=mA (rB (by (with_reducible repeat (first|apply rA|apply rN|apply rD));exact HO_3.out) hb);have n1_:=mA (rB (by (with_reducible repeat (first|apply rA|apply rN|apply rD));exact HO_109001.out) hb);have n2_:=mA (rB (by (with_reducible repeat (first|apply rA|apply rN|apply rD));exact HO117.out) hb);have n3_:=mA (blk_below (g:=gb108) (o:=.cells #[.int .i64 t104,.slice Ao11 t105.length co11] 36 (0,0)) (by (with_reducible repeat (first|refine kN ?_ _|refine kD ?_|refine kA ?_ _));exact BK108.out) hb);have n4_:=mA (bT (by repeat (first|(with_reducible first|exact HB.out|apply bA|apply bN|apply bD|refine bS ?_ GE108.out)|exact HB.out)) hb);have n5_:=mA (hbox);have n6_:=mA ((by rw [hg];exact (bZ (by repeat (first|(with_reducible first|exact HB.out|apply bA|apply bN|apply bD|refine bS ?_ GE108.out)|exact HB.out))):w.heap.size≤gb119));have n7_:=mA ((by rw [hg];exact (bZ (by repeat (first|(with_reducible first|exact HB.out|apply bA|apply bN|apply bD|refine bS ?_ GE108.out)|exact HB.out))):w.heap.size≤gb119));have n8_:=mA ((by rw [hg];exact Nat.ne_of_lt (blk_lt (g:=gb108) (o:=.cells #[.int .i64 t104,.slice Ao11 t105.length co11] 36 (0,0)) (by (with_reducible repeat (first|refine kN ?_ _|refine kD ?_|refine kA ?_ _));exact BK108.out)):gb108≠gb119));have n9_:=mA ((by rw [hg];exact Nat.ne_of_gt (blk_lt (g:=gb108) (o:=.cells #[.int .i64 t104,.slice Ao11 t105.length co11] 36 (0,0)) (by (with_reducible repeat (first|refine kN ?_ _|refine kD ?_|refine kA ?_ _));exact BK108.out)):gb119≠gb108));clear HO_3 HO_109001 HO117 BK108 HB;have HO_3:=n0_;have HO_109001:=n1_;have HO117:=n2_;have BK108:=n3_;have HB:=n4_;have BK119:=n5_;have GW119:=n6_;have GE119:=n7_;have NB108_119:=n8_;have NB119_108:=n9_;clear n0_ n1_ n2_ n3_ n4_ n5_ n6_ n7_ n8_ n9_ hb hbox hg;have hnb42:=NB119_108.out;have hnc42:=NB108_119.out;have hcz43_0:w41.cell? ⟨gb119,0,none⟩=some (.int .i64 0):=(kC BK119.out 0).trans rfl;have hcz43_1:w41.cell? ⟨gb119,1,none⟩=some (.slice none 0 0):=(kC BK119.out 1).trans rfl;have hfz43_0:=kF BK119.out 0;have hfz43_1:=kF BK119.out 1;obtain ⟨Ao44,co44,eo44⟩:=Kd.R_slice HO117.out;subst eo44)|((with_reducible refine gate_callee (f:=31) rfl ?_);refine goesL_ (some 49) rfl rfl Try.func31 (by kernel_rfl) rfl #[.slice Ao12 t101.length co12,.agg #[.int .i64 t114,.slice Ao44 t115.length co44]] rfl (by (try simp only [mT,mC,mN]);first|done|rfl|(simp only [lD,lT];rfl)) ?_;(with_reducible refine (impl_SpySays.calls kj6 _ _ t101 t114 _ _ t115 t120 _ ?side1 ?side2 ?side3 ?side4 A25.out).mono ?_);(case side1=>refine (rR (e:=3) (base:=w.heap.size) (ok:=fun k_=>True) (n:=t101.length) (c:=co12) ?_).2.2;exact (by (with_reducible repeat (first|apply rA|apply rN|apply rD));exact (rM (rF (p:=⟨gb119,1,none⟩) (rF (p:=⟨gb119,0,none⟩) (Kd.R_types HO_3.out BK119.out (by decide)) (fun _ hk=>hk.2) (.int .i64 t114)) (fun _ hk=>hk.2) (.slice Ao44 t115.length co44)) (fun _ h_=>h_.1))));(case side2=>exact (rR HO_3.out).2.1);(case side3=>refine (rR (e:=33) (base:=w.heap.size) (ok:=fun k_=>(True∧some k_≠(.slice Ao11 t105.length co11:Value).ownBlock)) (n:=t115.length) (c:=co44) ?_).2.2;exact (by (with_reducible repeat (first|apply rA|apply rN|apply rD));exact (rM (rF (p:=⟨gb119,1,none⟩) (rF (p:=⟨gb119,0,none⟩) (Kd.R_types HO117.out BK119.out (by decide)) (fun _ hk=>hk.2) (.int .i64 t114)) (fun _ hk=>hk.2) (.slice Ao44 t115.length co44)) (fun _ h_=>h_.1))));(case side4=>exact (rR HO117.out).2.1);rintro e w45 ⟨rfl,hb⟩;refine ⟨_,rfl,?_⟩;have n0_:=mA (rB (by (with_reducible repeat (first|apply rA|apply rN|apply rD));exact (rM (rF (p:=⟨gb119,1,none⟩) (rF (p:=⟨gb119,0,none⟩) (Kd.R_types HO_3.out BK119.out (by decide)) (fun _ hk=>hk.2) (.int .i64 t114)) (fun _ hk=>hk.2) (.slice Ao44 t115.length co44)) (fun _ h_=>h_.1))) hb);have n1_:=mA (rB (by (with_reducible repeat (first|apply rA|apply rN|apply rD));exact (rM (rF (p:=⟨gb119,1,none⟩) (rF (p:=⟨gb119,0,none⟩) (Kd.R_types HO_109001.out BK119.out (by decide)) (fun _ hk=>hk.2) (.int .i64 t114)) (fun _ hk=>hk.2) (.slice Ao44 t115.length co44)) (fun _ h_=>h_.1))) hb);have n2_:=mA (rB (by (with_reducible repeat (first|apply rA|apply rN|apply rD));exact (rM (rF (p:=⟨gb119,1,none⟩) (rF (p:=⟨gb119,0,none⟩) (Kd.R_types HO117.out BK119.out (by decide)) (fun _ hk=>hk.2) (.int .i64 t114)) (fun _ hk=>hk.2) (.slice Ao44 t115.length co44)) (fun _ h_=>h_.1))) hb);have n3_:=mA (blk_below (g:=gb108) (o:=.cells #[.int .i64 t104,.slice Ao11 t105.length co11] 36 (0,0)) (by (with_reducible repeat (first|refine kN ?_ _|refine kD ?_|refine kA ?_ _));refine blk_far ?_ NB108_119.out _;(with_reducible repeat (first|refine kN ?_ _|refine kD ?_|refine kA ?_ _));refine blk_far ?_ NB108_119.out _;(with_reducible repeat (first|refine kN ?_ _|refine kD ?_|refine kA ?_ _));exact BK108.out) hb);have n4_:=mA (blk_below (g:=gb119) (o:=.cells #[.int .i64 t114,.slice Ao44 t115.length co44] 36 (0,0)) (by (with_reducible repeat (first|refine kN ?_ _|refine kD ?_|refine kA ?_ _));refine blk_put (cs:=#[.int .i64 t114,.slice none 0 0]) ?_ 1 _ rfl;(with_reducible repeat (first|refine kN ?_ _|refine kD ?_|refine kA ?_ _));refine blk_put (cs:=#[.int .i64 0,.slice none 0 0]) ?_ 0 _ rfl;(with_reducible repeat (first|refine kN ?_ _|refine kD ?_|refine kA ?_ _));exact BK119.out) hb);have n5_:=mA (bT (by repeat (first|(with_reducible first|exact HB.out|apply bA|apply bN|apply bD|refine bS ?_ GE108.out|refine bS ?_ GE119.out)|exact HB.out)) hb);clear HO_3 HO_109001 HO117 BK108 BK119 HB;have HO_3:=n0_;have HO_109001:=n1_;have HO117:=n2_;have BK108:=n3_;have BK119:=n4_;have HB:=n5_;clear n0_ n1_ n2_ n3_ n4_ n5_;(try clear hb);(try clear hb2);(try clear hk);(try clear hi);have hcz46_0:w45.cell? ⟨gb108,0,none⟩=some (.int .i64 t104):=(kC BK108.out 0).trans rfl;have hcz46_1:w45.cell? ⟨gb108,1,none⟩=some (.slice Ao11 t105.length co11):=(kC BK108.out 1).trans rfl;have hfz46_0:=kF BK108.out 0;have hfz46_1:=kF BK108.out 1;have p121:0≤(t104:Int):=of_decide_eq_true (by first|(with_reducible assumption)|assumption);have q121:t104<(t101.length:Int):=of_decide_eq_true (by first|(with_reducible assumption)|assumption);obtain ⟨ad121,e121,hx121_0⟩:=Kd.at_int (rR HO_3.out).2.2 t104 p121 q121;cases e121;replace p121:=eq_true p121;replace q121:=eq_true q121))
           go_ret
           exact ⟨by first|rfl|(simp [errW_none,errW_some]<;>rfl)|(simp [*, errW_none,errW_some]<;>rfl),by repeat (first|(with_reducible first|exact HB.out|apply bA|apply bN|apply bD|refine bS ?_ GE108.out|refine bS ?_ GE119.out)|exact HB.out)⟩
         ·replace c29:=Bool.eq_false_iff.mpr c29
          subst c29
          have H1:(some false)=some r:=by rw [if_neg (show ¬ (false=true) by decide)] at H;exact H
          clear H
          have H:=H1
          clear H1
          exact absurd ((Option.some.inj H).trans hr_.out) (by decide)
        ·rw [if_neg c28] at H
         have c28b0:((rd t101 t104)==2)=false:=beq_eq_false_iff_ne.mpr c28
         have c28b1:((rd t101 t104) != 2)=true:=bne_iff_ne.mpr c28
         by_cases c47:t118=true
         ·subst c47
          have H1:(if (t120 != t109)=true then ((impl_WorldOfKinds.f kj6 t101).bind fun t122=>((impl_MaySay.f kj6 (t101.length:Int) t104 t105 t122).bind fun t123=>(some (t123==t109)))) else (some false))=some r:=by rw [if_pos rfl] at H;exact H
          clear H
          have H:=H1
          clear H1
          by_cases c48:(t120 != t109)=true
          ·rw [if_pos c48] at H
           have c48b0:(t120 != t109)=true:=c48
           (try (have c48b1:decide (t120=t109)=false:=by simpa using c48))
           (try (have c48b2:(t120==t109)=false:=by simpa using c48))
           (try (have c48b3 : ¬ (t120=t109):=by simpa using c48))
           clear c48
           replace H:=Option.bind_eq_some_iff.mp H
           obtain ⟨t122,A490,H⟩:=H
           replace H:((impl_MaySay.f kj6 (t101.length:Int) t104 t105 t122).bind fun t123=>(some (t123==t109)))=some r:=H
           have A49:=mA A490
           clear A490
           replace H:=Option.bind_eq_some_iff.mp H
           obtain ⟨t123,A500,H⟩:=H
           replace H:(some (t123==t109))=some r:=H
           have A50:=mA A500
           clear A500
           obtain rfl:=Option.some.inj H
           have hcz51_0:wc.cell? ⟨gb108,0,none⟩=some (.int .i64 t104):=(kC BK108.out 0).trans rfl
           have hcz51_1:wc.cell? ⟨gb108,1,none⟩=some (.slice Ao11 t105.length co11):=(kC BK108.out 1).trans rfl
           have hfz51_0:=kF BK108.out 0
           have hfz51_1:=kF BK108.out 1
           try go_wp2_with (first|((with_reducible refine gate_callee (f:=39) rfl ?_);refine goesL_ (some 44) rfl rfl Try.func39 (by kernel_rfl) rfl #[.int .i64 (t101.length:Int),.agg #[.int .i64 t104,.slice Ao11 t105.length co11]] rfl (by (try simp only [mT,mC,mN]);first|done|rfl|(simp only [lD,lT];rfl)) ?_;(with_reducible refine (impl_DenyClaim.calls kj6 (t101.length:Int) t104 _ _ t105 t114 t115 true _ ?side1 ?side2 A24.out).mono ?_);(case side1=>repeat (first|exact (rR HO_109001.out).2.2|(with_reducible refine cA ?_ _)|(with_reducible refine cN ?_ _)|(with_reducible refine cD ?_)));(case side2=>exact (rR HO_109001.out).2.1);rintro e w52 ⟨v116,rfl,ho0,hb⟩;refine ⟨_,rfl,?_⟩;have n0_:=mA (rB (by (with_reducible repeat (first|apply rA|apply rN|apply rD));exact HO_3.out) hb);have n1_:=mA (Kd.R_elder' (by (with_reducible repeat (first|apply rA|apply rN|apply rD));exact HO_109001.out) (Kd.R_base ho0) hb);have n2_:=mA (Kd.R_lower (Kd.R_new' ho0 (rL (by (with_reducible repeat (first|apply rA|apply rN|apply rD));exact HO_109001.out))) (bZ (by repeat (first|(with_reducible first|exact HB.out|apply bA|apply bN|apply bD|refine bS ?_ GE108.out)|exact HB.out))));have n3_:=mA (blk_below (g:=gb108) (o:=.cells #[.int .i64 t104,.slice Ao11 t105.length co11] 36 (0,0)) (by (with_reducible repeat (first|refine kN ?_ _|refine kD ?_|refine kA ?_ _));exact BK108.out) hb);have n4_:=mA (bT (by repeat (first|(with_reducible first|exact HB.out|apply bA|apply bN|apply bD|refine bS ?_ GE108.out)|exact HB.out)) hb);clear HO_3 HO_109001 BK108 HB;have HO_3:=n0_;have HO_109001:=n1_;have HO117:=n2_;have BK108:=n3_;have HB:=n4_;clear n0_ n1_ n2_ n3_ n4_;(try clear hb);(try clear hb2);(try clear hk);(try clear hi);(try clear ho0))|((with_reducible refine gate_dst (N:=6) rfl ?_);(try (refine gate_guard (by rfl) ?_;dsimp only));refine box_event ?hg (N:=6) ?hd (cs:=#[.int .i64 0,.slice none 0 0]) (t:=36) ?hr ?_;(case hd=>rfl);(case hg=>rfl);(case hr=>first|(go_simp;done)|(go_simp;rfl));intro gb119 hg w53 hbox hb;have n0_:=mA (rB (by (with_reducible repeat (first|apply rA|apply rN|apply rD));exact HO_3.out) hb);have n1_:=mA (rB (by (with_reducible repeat (first|apply rA|apply rN|apply rD));exact HO_109001.out) hb);have n2_:=mA (rB (by (with_reducible repeat (first|apply rA|apply rN|apply rD));exact HO117.out) hb);have n3_:=mA (blk_below (g:=gb108) (o:=.cells #[.int .i64 t104,.slice Ao11 t105.length co11] 36 (0,0)) (by (with_reducible repeat (first|refine kN ?_ _|refine kD ?_|refine kA ?_ _));exact BK108.out) hb);have n4_:=mA (bT (by repeat (first|(with_reducible first|exact HB.out|apply bA|apply bN|apply bD|refine bS ?_ GE108.out)|exact HB.out)) hb);have n5_:=mA (hbox);have n6_:=mA ((by rw [hg];exact (bZ (by repeat (first|(with_reducible first|exact HB.out|apply bA|apply bN|apply bD|refine bS ?_ GE108.out)|exact HB.out))):w.heap.size≤gb119));have n7_:=mA ((by rw [hg];exact (bZ (by repeat (first|(with_reducible first|exact HB.out|apply bA|apply bN|apply bD|refine bS ?_ GE108.out)|exact HB.out))):w.heap.size≤gb119));have n8_:=mA ((by rw [hg];exact Nat.ne_of_lt (blk_lt (g:=gb108) (o:=.cells #[.int .i64 t104,.slice Ao11 t105.length co11] 36 (0,0)) (by (with_reducible repeat (first|refine kN ?_ _|refine kD ?_|refine kA ?_ _));exact BK108.out)):gb108≠gb119));have n9_:=mA ((by rw [hg];exact Nat.ne_of_gt (blk_lt (g:=gb108) (o:=.cells #[.int .i64 t104,.slice Ao11 t105.length co11] 36 (0,0)) (by (with_reducible repeat (first|refine kN ?_ _|refine kD ?_|refine kA ?_ _));exact BK108.out)):gb119≠gb108));clear HO_3 HO_109001 HO117 BK108 HB;have HO_3:=n0_;have HO_109001:=n1_;have HO117:=n2_;have BK108:=n3_;have HB:=n4_;have BK119:=n5_;have GW119:=n6_;have GE119:=n7_;have NB108_119:=n8_;have NB119_108:=n9_;clear n0_ n1_ n2_ n3_ n4_ n5_ n6_ n7_ n8_ n9_ hb hbox hg;have hnb54:=NB119_108.out;have hnc54:=NB108_119.out;have hcz55_0:w53.cell? ⟨gb119,0,none⟩=some (.int .i64 0):=(kC BK119.out 0).trans rfl;have hcz55_1:w53.cell? ⟨gb119,1,none⟩=some (.slice none 0 0):=(kC BK119.out 1).trans rfl;have hfz55_0:=kF BK119.out 0;have hfz55_1:=kF BK119.out 1;obtain ⟨Ao56,co56,eo56⟩:=Kd.R_slice HO117.out;subst eo56)|((with_reducible refine gate_callee (f:=31) rfl ?_);refine goesL_ (some 49) rfl rfl Try.func31 (by kernel_rfl) rfl #[.slice Ao12 t101.length co12,.agg #[.int .i64 t114,.slice Ao56 t115.length co56]] rfl (by (try simp only [mT,mC,mN]);first|done|rfl|(simp only [lD,lT];rfl)) ?_;(with_reducible refine (impl_SpySays.calls kj6 _ _ t101 t114 _ _ t115 t120 _ ?side1 ?side2 ?side3 ?side4 A25.out).mono ?_);(case side1=>refine (rR (e:=3) (base:=w.heap.size) (ok:=fun k_=>True) (n:=t101.length) (c:=co12) ?_).2.2;exact (by (with_reducible repeat (first|apply rA|apply rN|apply rD));exact (rM (rF (p:=⟨gb119,1,none⟩) (rF (p:=⟨gb119,0,none⟩) (Kd.R_types HO_3.out BK119.out (by decide)) (fun _ hk=>hk.2) (.int .i64 t114)) (fun _ hk=>hk.2) (.slice Ao56 t115.length co56)) (fun _ h_=>h_.1))));(case side2=>exact (rR HO_3.out).2.1);(case side3=>refine (rR (e:=33) (base:=w.heap.size) (ok:=fun k_=>(True∧some k_≠(.slice Ao11 t105.length co11:Value).ownBlock)) (n:=t115.length) (c:=co56) ?_).2.2;exact (by (with_reducible repeat (first|apply rA|apply rN|apply rD));exact (rM (rF (p:=⟨gb119,1,none⟩) (rF (p:=⟨gb119,0,none⟩) (Kd.R_types HO117.out BK119.out (by decide)) (fun _ hk=>hk.2) (.int .i64 t114)) (fun _ hk=>hk.2) (.slice Ao56 t115.length co56)) (fun _ h_=>h_.1))));(case side4=>exact (rR HO117.out).2.1);rintro e w57 ⟨rfl,hb⟩;refine ⟨_,rfl,?_⟩;have n0_:=mA (rB (by (with_reducible repeat (first|apply rA|apply rN|apply rD));exact (rM (rF (p:=⟨gb119,1,none⟩) (rF (p:=⟨gb119,0,none⟩) (Kd.R_types HO_3.out BK119.out (by decide)) (fun _ hk=>hk.2) (.int .i64 t114)) (fun _ hk=>hk.2) (.slice Ao56 t115.length co56)) (fun _ h_=>h_.1))) hb);have n1_:=mA (rB (by (with_reducible repeat (first|apply rA|apply rN|apply rD));exact (rM (rF (p:=⟨gb119,1,none⟩) (rF (p:=⟨gb119,0,none⟩) (Kd.R_types HO_109001.out BK119.out (by decide)) (fun _ hk=>hk.2) (.int .i64 t114)) (fun _ hk=>hk.2) (.slice Ao56 t115.length co56)) (fun _ h_=>h_.1))) hb);have n2_:=mA (rB (by (with_reducible repeat (first|apply rA|apply rN|apply rD));exact (rM (rF (p:=⟨gb119,1,none⟩) (rF (p:=⟨gb119,0,none⟩) (Kd.R_types HO117.out BK119.out (by decide)) (fun _ hk=>hk.2) (.int .i64 t114)) (fun _ hk=>hk.2) (.slice Ao56 t115.length co56)) (fun _ h_=>h_.1))) hb);have n3_:=mA (blk_below (g:=gb108) (o:=.cells #[.int .i64 t104,.slice Ao11 t105.length co11] 36 (0,0)) (by (with_reducible repeat (first|refine kN ?_ _|refine kD ?_|refine kA ?_ _));refine blk_far ?_ NB108_119.out _;(with_reducible repeat (first|refine kN ?_ _|refine kD ?_|refine kA ?_ _));refine blk_far ?_ NB108_119.out _;(with_reducible repeat (first|refine kN ?_ _|refine kD ?_|refine kA ?_ _));exact BK108.out) hb);have n4_:=mA (blk_below (g:=gb119) (o:=.cells #[.int .i64 t114,.slice Ao56 t115.length co56] 36 (0,0)) (by (with_reducible repeat (first|refine kN ?_ _|refine kD ?_|refine kA ?_ _));refine blk_put (cs:=#[.int .i64 t114,.slice none 0 0]) ?_ 1 _ rfl;(with_reducible repeat (first|refine kN ?_ _|refine kD ?_|refine kA ?_ _));refine blk_put (cs:=#[.int .i64 0,.slice none 0 0]) ?_ 0 _ rfl;(with_reducible repeat (first|refine kN ?_ _|refine kD ?_|refine kA ?_ _));exact BK119.out) hb);have n5_:=mA (bT (by repeat (first|(with_reducible first|exact HB.out|apply bA|apply bN|apply bD|refine bS ?_ GE108.out|refine bS ?_ GE119.out)|exact HB.out)) hb);clear HO_3 HO_109001 HO117 BK108 BK119 HB;have HO_3:=n0_;have HO_109001:=n1_;have HO117:=n2_;have BK108:=n3_;have BK119:=n4_;have HB:=n5_;clear n0_ n1_ n2_ n3_ n4_ n5_;(try clear hb);(try clear hb2);(try clear hk);(try clear hi);have hcz58_0:w57.cell? ⟨gb108,0,none⟩=some (.int .i64 t104):=(kC BK108.out 0).trans rfl;have hcz58_1:w57.cell? ⟨gb108,1,none⟩=some (.slice Ao11 t105.length co11):=(kC BK108.out 1).trans rfl;have hfz58_0:=kF BK108.out 0;have hfz58_1:=kF BK108.out 1;have p121:0≤(t104:Int):=of_decide_eq_true (by first|(with_reducible assumption)|assumption);have q121:t104<(t101.length:Int):=of_decide_eq_true (by first|(with_reducible assumption)|assumption);obtain ⟨ad121,e121,hx121_0⟩:=Kd.at_int (rR HO_3.out).2.2 t104 p121 q121;cases e121;replace p121:=eq_true p121;replace q121:=eq_true q121))
           have n0_:=mA (rD HO_3.out)
           have n1_:=mA (rD HO_109001.out)
           have n2_:=mA (rD HO117.out)
           have n3_:=mA (kD BK108.out)
           have n4_:=mA (kD BK119.out)
           have n5_:=mA (bD HB.out)
           clear HO_3
           clear HO_109001
           clear HO117
           clear BK108
           clear BK119
           clear HB
           have HO_3:=n0_
           have HO_109001:=n1_
           have HO117:=n2_
           have BK108:=n3_
           have BK119:=n4_
           have HB:=n5_
           clear n0_ n1_ n2_ n3_ n4_ n5_
           refine start_ (n:=18) (S:=fun w'=>w'.cell? ⟨gb108,0,none⟩=some (.int .i64 t104)∧w'.cell? ⟨gb108,1,none⟩=some (.slice Ao11 t105.length co11)) (ds:=[]) #[O,O,O,O,O,O,O,O,O,O,O,O,O,O,O,O,O,O] (by kernel_rfl) rfl rfl ⟨(kC BK108.out 0).trans rfl,(kC BK108.out 1).trans rfl⟩ (fun hHeld=>?_);refine with_tabW laws_FnSpySays.tab13 laws_FnSpySays.bits13 (fun HT_ HW_=>?_)
           generalize w57.drew=w59 at HO_3 HO_109001 HO117 BK108 BK119 HB hHeld ⊢
           refine pure_ (i:=0) (N:=some 64) (v:=?_) (a':=?_) #[I,O,O,O,O,O,O,O,O,O,O,O,O,O,O,O,O,O] rfl rfl (any_of HT_.out (by kernel_rfl)) (fun _ _ _ h=>h) (Or.inl ⟨by rfl,?_⟩) ?_ ?_
           rotate_left
           ·intro w'
            go_simp
            with_reducible rfl
           rotate_left
           ·simp only [Act.put,sA,sZ,sS,i64_w,i32_w]
            rfl
           refine pure_ (i:=1) (N:=some 65) (v:=?_) (a':=?_) #[I,I,O,O,O,O,O,O,O,O,O,O,O,O,O,O,O,O] rfl rfl (any_of HT_.out (by kernel_rfl)) (fun _ _ _ h=>h) (Or.inl ⟨by rfl,?_⟩) ?_ ?_
           rotate_left
           ·intro w'
            go_simp
            with_reducible rfl
           rotate_left
           ·simp only [Act.put,sA,sZ,sS,i64_w,i32_w]
            rfl
           refine pure_ (i:=2) (N:=some 66) (v:=?_) (a':=?_) #[I,I,I,O,O,O,O,O,O,O,O,O,O,O,O,O,O,O] rfl rfl (any_of HT_.out (by kernel_rfl)) (fun _ _ _ h=>h) (Or.inl ⟨by rfl,?_⟩) ?_ ?_
           rotate_left
           ·intro w'
            go_simp
            with_reducible rfl
           rotate_left
           ·simp only [Act.put,sA,sZ,sS,i64_w,i32_w]
            rfl
           refine pure_ (i:=3) (N:=some 67) (v:=?_) (a':=?_) #[I,I,I,I,O,O,O,O,O,O,O,O,O,O,O,O,O,O] rfl rfl (any_of HT_.out (by kernel_rfl)) (fun _ _ _ h=>h) (Or.inl ⟨by rfl,?_⟩) ?_ ?_
           rotate_left
           ·intro w'
            go_simp
            with_reducible rfl
           rotate_left
           ·simp only [Act.put,sA,sZ,sS,i64_w,i32_w]
            rfl
           refine pure_ (i:=4) (N:=some 68) (v:=?_) (a':=?_) #[I,I,I,I,I,O,O,O,O,O,O,O,O,O,O,O,O,O] rfl rfl (any_of HT_.out (by kernel_rfl)) (fun _ _ _ h=>h) (Or.inl ⟨by rfl,?_⟩) ?_ ?_
           rotate_left
           ·intro w'
            go_simp
            with_reducible rfl
           rotate_left
           ·simp only [Act.put,sA,sZ,sS,i64_w,i32_w]
            rfl
           refine pure_ (i:=5) (N:=some 69) (v:=?_) (a':=?_) #[I,I,I,I,I,I,O,O,O,O,O,O,O,O,O,O,O,O] rfl rfl (any_of HT_.out (by kernel_rfl)) (fun _ _ _ h=>h) (Or.inl ⟨by rfl,?_⟩) ?_ ?_
           rotate_left
           ·intro w'
            go_simp
            with_reducible rfl
           rotate_left
           ·simp only [Act.put,sA,sZ,sS,i64_w,i32_w]
            rfl
           refine pure_ (i:=6) (N:=some 70) (v:=?_) (a':=?_) #[I,I,I,I,I,I,I,O,O,O,O,O,O,O,O,O,O,O] rfl rfl (any_of HT_.out (by kernel_rfl)) (fun _ _ _ h=>h) (Or.inl ⟨by rfl,?_⟩) ?_ ?_
           rotate_left
           ·intro w'
            go_simp
            with_reducible rfl
           rotate_left
           ·simp only [Act.put,sA,sZ,sS,i64_w,i32_w]
            rfl
           refine pure_ (i:=7) (N:=some 71) (v:=?_) (a':=?_) #[I,I,I,I,I,I,I,I,O,O,O,O,O,O,O,O,O,O] rfl rfl (any_of HT_.out (by kernel_rfl)) (fun _ _ _ h=>h) (Or.inl ⟨by rfl,?_⟩) ?_ ?_
           rotate_left
           ·intro w'
            go_simp
            with_reducible rfl
           rotate_left
           ·simp only [Act.put,sA,sZ,sS,i64_w,i32_w]
            rfl
           refine pure_ (i:=8) (N:=some 72) (v:=?_) (a':=?_) #[I,I,I,I,I,I,I,I,I,O,O,O,O,O,O,O,O,O] rfl rfl (any_of HT_.out (by kernel_rfl)) (fun _ _ _ h=>h) (Or.inl ⟨by rfl,?_⟩) ?_ ?_
           rotate_left
           ·intro w'
            go_simp
            with_reducible rfl
           rotate_left
           ·simp only [Act.put,sA,sZ,sS,i64_w,i32_w]
            rfl
           refine pure_ (i:=9) (N:=some 73) (v:=?_) (a':=?_) #[I,I,I,I,I,I,I,I,I,I,O,O,O,O,O,O,O,O] rfl rfl (any_of HT_.out (by kernel_rfl)) (fun _ _ _ h=>h) (Or.inl ⟨by rfl,?_⟩) ?_ ?_
           rotate_left
           ·intro w'
            go_simp
            with_reducible rfl
           rotate_left
           ·simp only [Act.put,sA,sZ,sS,i64_w,i32_w]
            rfl
           refine pure_ (i:=11) (N:=some 75) (v:=?_) (a':=?_) #[I,I,I,I,I,I,I,I,I,I,O,I,O,O,O,O,O,O] rfl rfl (any_of HT_.out (by kernel_rfl)) (fun _ _ _ h=>h) (Or.inl ⟨by rfl,?_⟩) ?_ ?_
           rotate_left
           ·intro w'
            go_simp
            with_reducible rfl
           rotate_left
           ·simp only [Act.put,sA,sZ,sS,i64_w,i32_w]
            rfl
           refine pure_ (i:=14) (N:=some 78) (v:=?_) (a':=?_) #[I,I,I,I,I,I,I,I,I,I,O,I,O,O,I,O,O,O] rfl rfl (any_of HT_.out (by kernel_rfl)) (fun _ _ _ h=>h) (Or.inl ⟨by rfl,?_⟩) ?_ ?_
           rotate_left
           ·intro w'
            go_simp
            with_reducible rfl
           rotate_left
           ·simp only [Act.put,sA,sZ,sS,i64_w,i32_w]
            rfl
           refine take_ (i:=10) (N:=some 74) (v:=?_) (a':=?_) #[I,I,I,I,I,I,I,I,I,I,I,I,O,O,I,O,O,O] rfl rfl (take_ofW HT_.out HW_.out (by kernel_rfl)) (fun _ _ _ h=>h) (Or.inl ⟨by rfl,?_⟩) hHeld ?_ ?_
           rotate_left
           ·rintro w' ⟨s0,s1⟩
            go_simp
            with_reducible rfl
           rotate_left
           ·simp only [Act.put,sA,sZ,sS,i64_w,i32_w]
            rfl
           refine one_ (i:=12) (N:=some 76) #[I,I,I,I,I,I,I,I,I,I,I,I,I,O,I,O,O,O] rfl rfl (one_of HT_.out (by kernel_rfl)) (by decide) (fun K hK=>?_)
           refine goes_ Try.func82 (by kernel_rfl) rfl #[.slice (some ad121) t101.length co12] (by rfl) rfl rfl (by (try simp only [mT,mC,mN]);first|done|rfl|(simp only [lD,lT];rfl)) ?_
           with_reducible refine (impl_WorldOfKinds.calls kj6 _ _ t101 t122 _ ?side1 ?side2 A49.out).mono ?_
           (case side1=>repeat (first|exact (rR HO_3.out).2.2|(with_reducible refine cA ?_ _)|(with_reducible refine cN ?_ _)|(with_reducible refine cD ?_)))
           (case side2=>exact (rR HO_3.out).2.1)
           rintro e w' ⟨rfl,⟨nd,rfl⟩⟩
           refine ⟨_,rfl,?_⟩
           refine hK.out _ _ ⟨(kC BK108.out 0).trans rfl,(kC BK108.out 1).trans rfl⟩ (fun hHeld=>?_)
           clear hK K
           refine norm_ (a':=?_) ?_ ?_
           rotate_left
           ·show Act.put _ (some 76) _=_
            simp only [Act.put,sA,sZ,sS,i64_w,i32_w]
            rfl
           refine one_ (i:=13) (N:=some 77) #[I,I,I,I,I,I,I,I,I,I,I,I,I,I,I,O,O,O] rfl rfl (one_of HT_.out (by kernel_rfl)) (by decide) (fun K hK=>?_)
           refine goes_ Try.func35 (by kernel_rfl) rfl #[.int .i64 (t101.length:Int),.agg #[.int .i64 t104,.slice Ao11 t105.length co11],.int .i64 t122] (by rfl) rfl rfl (by (try simp only [mT,mC,mN]);first|done|rfl|(simp only [lD,lT];rfl)) ?_
           with_reducible refine (impl_MaySay.calls kj6 (t101.length:Int) t104 _ _ t105 t122 t123 _ ?side1 ?side2 A50.out).mono ?_
           (case side1=>repeat (first|exact (rR HO_109001.out).2.2|(with_reducible refine cA ?_ _)|(with_reducible refine cN ?_ _)|(with_reducible refine cD ?_)))
           (case side2=>exact (rR HO_109001.out).2.1)
           rintro e w60 ⟨rfl,hb⟩
           refine ⟨_,rfl,?_⟩
           have n0_:=mA (rB (by (with_reducible repeat (first|apply rA|apply rN|apply rD));exact HO_3.out) hb)
           have n1_:=mA (rB (by (with_reducible repeat (first|apply rA|apply rN|apply rD));exact HO_109001.out) hb)
           have n2_:=mA (rB (by (with_reducible repeat (first|apply rA|apply rN|apply rD));exact HO117.out) hb)
           have n3_:=mA (blk_below (g:=gb108) (o:=.cells #[.int .i64 t104,.slice Ao11 t105.length co11] 36 (0,0)) (by (with_reducible repeat (first|refine kN ?_ _|refine kD ?_|refine kA ?_ _));exact BK108.out) hb)
           have n4_:=mA (blk_below (g:=gb119) (o:=.cells #[.int .i64 t114,.slice Ao56 t115.length co56] 36 (0,0)) (by (with_reducible repeat (first|refine kN ?_ _|refine kD ?_|refine kA ?_ _));exact BK119.out) hb)
           have n5_:=mA (bT (by repeat (first|(with_reducible first|exact HB.out|apply bA|apply bN|apply bD|refine bS ?_ GE108.out|refine bS ?_ GE119.out)|exact HB.out)) hb)
           clear HO_3
           clear HO_109001
           clear HO117
           clear BK108
           clear BK119
           clear HB
           have HO_3:=n0_
           have HO_109001:=n1_
           have HO117:=n2_
           have BK108:=n3_
           have BK119:=n4_
           have HB:=n5_
           clear n0_ n1_ n2_ n3_ n4_ n5_
           (try clear hb)
           (try clear hb2)
           (try clear hk)
           (try clear hi)
           refine hK.out _ _ ⟨(kC BK108.out 0).trans rfl,(kC BK108.out 1).trans rfl⟩ (fun hHeld=>?_)
           clear hK K
           refine norm_ (a':=?_) ?_ ?_
           rotate_left
           ·show Act.put _ (some 77) _=_
            simp only [Act.put,sA,sZ,sS,i64_w,i32_w]
            rfl
           refine pure_ (i:=15) (N:=some 79) (v:=?_) (a':=?_) #[I,I,I,I,I,I,I,I,I,I,I,I,I,I,I,I,O,O] rfl rfl (any_of HT_.out (by kernel_rfl)) (fun _ _ _ h=>h) (Or.inl ⟨by rfl,?_⟩) ?_ ?_
           rotate_left
           ·intro w'
            go_simp
            with_reducible rfl
           rotate_left
           ·simp only [Act.put,sA,sZ,sS,i64_w,i32_w]
            rfl
           refine pure_ (i:=16) (N:=some 80) (v:=?_) (a':=?_) #[I,I,I,I,I,I,I,I,I,I,I,I,I,I,I,I,I,O] rfl rfl (any_of HT_.out (by kernel_rfl)) (fun _ _ _ h=>h) (Or.inl ⟨by rfl,?_⟩) ?_ ?_
           rotate_left
           ·intro w'
            go_simp
            with_reducible rfl
           rotate_left
           ·simp only [Act.put,sA,sZ,sS,i64_w,i32_w]
            rfl
           refine pure_ (i:=17) (N:=some 2) (v:=?_) (a':=?_) #[I,I,I,I,I,I,I,I,I,I,I,I,I,I,I,I,I,I] rfl rfl (any_of HT_.out (by kernel_rfl)) (fun _ _ _ h=>h) (Or.inl ⟨by rfl,?_⟩) ?_ ?_
           rotate_left
           ·intro w'
            go_simp
            with_reducible rfl
           rotate_left
           ·simp only [Act.put,sA,sZ,sS,i64_w,i32_w]
            rfl
           refine done_ (done_of HT_.out (by kernel_rfl)) ?_
           try go_wp2
           go_ret
           exact ⟨by first|rfl|(simp [errW_none,errW_some]<;>rfl)|(simp [*, errW_none,errW_some]<;>rfl),by repeat (first|(with_reducible first|exact HB.out|apply bA|apply bN|apply bD|refine bS ?_ GE108.out|refine bS ?_ GE119.out)|exact HB.out)⟩
          ·rw [if_neg c48] at H
           have c48b0:(t120 != t109)=false:=by simpa using c48
           (try (have c48b1:decide (t120=t109)=true:=by simpa using c48))
           (try (have c48b2:(t120==t109)=true:=by simpa using c48))
           clear c48
           exact absurd ((Option.some.inj H).trans hr_.out) (by decide)
         ·replace c47:=Bool.eq_false_iff.mpr c47
          subst c47
          have H1:((impl_WorldOfKinds.f kj6 t101).bind fun t124=>((impl_MaySay.f kj6 (t101.length:Int) t104 t105 t124).bind fun t125=>(some (t125==t109))))=some r:=by rw [if_neg (show ¬ (false=true) by decide)] at H;exact H
          clear H
          have H:=H1
          clear H1
          replace H:=Option.bind_eq_some_iff.mp H
          obtain ⟨t124,A610,H⟩:=H
          replace H:((impl_MaySay.f kj6 (t101.length:Int) t104 t105 t124).bind fun t125=>(some (t125==t109)))=some r:=H
          have A61:=mA A610
          clear A610
          replace H:=Option.bind_eq_some_iff.mp H
          obtain ⟨t125,A620,H⟩:=H
          replace H:(some (t125==t109))=some r:=H
          have A62:=mA A620
          clear A620
          obtain rfl:=Option.some.inj H
          have hcz63_0:wc.cell? ⟨gb108,0,none⟩=some (.int .i64 t104):=(kC BK108.out 0).trans rfl
          have hcz63_1:wc.cell? ⟨gb108,1,none⟩=some (.slice Ao11 t105.length co11):=(kC BK108.out 1).trans rfl
          have hfz63_0:=kF BK108.out 0
          have hfz63_1:=kF BK108.out 1
          try go_wp2_with (first|((with_reducible refine gate_callee (f:=39) rfl ?_);refine goesL_ (some 44) rfl rfl Try.func39 (by kernel_rfl) rfl #[.int .i64 (t101.length:Int),.agg #[.int .i64 t104,.slice Ao11 t105.length co11]] rfl (by (try simp only [mT,mC,mN]);first|done|rfl|(simp only [lD,lT];rfl)) ?_;(with_reducible refine (impl_DenyClaim.calls kj6 (t101.length:Int) t104 _ _ t105 t114 t115 false _ ?side1 ?side2 A24.out).mono ?_);(case side1=>repeat (first|exact (rR HO_109001.out).2.2|(with_reducible refine cA ?_ _)|(with_reducible refine cN ?_ _)|(with_reducible refine cD ?_)));(case side2=>exact (rR HO_109001.out).2.1);rintro e w64 ⟨v116,rfl,ho0,hb⟩;refine ⟨_,rfl,?_⟩;have n0_:=mA (rB (by (with_reducible repeat (first|apply rA|apply rN|apply rD));exact HO_3.out) hb);have n1_:=mA (Kd.R_elder' (by (with_reducible repeat (first|apply rA|apply rN|apply rD));exact HO_109001.out) (Kd.R_base ho0) hb);have n2_:=mA (Kd.R_lower (Kd.R_new' ho0 (rL (by (with_reducible repeat (first|apply rA|apply rN|apply rD));exact HO_109001.out))) (bZ (by repeat (first|(with_reducible first|exact HB.out|apply bA|apply bN|apply bD|refine bS ?_ GE108.out)|exact HB.out))));have n3_:=mA (blk_below (g:=gb108) (o:=.cells #[.int .i64 t104,.slice Ao11 t105.length co11] 36 (0,0)) (by (with_reducible repeat (first|refine kN ?_ _|refine kD ?_|refine kA ?_ _));exact BK108.out) hb);have n4_:=mA (bT (by repeat (first|(with_reducible first|exact HB.out|apply bA|apply bN|apply bD|refine bS ?_ GE108.out)|exact HB.out)) hb);clear HO_3 HO_109001 BK108 HB;have HO_3:=n0_;have HO_109001:=n1_;have HO117:=n2_;have BK108:=n3_;have HB:=n4_;clear n0_ n1_ n2_ n3_ n4_;(try clear hb);(try clear hb2);(try clear hk);(try clear hi);(try clear ho0))|((with_reducible refine gate_dst (N:=6) rfl ?_);(try (refine gate_guard (by rfl) ?_;dsimp only));refine box_event ?hg (N:=6) ?hd (cs:=#[.int .i64 0,.slice none 0 0]) (t:=36) ?hr ?_;(case hd=>rfl);(case hg=>rfl);(case hr=>first|(go_simp;done)|(go_simp;rfl));intro gb119 hg w65 hbox hb;have n0_:=mA (rB (by (with_reducible repeat (first|apply rA|apply rN|apply rD));exact HO_3.out) hb);have n1_:=mA (rB (by (with_reducible repeat (first|apply rA|apply rN|apply rD));exact HO_109001.out) hb);have n2_:=mA (rB (by (with_reducible repeat (first|apply rA|apply rN|apply rD));exact HO117.out) hb);have n3_:=mA (blk_below (g:=gb108) (o:=.cells #[.int .i64 t104,.slice Ao11 t105.length co11] 36 (0,0)) (by (with_reducible repeat (first|refine kN ?_ _|refine kD ?_|refine kA ?_ _));exact BK108.out) hb);have n4_:=mA (bT (by repeat (first|(with_reducible first|exact HB.out|apply bA|apply bN|apply bD|refine bS ?_ GE108.out)|exact HB.out)) hb);have n5_:=mA (hbox);have n6_:=mA ((by rw [hg];exact (bZ (by repeat (first|(with_reducible first|exact HB.out|apply bA|apply bN|apply bD|refine bS ?_ GE108.out)|exact HB.out))):w.heap.size≤gb119));have n7_:=mA ((by rw [hg];exact (bZ (by repeat (first|(with_reducible first|exact HB.out|apply bA|apply bN|apply bD|refine bS ?_ GE108.out)|exact HB.out))):w.heap.size≤gb119));have n8_:=mA ((by rw [hg];exact Nat.ne_of_lt (blk_lt (g:=gb108) (o:=.cells #[.int .i64 t104,.slice Ao11 t105.length co11] 36 (0,0)) (by (with_reducible repeat (first|refine kN ?_ _|refine kD ?_|refine kA ?_ _));exact BK108.out)):gb108≠gb119));have n9_:=mA ((by rw [hg];exact Nat.ne_of_gt (blk_lt (g:=gb108) (o:=.cells #[.int .i64 t104,.slice Ao11 t105.length co11] 36 (0,0)) (by (with_reducible repeat (first|refine kN ?_ _|refine kD ?_|refine kA ?_ _));exact BK108.out)):gb119≠gb108));clear HO_3 HO_109001 HO117 BK108 HB;have HO_3:=n0_;have HO_109001:=n1_;have HO117:=n2_;have BK108:=n3_;have HB:=n4_;have BK119:=n5_;have GW119:=n6_;have GE119:=n7_;have NB108_119:=n8_;have NB119_108:=n9_;clear n0_ n1_ n2_ n3_ n4_ n5_ n6_ n7_ n8_ n9_ hb hbox hg;have hnb66:=NB119_108.out;have hnc66:=NB108_119.out;have hcz67_0:w65.cell? ⟨gb119,0,none⟩=some (.int .i64 0):=(kC BK119.out 0).trans rfl;have hcz67_1:w65.cell? ⟨gb119,1,none⟩=some (.slice none 0 0):=(kC BK119.out 1).trans rfl;have hfz67_0:=kF BK119.out 0;have hfz67_1:=kF BK119.out 1;obtain ⟨Ao68,co68,eo68⟩:=Kd.R_slice HO117.out;subst eo68)|((with_reducible refine gate_callee (f:=31) rfl ?_);refine goesL_ (some 49) rfl rfl Try.func31 (by kernel_rfl) rfl #[.slice Ao12 t101.length co12,.agg #[.int .i64 t114,.slice Ao68 t115.length co68]] rfl (by (try simp only [mT,mC,mN]);first|done|rfl|(simp only [lD,lT];rfl)) ?_;(with_reducible refine (impl_SpySays.calls kj6 _ _ t101 t114 _ _ t115 t120 _ ?side1 ?side2 ?side3 ?side4 A25.out).mono ?_);(case side1=>refine (rR (e:=3) (base:=w.heap.size) (ok:=fun k_=>True) (n:=t101.length) (c:=co12) ?_).2.2;exact (by (with_reducible repeat (first|apply rA|apply rN|apply rD));exact (rM (rF (p:=⟨gb119,1,none⟩) (rF (p:=⟨gb119,0,none⟩) (Kd.R_types HO_3.out BK119.out (by decide)) (fun _ hk=>hk.2) (.int .i64 t114)) (fun _ hk=>hk.2) (.slice Ao68 t115.length co68)) (fun _ h_=>h_.1))));(case side2=>exact (rR HO_3.out).2.1);(case side3=>refine (rR (e:=33) (base:=w.heap.size) (ok:=fun k_=>(True∧some k_≠(.slice Ao11 t105.length co11:Value).ownBlock)) (n:=t115.length) (c:=co68) ?_).2.2;exact (by (with_reducible repeat (first|apply rA|apply rN|apply rD));exact (rM (rF (p:=⟨gb119,1,none⟩) (rF (p:=⟨gb119,0,none⟩) (Kd.R_types HO117.out BK119.out (by decide)) (fun _ hk=>hk.2) (.int .i64 t114)) (fun _ hk=>hk.2) (.slice Ao68 t115.length co68)) (fun _ h_=>h_.1))));(case side4=>exact (rR HO117.out).2.1);rintro e w69 ⟨rfl,hb⟩;refine ⟨_,rfl,?_⟩;have n0_:=mA (rB (by (with_reducible repeat (first|apply rA|apply rN|apply rD));exact (rM (rF (p:=⟨gb119,1,none⟩) (rF (p:=⟨gb119,0,none⟩) (Kd.R_types HO_3.out BK119.out (by decide)) (fun _ hk=>hk.2) (.int .i64 t114)) (fun _ hk=>hk.2) (.slice Ao68 t115.length co68)) (fun _ h_=>h_.1))) hb);have n1_:=mA (rB (by (with_reducible repeat (first|apply rA|apply rN|apply rD));exact (rM (rF (p:=⟨gb119,1,none⟩) (rF (p:=⟨gb119,0,none⟩) (Kd.R_types HO_109001.out BK119.out (by decide)) (fun _ hk=>hk.2) (.int .i64 t114)) (fun _ hk=>hk.2) (.slice Ao68 t115.length co68)) (fun _ h_=>h_.1))) hb);have n2_:=mA (rB (by (with_reducible repeat (first|apply rA|apply rN|apply rD));exact (rM (rF (p:=⟨gb119,1,none⟩) (rF (p:=⟨gb119,0,none⟩) (Kd.R_types HO117.out BK119.out (by decide)) (fun _ hk=>hk.2) (.int .i64 t114)) (fun _ hk=>hk.2) (.slice Ao68 t115.length co68)) (fun _ h_=>h_.1))) hb);have n3_:=mA (blk_below (g:=gb108) (o:=.cells #[.int .i64 t104,.slice Ao11 t105.length co11] 36 (0,0)) (by (with_reducible repeat (first|refine kN ?_ _|refine kD ?_|refine kA ?_ _));refine blk_far ?_ NB108_119.out _;(with_reducible repeat (first|refine kN ?_ _|refine kD ?_|refine kA ?_ _));refine blk_far ?_ NB108_119.out _;(with_reducible repeat (first|refine kN ?_ _|refine kD ?_|refine kA ?_ _));exact BK108.out) hb);have n4_:=mA (blk_below (g:=gb119) (o:=.cells #[.int .i64 t114,.slice Ao68 t115.length co68] 36 (0,0)) (by (with_reducible repeat (first|refine kN ?_ _|refine kD ?_|refine kA ?_ _));refine blk_put (cs:=#[.int .i64 t114,.slice none 0 0]) ?_ 1 _ rfl;(with_reducible repeat (first|refine kN ?_ _|refine kD ?_|refine kA ?_ _));refine blk_put (cs:=#[.int .i64 0,.slice none 0 0]) ?_ 0 _ rfl;(with_reducible repeat (first|refine kN ?_ _|refine kD ?_|refine kA ?_ _));exact BK119.out) hb);have n5_:=mA (bT (by repeat (first|(with_reducible first|exact HB.out|apply bA|apply bN|apply bD|refine bS ?_ GE108.out|refine bS ?_ GE119.out)|exact HB.out)) hb);clear HO_3 HO_109001 HO117 BK108 BK119 HB;have HO_3:=n0_;have HO_109001:=n1_;have HO117:=n2_;have BK108:=n3_;have BK119:=n4_;have HB:=n5_;clear n0_ n1_ n2_ n3_ n4_ n5_;(try clear hb);(try clear hb2);(try clear hk);(try clear hi);have hcz70_0:w69.cell? ⟨gb108,0,none⟩=some (.int .i64 t104):=(kC BK108.out 0).trans rfl;have hcz70_1:w69.cell? ⟨gb108,1,none⟩=some (.slice Ao11 t105.length co11):=(kC BK108.out 1).trans rfl;have hfz70_0:=kF BK108.out 0;have hfz70_1:=kF BK108.out 1;have p121:0≤(t104:Int):=of_decide_eq_true (by first|(with_reducible assumption)|assumption);have q121:t104<(t101.length:Int):=of_decide_eq_true (by first|(with_reducible assumption)|assumption);obtain ⟨ad121,e121,hx121_0⟩:=Kd.at_int (rR HO_3.out).2.2 t104 p121 q121;cases e121;replace p121:=eq_true p121;replace q121:=eq_true q121))
          have n0_:=mA (rD HO_3.out)
          have n1_:=mA (rD HO_109001.out)
          have n2_:=mA (rD HO117.out)
          have n3_:=mA (kD BK108.out)
          have n4_:=mA (kD BK119.out)
          have n5_:=mA (bD HB.out)
          clear HO_3
          clear HO_109001
          clear HO117
          clear BK108
          clear BK119
          clear HB
          have HO_3:=n0_
          have HO_109001:=n1_
          have HO117:=n2_
          have BK108:=n3_
          have BK119:=n4_
          have HB:=n5_
          clear n0_ n1_ n2_ n3_ n4_ n5_
          refine start_ (n:=18) (S:=fun w'=>w'.cell? ⟨gb108,0,none⟩=some (.int .i64 t104)∧w'.cell? ⟨gb108,1,none⟩=some (.slice Ao11 t105.length co11)) (ds:=[]) #[O,O,O,O,O,O,O,O,O,O,O,O,O,O,O,O,O,O] (by kernel_rfl) rfl rfl ⟨(kC BK108.out 0).trans rfl,(kC BK108.out 1).trans rfl⟩ (fun hHeld=>?_);refine with_tabW laws_FnSpySays.tab13 laws_FnSpySays.bits13 (fun HT_ HW_=>?_)
          generalize w69.drew=w71 at HO_3 HO_109001 HO117 BK108 BK119 HB hHeld ⊢
          refine pure_ (i:=0) (N:=some 64) (v:=?_) (a':=?_) #[I,O,O,O,O,O,O,O,O,O,O,O,O,O,O,O,O,O] rfl rfl (any_of HT_.out (by kernel_rfl)) (fun _ _ _ h=>h) (Or.inl ⟨by rfl,?_⟩) ?_ ?_
          rotate_left
          ·intro w'
           go_simp
           with_reducible rfl
          rotate_left
          ·simp only [Act.put,sA,sZ,sS,i64_w,i32_w]
           rfl
          refine pure_ (i:=1) (N:=some 65) (v:=?_) (a':=?_) #[I,I,O,O,O,O,O,O,O,O,O,O,O,O,O,O,O,O] rfl rfl (any_of HT_.out (by kernel_rfl)) (fun _ _ _ h=>h) (Or.inl ⟨by rfl,?_⟩) ?_ ?_
          rotate_left
          ·intro w'
           go_simp
           with_reducible rfl
          rotate_left
          ·simp only [Act.put,sA,sZ,sS,i64_w,i32_w]
           rfl
          refine pure_ (i:=2) (N:=some 66) (v:=?_) (a':=?_) #[I,I,I,O,O,O,O,O,O,O,O,O,O,O,O,O,O,O] rfl rfl (any_of HT_.out (by kernel_rfl)) (fun _ _ _ h=>h) (Or.inl ⟨by rfl,?_⟩) ?_ ?_
          rotate_left
          ·intro w'
           go_simp
           with_reducible rfl
          rotate_left
          ·simp only [Act.put,sA,sZ,sS,i64_w,i32_w]
           rfl
          refine pure_ (i:=3) (N:=some 67) (v:=undef) (a':=?_) #[I,I,I,I,O,O,O,O,O,O,O,O,O,O,O,O,O,O] rfl rfl (any_of HT_.out (by kernel_rfl)) (fun _ _ _ h=>h) (Or.inr ⟨by rfl,rfl⟩) ?_ ?_
          rotate_left
          ·simp only [Act.put,sA,sZ,sS,i64_w,i32_w]
           rfl
          refine pure_ (i:=4) (N:=some 68) (v:=undef) (a':=?_) #[I,I,I,I,I,O,O,O,O,O,O,O,O,O,O,O,O,O] rfl rfl (any_of HT_.out (by kernel_rfl)) (fun _ _ _ h=>h) (Or.inr ⟨by rfl,rfl⟩) ?_ ?_
          rotate_left
          ·simp only [Act.put,sA,sZ,sS,i64_w,i32_w]
           rfl
          refine pure_ (i:=5) (N:=some 69) (v:=undef) (a':=?_) #[I,I,I,I,I,I,O,O,O,O,O,O,O,O,O,O,O,O] rfl rfl (any_of HT_.out (by kernel_rfl)) (fun _ _ _ h=>h) (Or.inr ⟨by rfl,rfl⟩) ?_ ?_
          rotate_left
          ·simp only [Act.put,sA,sZ,sS,i64_w,i32_w]
           rfl
          refine pure_ (i:=6) (N:=some 70) (v:=?_) (a':=?_) #[I,I,I,I,I,I,I,O,O,O,O,O,O,O,O,O,O,O] rfl rfl (any_of HT_.out (by kernel_rfl)) (fun _ _ _ h=>h) (Or.inl ⟨by rfl,?_⟩) ?_ ?_
          rotate_left
          ·intro w'
           go_simp
           with_reducible rfl
          rotate_left
          ·simp only [Act.put,sA,sZ,sS,i64_w,i32_w]
           rfl
          refine pure_ (i:=7) (N:=some 71) (v:=?_) (a':=?_) #[I,I,I,I,I,I,I,I,O,O,O,O,O,O,O,O,O,O] rfl rfl (any_of HT_.out (by kernel_rfl)) (fun _ _ _ h=>h) (Or.inl ⟨by rfl,?_⟩) ?_ ?_
          rotate_left
          ·intro w'
           go_simp
           with_reducible rfl
          rotate_left
          ·simp only [Act.put,sA,sZ,sS,i64_w,i32_w]
           rfl
          refine pure_ (i:=8) (N:=some 72) (v:=?_) (a':=?_) #[I,I,I,I,I,I,I,I,I,O,O,O,O,O,O,O,O,O] rfl rfl (any_of HT_.out (by kernel_rfl)) (fun _ _ _ h=>h) (Or.inl ⟨by rfl,?_⟩) ?_ ?_
          rotate_left
          ·intro w'
           go_simp
           with_reducible rfl
          rotate_left
          ·simp only [Act.put,sA,sZ,sS,i64_w,i32_w]
           rfl
          refine pure_ (i:=9) (N:=some 73) (v:=?_) (a':=?_) #[I,I,I,I,I,I,I,I,I,I,O,O,O,O,O,O,O,O] rfl rfl (any_of HT_.out (by kernel_rfl)) (fun _ _ _ h=>h) (Or.inl ⟨by rfl,?_⟩) ?_ ?_
          rotate_left
          ·intro w'
           go_simp
           with_reducible rfl
          rotate_left
          ·simp only [Act.put,sA,sZ,sS,i64_w,i32_w]
           rfl
          refine pure_ (i:=11) (N:=some 75) (v:=?_) (a':=?_) #[I,I,I,I,I,I,I,I,I,I,O,I,O,O,O,O,O,O] rfl rfl (any_of HT_.out (by kernel_rfl)) (fun _ _ _ h=>h) (Or.inl ⟨by rfl,?_⟩) ?_ ?_
          rotate_left
          ·intro w'
           go_simp
           with_reducible rfl
          rotate_left
          ·simp only [Act.put,sA,sZ,sS,i64_w,i32_w]
           rfl
          refine pure_ (i:=14) (N:=some 78) (v:=?_) (a':=?_) #[I,I,I,I,I,I,I,I,I,I,O,I,O,O,I,O,O,O] rfl rfl (any_of HT_.out (by kernel_rfl)) (fun _ _ _ h=>h) (Or.inl ⟨by rfl,?_⟩) ?_ ?_
          rotate_left
          ·intro w'
           go_simp
           with_reducible rfl
          rotate_left
          ·simp only [Act.put,sA,sZ,sS,i64_w,i32_w]
           rfl
          refine take_ (i:=10) (N:=some 74) (v:=?_) (a':=?_) #[I,I,I,I,I,I,I,I,I,I,I,I,O,O,I,O,O,O] rfl rfl (take_ofW HT_.out HW_.out (by kernel_rfl)) (fun _ _ _ h=>h) (Or.inl ⟨by rfl,?_⟩) hHeld ?_ ?_
          rotate_left
          ·rintro w' ⟨s0,s1⟩
           go_simp
           with_reducible rfl
          rotate_left
          ·simp only [Act.put,sA,sZ,sS,i64_w,i32_w]
           rfl
          refine one_ (i:=12) (N:=some 76) #[I,I,I,I,I,I,I,I,I,I,I,I,I,O,I,O,O,O] rfl rfl (one_of HT_.out (by kernel_rfl)) (by decide) (fun K hK=>?_)
          refine goes_ Try.func82 (by kernel_rfl) rfl #[.slice (some ad121) t101.length co12] (by rfl) rfl rfl (by (try simp only [mT,mC,mN]);first|done|rfl|(simp only [lD,lT];rfl)) ?_
          with_reducible refine (impl_WorldOfKinds.calls kj6 _ _ t101 t124 _ ?side1 ?side2 A61.out).mono ?_
          (case side1=>repeat (first|exact (rR HO_3.out).2.2|(with_reducible refine cA ?_ _)|(with_reducible refine cN ?_ _)|(with_reducible refine cD ?_)))
          (case side2=>exact (rR HO_3.out).2.1)
          rintro e w' ⟨rfl,⟨nd,rfl⟩⟩
          refine ⟨_,rfl,?_⟩
          refine hK.out _ _ ⟨(kC BK108.out 0).trans rfl,(kC BK108.out 1).trans rfl⟩ (fun hHeld=>?_)
          clear hK K
          refine norm_ (a':=?_) ?_ ?_
          rotate_left
          ·show Act.put _ (some 76) _=_
           simp only [Act.put,sA,sZ,sS,i64_w,i32_w]
           rfl
          refine one_ (i:=13) (N:=some 77) #[I,I,I,I,I,I,I,I,I,I,I,I,I,I,I,O,O,O] rfl rfl (one_of HT_.out (by kernel_rfl)) (by decide) (fun K hK=>?_)
          refine goes_ Try.func35 (by kernel_rfl) rfl #[.int .i64 (t101.length:Int),.agg #[.int .i64 t104,.slice Ao11 t105.length co11],.int .i64 t124] (by rfl) rfl rfl (by (try simp only [mT,mC,mN]);first|done|rfl|(simp only [lD,lT];rfl)) ?_
          with_reducible refine (impl_MaySay.calls kj6 (t101.length:Int) t104 _ _ t105 t124 t125 _ ?side1 ?side2 A62.out).mono ?_
          (case side1=>repeat (first|exact (rR HO_109001.out).2.2|(with_reducible refine cA ?_ _)|(with_reducible refine cN ?_ _)|(with_reducible refine cD ?_)))
          (case side2=>exact (rR HO_109001.out).2.1)
          rintro e w72 ⟨rfl,hb⟩
          refine ⟨_,rfl,?_⟩
          have n0_:=mA (rB (by (with_reducible repeat (first|apply rA|apply rN|apply rD));exact HO_3.out) hb)
          have n1_:=mA (rB (by (with_reducible repeat (first|apply rA|apply rN|apply rD));exact HO_109001.out) hb)
          have n2_:=mA (rB (by (with_reducible repeat (first|apply rA|apply rN|apply rD));exact HO117.out) hb)
          have n3_:=mA (blk_below (g:=gb108) (o:=.cells #[.int .i64 t104,.slice Ao11 t105.length co11] 36 (0,0)) (by (with_reducible repeat (first|refine kN ?_ _|refine kD ?_|refine kA ?_ _));exact BK108.out) hb)
          have n4_:=mA (blk_below (g:=gb119) (o:=.cells #[.int .i64 t114,.slice Ao68 t115.length co68] 36 (0,0)) (by (with_reducible repeat (first|refine kN ?_ _|refine kD ?_|refine kA ?_ _));exact BK119.out) hb)
          have n5_:=mA (bT (by repeat (first|(with_reducible first|exact HB.out|apply bA|apply bN|apply bD|refine bS ?_ GE108.out|refine bS ?_ GE119.out)|exact HB.out)) hb)
          clear HO_3
          clear HO_109001
          clear HO117
          clear BK108
          clear BK119
          clear HB
          have HO_3:=n0_
          have HO_109001:=n1_
          have HO117:=n2_
          have BK108:=n3_
          have BK119:=n4_
          have HB:=n5_
          clear n0_ n1_ n2_ n3_ n4_ n5_
          (try clear hb)
          (try clear hb2)
          (try clear hk)
          (try clear hi)
          refine hK.out _ _ ⟨(kC BK108.out 0).trans rfl,(kC BK108.out 1).trans rfl⟩ (fun hHeld=>?_)
          clear hK K
          refine norm_ (a':=?_) ?_ ?_
          rotate_left
          ·show Act.put _ (some 77) _=_
           simp only [Act.put,sA,sZ,sS,i64_w,i32_w]
           rfl
          refine pure_ (i:=15) (N:=some 79) (v:=?_) (a':=?_) #[I,I,I,I,I,I,I,I,I,I,I,I,I,I,I,I,O,O] rfl rfl (any_of HT_.out (by kernel_rfl)) (fun _ _ _ h=>h) (Or.inl ⟨by rfl,?_⟩) ?_ ?_
          rotate_left
          ·intro w'
           go_simp
           with_reducible rfl
          rotate_left
          ·simp only [Act.put,sA,sZ,sS,i64_w,i32_w]
           rfl
          refine pure_ (i:=16) (N:=some 80) (v:=?_) (a':=?_) #[I,I,I,I,I,I,I,I,I,I,I,I,I,I,I,I,I,O] rfl rfl (any_of HT_.out (by kernel_rfl)) (fun _ _ _ h=>h) (Or.inl ⟨by rfl,?_⟩) ?_ ?_
          rotate_left
          ·intro w'
           go_simp
           with_reducible rfl
          rotate_left
          ·simp only [Act.put,sA,sZ,sS,i64_w,i32_w]
           rfl
          refine pure_ (i:=17) (N:=some 2) (v:=?_) (a':=?_) #[I,I,I,I,I,I,I,I,I,I,I,I,I,I,I,I,I,I] rfl rfl (any_of HT_.out (by kernel_rfl)) (fun _ _ _ h=>h) (Or.inl ⟨by rfl,?_⟩) ?_ ?_
          rotate_left
          ·intro w'
           go_simp
           with_reducible rfl
          rotate_left
          ·simp only [Act.put,sA,sZ,sS,i64_w,i32_w]
           rfl
          refine done_ (done_of HT_.out (by kernel_rfl)) ?_
          try go_wp2
          go_ret
          exact ⟨by first|rfl|(simp [errW_none,errW_some]<;>rfl)|(simp [*, errW_none,errW_some]<;>rfl),by repeat (first|(with_reducible first|exact HB.out|apply bA|apply bN|apply bD|refine bS ?_ GE108.out|refine bS ?_ GE119.out)|exact HB.out)⟩
       ·rw [if_neg c27] at H
        exact absurd H (by simp)
      ·rw [if_neg c26] at H
       exact absurd H (by simp)

/-- THE ONE PURE STATEMENT of laws_FnSpySays: yours. -/
def laws_FnSpySays.Pure:Prop:=∀ (l0:List Int),l0.length≤maxLen→l0.length*1≤140737488351232→(∀ x∈l0,(Lit.int .u8 x).wf=true) → ∃ k,laws_FnSpySays.f k l0=some true
theorem laws_FnSpySays.walk (P:laws_FnSpySays.Pure) (a0:Option Addr) (len0 cap0:Nat) (z0:List Int) (w:World) (w0:(a0=none∧len0=0∧cap0=0∧z0=[]) ∨ ∃ x,a0=some x∧len0≤cap0∧cap0≤maxLen∧z0.length=cap0∧(∀ i,i<z0.length→w.cell? (x.add i)=some (.int .u8 (z0.getD i 0))) ∧ ∀ n∈z0,(Lit.int .u8 n).wf=true) (y0:len0*1≤140737488351232) :
  Calls Try.prog 16 #[.slice a0 len0 cap0] w fun e w'=>e = .returned (.bool true)∧Below w.heap.size w w':=by
 obtain ⟨l0,rfl,hr0,hm0,hw0,hc0⟩:=ReadsInt.ofRowC w0
 obtain ⟨k,h⟩:=P l0 hm0 y0 hw0
 refine (laws_FnSpySays.calls k _ _ l0 true w (Kd.C_of_reads (d:=(0:Int)) (h1:=fun _=>rfl) hr0) hc0 ⟨rfl⟩ h).mono ?_
 rintro e w' ⟨rfl,hd⟩
 exact ⟨rfl,hd⟩
end Go.Proofs.Ytpampekijfjlkab.X
/- Drawn claims. -/
namespace Go.Proofs.Ytpampekijfjlkab.L
open Go.RowKit Go.Proofs.Ytpampekijfjlkab.X Go.Proofs.YtpampekijfjlkabW.PrintWords Go.Proofs.YtpampekijfjlkabW.PrintLast Go.Proofs.YtpampekijfjlkabW.PrintMore
open Go.Proofs.YtpampekijfjlkabW.PrintWords renaming Aside0.mk → mA, pw_below_drewN → bN, below_drew1 → bD, below_alloc → bA, below_set → bS, blk_alloc → kA, blk_drewN → kN, blk_drew → kD, blk_cell → kC, blk_frozen → kF, below_size → bZ, below_step → bT, Kd.R_alloc → rA, Kd.R_drewN → rN, Kd.R_drew → rD, Kd.R_mono → rM, Kd.R_reads' → rR, Kd.R_far → rF, Kd.R_lt → rL, Kd.R_below → rB, Kd.C_alloc → cA, Kd.C_drewN → cN, Kd.C_drew → cD
open List renaming setIfInBounds_toArray → sA, set_cons_zero → sZ, set_cons_succ → sS, length_take → lT, length_drop → lD, map_toArray → mT, map_cons → mC, map_nil → mN
open Bool renaming true → I, false → O
theorem l20Claim_ev {s:List Int} (hs:Rd s) {n:Int} (h0:0≤n) (h1:n≤500000) (P m:Int) (hP:P≤1000) (hm0 : -1000≤m) (hm:m≤400) :
  ∃ (i:Int) (t:List M) (n':Int),Ev (fun k=>spec_l20Claim.f k s n P m) (i,t,n') ∧ -1≤i∧i≤1000∧t.length≤16∧Sm t∧n≤n'∧n'≤n+100:=by
 have hmx:1≤mx P 1∧mx P 1≤1000:=by unfold mx;split<;>omega
 obtain ⟨a,ha,ha0,ha1⟩:=pick_ev hs (p:=n) (by omega) (by omega) (mx P 1) (by omega)
 have ha2:=ha1 (by omega)
 obtain ⟨t,p',ht,h2,h3,h4,h5⟩:=l20Term_ev hs (p:=n+1) (by omega) (by omega) P (m*2) (by omega)
 obtain ⟨b,p2,hb,hb0,hb1⟩:=odd_ev hs (p:=p') (by omega) (by omega) m (by omega)
 cases b with
 | false =>
  refine ⟨a,t,p2,?_,by omega,by omega,h2,h3,by omega,by omega⟩
  unfold spec_l20Claim.f
  simp only [w64 (x:=m*2) (by omega) (by omega)]
  exact Ev.bind ha (Ev.bind ht (Ev.bind hb (Ev.no (by simp) (Ev.some _))))
 | true =>
  obtain ⟨c,hc,hc0,hc1⟩:=pick_ev hs (p:=p2) (by omega) (by omega) 2 (by omega)
  have hc2:=hc1 (by omega)
  refine ⟨rd [-1,4] c,t,p2+1,?_,?_,?_,h2,h3,by omega,by omega⟩
  ·unfold spec_l20Claim.f
   simp only [w64 (x:=m*2) (by omega) (by omega),Option.bind_some]
   exact Ev.bind ha (Ev.bind ht (Ev.bind hb (Ev.yes rfl (Ev.bind hc (Ev.yes hc0 (Ev.yes (by simpa using hc2) (Ev.some _)))))))
  ·obtain rfl|rfl:c=0∨c=1:=by omega
   ·decide
   ·decide
  ·obtain rfl|rfl:c=0∨c=1:=by omega
   ·decide
   ·decide
theorem l20Claimed_ev {s:List Int} (hs:Rd s) (m:Int) (hm0 : -1000≤m) (hm:m≤400) : ∃ (p i:Int) (t:List M) (n:Int),Ev (fun k=>spec_l20Claimed.f k s 0 m) (p,i,t,n)∧1≤p∧p≤4 ∧ -1≤i∧i≤1000∧t.length≤16∧Sm t∧0≤n∧n≤1000:=by
 obtain ⟨a,ha,ha0,ha1⟩:=pick_ev hs (p:=0) (by omega) (by omega) 4 (by omega)
 have ha2:=ha1 (by omega)
 obtain ⟨i,t,n',h,h2,h3,h4,h5,h6,h7⟩:=l20Claim_ev hs (n:=0+1) (by omega) (by omega) (1+a) m (by omega) hm0 hm
 refine ⟨1+a,i,t,n',?_,by omega,by omega,h2,h3,h4,h5,by omega,by omega⟩
 unfold spec_l20Claimed.f
 refine Ev.bind ha ?_
 simp only [w64 (x:=1+a) (by omega) (by omega)]
 exact Ev.bind h (Ev.some _)
theorem l20Kinds_l0 {s:List Int} (hs:Rd s) (n:Int) (hn:n≤1000) (P:Nat) (hP:P≤100) : ∀ (d i:Nat) (ks:List Int) (p:Int),d+i=P→ks.length≤i→0≤p→p≤900000+i →
  ∃ (r:List Int) (p':Int),Ev (fun k=>spec_l20Kinds.l0 k (P:Int) n ks (i:Int) s p) (r,p')∧r.length≤P+1∧p≤p'∧p'≤p+d+2:=by
 intro d
 induction d with
 | zero =>
  intro i ks p hd hk h0 h1
  obtain ⟨b,p1,hb,hp1,hp2⟩:=odd_ev hs h0 (by omega) n (by omega)
  have key : ∃ (r:List Int) (p':Int),Ev (fun k=>(spec_l20Rd_odd.f k s p n).bind fun bt145=>(if bt145.1=true then ((spec_l20Rd_pick.f k s bt145.2 2).bind fun bt147=>(if bt147.1=0 then (some ((([]:List Int)),bt147.2)) else (if ks.length<17592186044416 then (some ((ks++[3]),bt147.2)) else (none)))) else (some (ks,bt145.2)))) (r,p')∧r.length≤P+1∧p≤p'∧p'≤p+2:=by
   cases b with
   | false=>exact ⟨ks,p1,Ev.bind hb (Ev.no (by simp) (Ev.some _)),by omega,by omega,by omega⟩
   | true =>
    obtain ⟨q,hq,hq0,hq1⟩:=pick_ev hs (p:=p1) (by omega) (by omega) 2 (by omega)
    by_cases h:q=0
    ·exact ⟨[],p1+1,Ev.bind hb (Ev.yes rfl (Ev.bind hq (Ev.yes h (Ev.some _)))),by simp,by omega,by omega⟩
    ·exact ⟨ks++[3],p1+1,Ev.bind hb (Ev.yes rfl (Ev.bind hq (Ev.no h (Ev.yes (by omega) (Ev.some _))))),by simp;omega,by omega,by omega⟩
  obtain ⟨r,p',hr,h2,h3,h4⟩:=key
  exact ⟨r,p',(by refine Ev.step (fun k=>by simp only [spec_l20Kinds.l0];rfl) ?_;exact Ev.no (by omega) hr),h2,h3,by omega⟩
 | succ d ih =>
  intro i ks p hd hk h0 h1
  obtain ⟨q,hq,hq0,hq1⟩:=pick_ev hs h0 (by omega) 5 (by omega)
  have hq2:=hq1 (by omega)
  obtain ⟨r,p',hr,h2,h3,h4⟩:=ih (i+1) (ks++[rd [0,1,0,1,2] q]) (p+1) (by omega) (by simp;omega) (by omega) (by omega)
  refine ⟨r,p',?_,h2,by omega,by omega⟩
  refine Ev.step (fun k=>by simp only [spec_l20Kinds.l0];rfl) ?_
  refine Ev.yes (by omega) ?_
  simp only [Option.bind_some]
  refine Ev.bind hq (Ev.yes hq0 (Ev.yes (by simpa using hq2) (Ev.yes (by omega) ?_)))
  rw [w64 (by omega) (by omega),show ((i:Int)+1)=((i+1:Nat):Int) by omega]
  exact hr
theorem l20Kinds_ev {s:List Int} (hs:Rd s) {p:Int} (h0:0≤p) (h1:p≤900000) (P n:Int) (hP0:0≤P) (hP:P≤100) (hn:n≤1000) :
  ∃ (r:List Int) (p':Int),Ev (fun k=>spec_l20Kinds.f k s p P n) (r,p')∧r.length≤101∧p≤p'∧p'≤p+102:=by
 obtain ⟨N,rfl⟩:=Int.eq_ofNat_of_zero_le hP0
 obtain ⟨r,p',hr,h2,h3,h4⟩:=l20Kinds_l0 hs n hn N (by omega) N 0 [] p (by omega) (by simp) h0 (by omega)
 exact ⟨r,p',by unfold spec_l20Kinds.f;exact hr,by omega,h3,by omega⟩
theorem DrawSpySays_ev {l:List Int} (hw : ∀ x∈l,(Lit.int .u8 x).wf=true) : ∃ (ks:List Int) (i:Int) (t:List M),Ev (fun k=>spec_DrawSpySays.f k l) (ks,i,t)∧ks.length≤101 ∧ -1≤i∧i≤1000∧t.length≤16∧Sm t:=by
 obtain ⟨s,hs,ho⟩:=open_eq hw
 obtain ⟨p,i,t,n,h,h1,h2,h3,h4,h5,h6,h7,h8⟩:=l20Claimed_ev hs 14 (by omega) (by omega)
 obtain ⟨ks,n',hk,hk1,_,_⟩:=l20Kinds_ev hs (p:=n) h7 (by omega) p 14 (by omega) (by omega) (by omega)
 refine ⟨ks,i,t,?_,hk1,h3,h4,h5,h6⟩
 unfold spec_DrawSpySays.f
 rw [ho]
 simp only [Option.bind_some]
 exact Ev.bind h (Ev.bind hk (Ev.some _))
end Go.Proofs.Ytpampekijfjlkab.L
namespace Go.Proofs.Ytpampekijfjlkab.X
open Go.RowKit Go.Proofs.YtpampekijfjlkabW.PrintWords Go.Proofs.YtpampekijfjlkabW.PrintLast Go.Proofs.YtpampekijfjlkabW.PrintMore
open Go.Proofs.YtpampekijfjlkabW.PrintWords renaming Aside0.mk → mA, pw_below_drewN → bN, below_drew1 → bD, below_alloc → bA, below_set → bS, blk_alloc → kA, blk_drewN → kN, blk_drew → kD, blk_cell → kC, blk_frozen → kF, below_size → bZ, below_step → bT, Kd.R_alloc → rA, Kd.R_drewN → rN, Kd.R_drew → rD, Kd.R_mono → rM, Kd.R_reads' → rR, Kd.R_far → rF, Kd.R_lt → rL, Kd.R_below → rB, Kd.C_alloc → cA, Kd.C_drewN → cN, Kd.C_drew → cD
open List renaming setIfInBounds_toArray → sA, set_cons_zero → sZ, set_cons_succ → sS, length_take → lT, length_drop → lD, map_toArray → mT, map_cons → mC, map_nil → mN
open Bool renaming true → I, false → O
attribute [local go_sem] max2_int min2_int max_two min_two max_three min_three max_four min_four   -- for this text's walks alone
set_option linter.unusedVariables false
set_option linter.unusedSimpArgs false
/-! ### laws_toIntS: function 29 -/
def laws_toIntS.l0:Nat→List Int→List Int→Int→Option (List Int)
 | 0,_,_,_=>none
 | k+1,x0,x3,x4=>if x4<(x0.length:Int) then (if 0≤x4 then (if x4<(x3.length:Int) then (laws_toIntS.l0 k x0 (x3.set (x4:Int).toNat (rd x0 x4)) (wrap64 (x4+1))) else (none)) else (none)) else (some x3)
def laws_toIntS.f (k:Nat) (l0:List Int):Option (List Int):=if 0≤(l0.length:Int) then (if ((l0.length:Int):Int).toNat≤35184372088832 then (laws_toIntS.l0 k l0 (List.replicate ((l0.length:Int):Int).toNat 0) 0) else (none)) else (none)
theorem laws_toIntS.mono_l : ∀ k,(∀ y0 y1 y2,LeO (laws_toIntS.l0 k y0 y1 y2) (laws_toIntS.l0 (k+1) y0 y1 y2))
 | 0=>fun _ _ _ r h=>by simp [laws_toIntS.l0] at h
 | k+1=>by
  have ih0:=laws_toIntS.mono_l k
  ·intro y0 y1 y2
   unfold laws_toIntS.l0
   repeat' first
   | (with_reducible exact ih0 _ _ _)
   | (with_reducible exact LeO.refl _)
   | (with_reducible exact LeO.none _)
   | (with_reducible refine LeO.ite ?_ ?_)
   | (with_reducible refine LeO.bind ?_ (fun _=>?_))
   | exact ih0 _ _ _
   | exact LeO.none _
   | refine LeO.ite ?_ ?_
   | refine LeO.bind ?_ (fun _=>?_)
theorem laws_toIntS.mono : ∀ a0 k,LeO (laws_toIntS.f k a0) (laws_toIntS.f (k+1) a0):=by
 intro a0 k
 have ih0:=laws_toIntS.mono_l k
 unfold laws_toIntS.f
 repeat' first
   | (with_reducible exact ih0 _ _ _)
   | (with_reducible exact LeO.refl _)
   | (with_reducible exact LeO.none _)
   | (with_reducible refine LeO.ite ?_ ?_)
   | (with_reducible refine LeO.bind ?_ (fun _=>?_))
   | exact ih0 _ _ _
   | exact LeO.none _
   | refine LeO.ite ?_ ?_
   | refine LeO.bind ?_ (fun _=>?_)
set_option maxHeartbeats 8000000 in
set_option maxRecDepth 100000 in
theorem laws_toIntS.calls (k:Nat) (A0:Option Addr) (c0:Nat) (l0:List Int) (r:List Int) (w:World) (hr0:Kd.C (Kd.int .i64) w A0 l0.length l0) (hc0:l0.length≤c0) (h:laws_toIntS.f k l0=some r) :
  Calls Try.prog 29 #[.slice A0 l0.length c0] w fun e w'=>∃ v0_:Value,e = .returned (v0_)∧Kd.R (Kd.int .i64) 3 w' w.heap.size (fun _=>True) v0_ r∧Below w.heap.size w w':=by
 have HR0:=mA hr0
 have HC0:=mA hc0
 clear hr0 hc0
 have HB:=mA (Below.refl w.heap.size w)
 have H:(if 0≤(l0.length:Int) then (if ((l0.length:Int):Int).toNat≤35184372088832 then (laws_toIntS.l0 k l0 (List.replicate ((l0.length:Int):Int).toNat 0) 0) else (none)) else (none))=some r:=h
 clear h
 by_cases c2:0≤(l0.length:Int)
 ·rw [if_pos c2] at H
  have c2b0:=eq_true c2
  have c2b1:decide (0≤(l0.length:Int))=true:=decide_eq_true c2
  clear c2
  by_cases c3:((l0.length:Int):Int).toNat≤35184372088832
  ·rw [if_pos c3] at H
   have c3b0:=eq_true c3
   have c3b1:decide (((l0.length:Int):Int).toNat≤35184372088832)=true:=decide_eq_true c3
   clear c3
   obtain ⟨y101,hy101⟩ : ∃ y_:List Int,y_=(List.replicate ((l0.length:Int):Int).toNat 0):=⟨_,rfl⟩
   replace H:(laws_toIntS.l0 k l0 y101 0)=some r:=by first|(rw [hy101];with_reducible exact H)|(have H2_:=(Option.bind_some _ _).symm.trans H;rw [hy101];with_reducible exact H2_)|(have H2_:=(Option.bind_some _ _).symm.trans H;with_reducible exact H2_)|with_reducible exact H|(rw [hy101];exact H)|exact H
   have Ny101:=mA hy101
   clear hy101
   have H':=mA H
   clear H
   go_enter Try.func29,Try.ntmps29
   go_wp2_with (first|((with_reducible refine gate_dst (N:=7) rfl ?_);refine Kd.R_make (Kd.int .i64) _ 3 rfl (N:=7) rfl 26 _ _ rfl (l0.length:Int) rfl rfl Try.underlying26 (.int .i64 0) 8 info3 rfl (by decide) (by omega) 0 (ok:=fun _=>True) (okp:=fun _=>True) rfl (fun _ hk=>hk) trivial (of_decide_eq_true (by first|(with_reducible assumption)|assumption)) (Nat.le_trans (Nat.mul_le_mul_right _ (of_decide_eq_true (by first|(with_reducible assumption)|assumption):(l0.length:Int).toNat≤35184372088832)) (by omega)) (Below.refl _ _) (Nat.le_refl _) ?_;intro v102 w4 ho5 hb hg_ hnew_;clear hg_ hnew_;(first|rw [←Ny101.out] at ho5|(simp only [Int.reduceToNat] at ho5;rw [←Ny101.out] at ho5));have n0_:=mA (Kd.R_lower ho5 (bZ (by repeat (first|(with_reducible first|exact HB.out|apply bA|apply bN|apply bD)|exact HB.out))));have n1_:=mA (bT (by repeat (first|(with_reducible first|exact HB.out|apply bA|apply bN|apply bD)|exact HB.out)) hb);clear HB;have HO103:=n0_;have HB:=n1_;clear n0_ n1_ hb ho5))
   go_loopg [4] k (fun kq v4 w'=>∃ (x3_1:List Int) (x4_1:Int),v4 = .int .i64 x4_1∧Aside0 (laws_toIntS.l0 kq l0 x3_1 x4_1=some r)∧Aside0 (kq≤k)∧Aside0 (Kd.R (Kd.int .i64) 3 w' w.heap.size (fun _=>True) v102 x3_1)∧Aside0 (Below w.heap.size w w'))
   case atStart=>exact ⟨(y101),(0),(by first|rfl|(simp;done)|(simp [*];done)),H',⟨Nat.le_refl _⟩,⟨by (with_reducible repeat (first|apply rA|apply rN|apply rD));exact HO103.out⟩,⟨by repeat (first|(with_reducible first|exact HB.out|apply bA|apply bN|apply bD)|exact HB.out)⟩⟩
   case round =>
    clear H'
    try clear c2
    try clear c2b0
    try clear c2b1
    try clear p2
    try clear c3
    try clear c3b0
    try clear c3b1
    obtain ⟨x3_1,x4_1,rfl,HA,HK1,HO_3,HB⟩:=hrel
    cases gk with
    | zero=>exact absurd HA.out (by simp [laws_toIntS.l0])
    | succ k1 =>
     have H:=HA.out
     clear HA
     simp only [laws_toIntS.l0] at H
     by_cases c6:x4_1<(l0.length:Int)
     ·rw [if_pos c6] at H
      have c6b0:decide (x4_1<(l0.length:Int))=true:=decide_eq_true c6
      clear c6
      by_cases c7:0≤x4_1
      ·rw [if_pos c7] at H
       have c7b0:decide (0≤x4_1)=true:=decide_eq_true c7
       clear c7
       by_cases c8:x4_1<(x3_1.length:Int)
       ·rw [if_pos c8] at H
        have c8b0:decide (x4_1<(x3_1.length:Int))=true:=decide_eq_true c8
        clear c8
        obtain ⟨y105,hy105⟩ : ∃ y_:List Int,y_=(x3_1.set (x4_1:Int).toNat (rd l0 x4_1)):=⟨_,rfl⟩
        replace H:(laws_toIntS.l0 k1 l0 y105 (wrap64 (x4_1+1)))=some r:=by first|(rw [hy105];with_reducible exact H)|(have H2_:=(Option.bind_some _ _).symm.trans H;rw [hy105];with_reducible exact H2_)|(have H2_:=(Option.bind_some _ _).symm.trans H;with_reducible exact H2_)|with_reducible exact H|(rw [hy105];exact H)|exact H
        have Ny105:=mA hy105
        clear hy105
        have H':=mA H
        clear H
        have p104:0≤(x4_1:Int):=of_decide_eq_true (by first|(with_reducible assumption)|assumption)
        have q104:x4_1<(l0.length:Int):=of_decide_eq_true (by first|(with_reducible assumption)|assumption)
        obtain ⟨ad104,e104,hx104_0⟩:=Kd.at_int HR0.out x4_1 p104 q104
        cases e104
        replace hx104_0:=(HB.out.cell (World.block_lt_of_cell? w _ hx104_0)).trans hx104_0
        replace p104:=eq_true p104
        replace q104:=eq_true q104
        have p9:0≤(x4_1:Int):=of_decide_eq_true (by first|(with_reducible assumption)|assumption)
        have q9:(x4_1:Int)<((x3_1.length:Int):Int):=of_decide_eq_true (by first|(with_reducible assumption)|assumption)
        obtain ⟨go9,co9,eo9,gb9,gl9,cl9,HG9⟩:=Kd.R_form HO_3.out (by omega)
        (first|cases eo9|(injection eo9 with ea_ en_ ec_;(first|subst ea_|(injection ea_ with ea_;subst ea_));subst ec_;clear en_))
        have GB9:=mA gb9
        have GG9:=mA HG9
        clear gb9 gl9 HG9
        obtain ⟨hx9_0,hf9_0⟩:=Kd.R_celln 0 HO_3.out (x4_1:Int) p9 q9
        replace p9:=eq_true p9
        replace q9:=eq_true q9
        have HP10:=Kd.R_putg HO_3.out (x4_1:Int) (rd l0 x4_1)
        go_wp2_with (first|((with_reducible refine gate_store (t:=3) (p:=20) rfl ?_);refine store_event (t:=3) (p:=20) (v:=?vo_w11) (w1:=(wr.setCell ⟨go9,(x4_1:Int).toNat,none⟩ (.int .i64 (rd l0 x4_1)))) ?hg ?ho ?hn ?hr ?_;(case ho=>rfl);(case hg=>rfl);(case hn=>rfl);(case hr=>first|(go_simp;done)|(go_simp;rfl));intro w11 hw;have hg:wr.grownBy w11 (some go9):=(by rw [hw];exact HP10.2);have hp_:Kd.R (Kd.int .i64) 3 w11 w.heap.size (fun _=>True) (.slice (some ⟨go9,0,none⟩) x3_1.length co9) y105:=(by rw [hw,Ny105.out];exact HP10.1);clear HP10;have n0_:=mA (hp_);have n1_:=mA ((by rw [hw];exact bS (HB.out) GB9.out:Below w.heap.size w w11));clear HO_3 HB;have HO_3:=n0_;have HB:=n1_;clear n0_ n1_ hg hw hp_))
        go_roundg k1
        case measure=>have:=HK1.out;omega
        case rel=>exact ⟨(y105),(wrap64 (x4_1+1)),(by first|rfl|(simp;done)|(simp [*];done)),H',⟨by have:=HK1.out;omega⟩,⟨by (with_reducible repeat (first|apply rA|apply rN|apply rD));exact HO_3.out⟩,⟨by repeat (first|(with_reducible first|exact HB.out|apply bA|apply bN|apply bD)|exact HB.out)⟩⟩
       ·rw [if_neg c8] at H
        exact absurd H (by simp)
      ·rw [if_neg c7] at H
       exact absurd H (by simp)
     ·rw [if_neg c6] at H
      have c6b0:decide (x4_1<(l0.length:Int))=false:=decide_eq_false c6
      clear c6
      obtain rfl:=Option.some.inj H
      go_wp2
      go_ret
      exact ⟨_,by first|rfl|(simp [errW_none,errW_some]<;>rfl)|(simp [*, errW_none,errW_some]<;>rfl),by (with_reducible repeat (first|apply rA|apply rN|apply rD));exact HO_3.out,by repeat (first|(with_reducible first|exact HB.out|apply bA|apply bN|apply bD)|exact HB.out)⟩
  ·rw [if_neg c3] at H
   exact absurd H (by simp)
 ·rw [if_neg c2] at H
  exact absurd H (by simp)
/-! ### laws_eqIntS: function 32 -/
def laws_eqIntS.l0:Nat→List Int→List Int→Int→Option (Bool)
 | 0,_,_,_=>none
 | k+1,x0,x1,x5=>if x5<(x0.length:Int) then (if 0≤x5 then (if x5<(x1.length:Int) then (if (rd x0 x5)=(rd x1 x5) then (laws_eqIntS.l0 k x0 x1 (wrap64 (x5+1))) else (some false)) else (none)) else (none)) else (some true)
def laws_eqIntS.f (k:Nat) (l0:List Int) (l1:List Int):Option (Bool):=if (l0.length:Int)=(l1.length:Int) then (laws_eqIntS.l0 k l0 l1 0) else (some false)
theorem laws_eqIntS.mono_l : ∀ k,(∀ y0 y1 y2,LeO (laws_eqIntS.l0 k y0 y1 y2) (laws_eqIntS.l0 (k+1) y0 y1 y2))
 | 0=>fun _ _ _ r h=>by simp [laws_eqIntS.l0] at h
 | k+1=>by
  have ih0:=laws_eqIntS.mono_l k
  ·intro y0 y1 y2
   unfold laws_eqIntS.l0
   repeat' first
   | (with_reducible exact ih0 _ _ _)
   | (with_reducible exact LeO.refl _)
   | (with_reducible exact LeO.none _)
   | (with_reducible refine LeO.ite ?_ ?_)
   | (with_reducible refine LeO.bind ?_ (fun _=>?_))
   | exact ih0 _ _ _
   | exact LeO.none _
   | refine LeO.ite ?_ ?_
   | refine LeO.bind ?_ (fun _=>?_)
theorem laws_eqIntS.mono : ∀ a0 a1 k,LeO (laws_eqIntS.f k a0 a1) (laws_eqIntS.f (k+1) a0 a1):=by
 intro a0 a1 k
 have ih0:=laws_eqIntS.mono_l k
 unfold laws_eqIntS.f
 repeat' first
   | (with_reducible exact ih0 _ _ _)
   | (with_reducible exact LeO.refl _)
   | (with_reducible exact LeO.none _)
   | (with_reducible refine LeO.ite ?_ ?_)
   | (with_reducible refine LeO.bind ?_ (fun _=>?_))
   | exact ih0 _ _ _
   | exact LeO.none _
   | refine LeO.ite ?_ ?_
   | refine LeO.bind ?_ (fun _=>?_)
set_option maxHeartbeats 8000000 in
set_option maxRecDepth 100000 in
theorem laws_eqIntS.calls (k:Nat) (A0:Option Addr) (c0:Nat) (l0:List Int) (A1:Option Addr) (c1:Nat) (l1:List Int) (r:Bool) (w:World) (hr0:Kd.C (Kd.int .i64) w A0 l0.length l0) (hc0:l0.length≤c0) (hr1:Kd.C (Kd.int .i64) w A1 l1.length l1) (hc1:l1.length≤c1) (h:laws_eqIntS.f k l0 l1=some r) :
  Calls Try.prog 32 #[.slice A0 l0.length c0,.slice A1 l1.length c1] w fun e w'=>e = .returned (.bool r)∧Drawn0 w w':=by
 have HR0:=mA hr0
 have HC0:=mA hc0
 clear hr0 hc0
 have HR1:=mA hr1
 have HC1:=mA hc1
 clear hr1 hc1
 have H:(if (l0.length:Int)=(l1.length:Int) then (laws_eqIntS.l0 k l0 l1 0) else (some false))=some r:=h
 clear h
 by_cases c3:(l0.length:Int)=(l1.length:Int)
 ·rw [if_pos c3] at H
  have c3b0:((l0.length:Int)==(l1.length:Int))=true:=beq_iff_eq.mpr c3
  have c3b1:((l0.length:Int) != (l1.length:Int))=false:=bne_eq_false_iff_eq.mpr c3
  have c3b2:(l0.length==l1.length)=true:=by first|simpa using c3|(simp at c3 ⊢;omega)
  clear c3
  have H':=mA H
  clear H
  go_enter Try.func32,Try.ntmps32
  go_wp2
  repeat (go_quiet (fail);try go_wp2)
  go_loopg [5] k (fun kq v5 w'=>∃ (x5_1:Int),v5 = .int .i64 x5_1∧Aside0 (laws_eqIntS.l0 kq l0 l1 x5_1=some r)∧Aside0 (kq≤k)∧Drawn0 w w')
  case atStart=>exact ⟨(0),(by first|rfl|(simp;done)|(simp [*];done)),H',⟨Nat.le_refl _⟩,by repeat (first|exact Drawn0.refl _|apply Drawn0.step)⟩
  case round =>
   clear H'
   try clear c1
   try clear p2
   try clear c3
   try clear c3b0
   try clear c3b1
   try clear c3b2
   obtain ⟨x5_1,rfl,HA,HK1,⟨m1,rfl⟩⟩:=hrel
   cases gk with
   | zero=>exact absurd HA.out (by simp [laws_eqIntS.l0])
   | succ k1 =>
    have H:=HA.out
    clear HA
    simp only [laws_eqIntS.l0] at H
    by_cases c4:x5_1<(l0.length:Int)
    ·rw [if_pos c4] at H
     have c4b0:decide (x5_1<(l0.length:Int))=true:=decide_eq_true c4
     clear c4
     by_cases c5:0≤x5_1
     ·rw [if_pos c5] at H
      have c5b0:decide (0≤x5_1)=true:=decide_eq_true c5
      clear c5
      by_cases c6:x5_1<(l1.length:Int)
      ·rw [if_pos c6] at H
       have c6b0:decide (x5_1<(l1.length:Int))=true:=decide_eq_true c6
       clear c6
       by_cases c7:(rd l0 x5_1)=(rd l1 x5_1)
       ·rw [if_pos c7] at H
        have c7b0:((rd l0 x5_1)==(rd l1 x5_1))=true:=beq_iff_eq.mpr c7
        have c7b1:((rd l0 x5_1) != (rd l1 x5_1))=false:=bne_eq_false_iff_eq.mpr c7
        clear c7
        have H':=mA H
        clear H
        have p101:0≤(x5_1:Int):=of_decide_eq_true (by first|(with_reducible assumption)|assumption)
        have q101:x5_1<(l0.length:Int):=of_decide_eq_true (by first|(with_reducible assumption)|assumption)
        obtain ⟨ad101,e101,hx101_0⟩:=Kd.at_int HR0.out x5_1 p101 q101
        cases e101
        replace p101:=eq_true p101
        replace q101:=eq_true q101
        have p102:0≤(x5_1:Int):=of_decide_eq_true (by first|(with_reducible assumption)|assumption)
        have q102:x5_1<(l1.length:Int):=of_decide_eq_true (by first|(with_reducible assumption)|assumption)
        obtain ⟨ad102,e102,hx102_0⟩:=Kd.at_int HR1.out x5_1 p102 q102
        cases e102
        replace p102:=eq_true p102
        replace q102:=eq_true q102
        go_wp2
        repeat (go_quiet (fail);try go_wp2)
        go_roundg k1
        case measure=>have:=HK1.out;omega
        case rel=>exact ⟨(wrap64 (x5_1+1)),(by first|rfl|(simp;done)|(simp [*];done)),H',⟨by have:=HK1.out;omega⟩,by repeat (first|exact Drawn0.refl _|apply Drawn0.step)⟩
       ·rw [if_neg c7] at H
        have c7b0:((rd l0 x5_1)==(rd l1 x5_1))=false:=beq_eq_false_iff_ne.mpr c7
        have c7b1:((rd l0 x5_1) != (rd l1 x5_1))=true:=bne_iff_ne.mpr c7
        obtain rfl:=Option.some.inj H
        have p101:0≤(x5_1:Int):=of_decide_eq_true (by first|(with_reducible assumption)|assumption)
        have q101:x5_1<(l0.length:Int):=of_decide_eq_true (by first|(with_reducible assumption)|assumption)
        obtain ⟨ad101,e101,hx101_0⟩:=Kd.at_int HR0.out x5_1 p101 q101
        cases e101
        replace p101:=eq_true p101
        replace q101:=eq_true q101
        have p102:0≤(x5_1:Int):=of_decide_eq_true (by first|(with_reducible assumption)|assumption)
        have q102:x5_1<(l1.length:Int):=of_decide_eq_true (by first|(with_reducible assumption)|assumption)
        obtain ⟨ad102,e102,hx102_0⟩:=Kd.at_int HR1.out x5_1 p102 q102
        cases e102
        replace p102:=eq_true p102
        replace q102:=eq_true q102
        go_wp2
        repeat (go_quiet (fail);try go_wp2)
        go_ret
        exact ⟨by first|rfl|(simp;done)|(simp [*];done),by repeat (first|exact Drawn0.refl _|apply Drawn0.step)⟩
      ·rw [if_neg c6] at H
       exact absurd H (by simp)
     ·rw [if_neg c5] at H
      exact absurd H (by simp)
    ·rw [if_neg c4] at H
     have c4b0:decide (x5_1<(l0.length:Int))=false:=decide_eq_false c4
     clear c4
     obtain rfl:=Option.some.inj H
     go_wp2
     repeat (go_quiet (fail);try go_wp2)
     go_ret
     exact ⟨by first|rfl|(simp;done)|(simp [*];done),by repeat (first|exact Drawn0.refl _|apply Drawn0.step)⟩
 ·rw [if_neg c3] at H
  have c3b0:((l0.length:Int)==(l1.length:Int))=false:=beq_eq_false_iff_ne.mpr c3
  have c3b1:((l0.length:Int) != (l1.length:Int))=true:=bne_iff_ne.mpr c3
  have c3b2:(l0.length==l1.length)=false:=by first|simpa using c3|(simp at c3 ⊢;omega)
  obtain rfl:=Option.some.inj H
  go_enter Try.func32,Try.ntmps32
  go_wp2
  repeat (go_quiet (fail);try go_wp2)
  go_ret
  exact ⟨by first|rfl|(simp;done)|(simp [*];done),by repeat (first|exact Drawn0.refl _|apply Drawn0.step)⟩
end Go.Proofs.Ytpampekijfjlkab.X
/- Plain laws of rows of kinds: rows of at most four have one of 120 values, at which the functions are reckoned. -/
namespace Go.Proofs.Ytpampekijfjlkab.L
open Go.RowKit Go.Proofs.Ytpampekijfjlkab.X Go.Proofs.YtpampekijfjlkabW.PrintWords Go.Proofs.YtpampekijfjlkabW.PrintLast Go.Proofs.YtpampekijfjlkabW.PrintMore
open Go.Proofs.YtpampekijfjlkabW.PrintWords renaming Aside0.mk → mA, pw_below_drewN → bN, below_drew1 → bD, below_alloc → bA, below_set → bS, blk_alloc → kA, blk_drewN → kN, blk_drew → kD, blk_cell → kC, blk_frozen → kF, below_size → bZ, below_step → bT, Kd.R_alloc → rA, Kd.R_drewN → rN, Kd.R_drew → rD, Kd.R_mono → rM, Kd.R_reads' → rR, Kd.R_far → rF, Kd.R_lt → rL, Kd.R_below → rB, Kd.C_alloc → cA, Kd.C_drewN → cN, Kd.C_drew → cD
open List renaming setIfInBounds_toArray → sA, set_cons_zero → sZ, set_cons_succ → sS, length_take → lT, length_drop → lD, map_toArray → mT, map_cons → mC, map_nil → mN
open Bool renaming true → I, false → O
def kok (ks:List Int):Bool:=decide (1≤ks.length∧ks.length≤4)&&ks.all (fun k=>decide (0≤k∧k≤2))
theorem kok_iff {ks:List Int}:kok ks=true ↔ (1≤ks.length∧ks.length≤4) ∧ ∀ k∈ks,0≤k∧k≤2:=by unfold kok;simp
theorem impl_KindsOk_l0 (ks:List Int) (hl:ks.length≤4611686018427387904) : ∀ (suf pre:List Int),ks=pre++suf →
  Ev (fun k=>impl_KindsOk.l0 k ks ks ((ks.length:Nat):Int) ((pre.length:Nat):Int)) (decide (1≤ks.length∧ks.length≤4)&&suf.all (fun k=>decide (0≤k∧k≤2))):=by
 intro suf
 induction suf with
 | nil =>
  intro pre he
  have hle:ks.length=pre.length:=by rw [he];simp
  refine Ev.step (fun k=>by simp only [impl_KindsOk.l0];rfl) ?_
  refine Ev.no (by omega) ?_
  simp only [peopleOk_eq,Option.bind_some]
  refine Ev.cast (Ev.some _) ?_
  simp only [List.all_nil,Bool.and_true]
  exact decide_eq_decide.mpr (by omega)
 | cons m t ih =>
  intro pre he
  have hle:ks.length=pre.length+(t.length+1):=by rw [he];simp
  have hm:rd ks ((pre.length:Nat):Int)=m:=by rw [he];exact rdI_at pre m t
  have hnext:wrap64 (((pre.length:Nat):Int)+1)=(((pre++[m]).length:Nat):Int):=by rw [w64 (by omega) (by omega)];simp
  have ih':=ih (pre++[m]) (by rw [he];simp)
  refine Ev.step (fun k=>by simp only [impl_KindsOk.l0];rfl) ?_
  refine Ev.yes (by omega) (Ev.yes (by omega) (Ev.yes (by omega) ?_))
  simp only [hm,hnext]
  by_cases h:0≤m∧m≤2
  ·have e:((m :: t).all fun k=>decide (0≤k∧k≤2))=t.all fun k=>decide (0≤k∧k≤2):=by simp [h]
   rw [e]
   refine Ev.ite (fun _=>ih') (fun h0=>Ev.ite (fun _=>ih') (fun h1=>Ev.yes (by omega) ih'))
  ·have e:((m :: t).all fun k=>decide (0≤k∧k≤2))=false:=by simp;intro;omega
   rw [e]
   exact Ev.no (by omega) (Ev.no (by omega) (Ev.no (by omega) (Ev.cast (Ev.some _) (by simp))))
theorem impl_KindsOk_ev (ks:List Int) (hl:ks.length≤4611686018427387904):Ev (fun k=>impl_KindsOk.f k ks) (kok ks):=impl_KindsOk_l0 ks hl ks [] rfl
theorem spec_KindsOk_l0 (ks:List Int) (hl:ks.length≤4611686018427387904) : ∀ (suf pre:List Int),ks=pre++suf →
  Ev (fun k=>spec_KindsOk.l0 k ks ((pre.length:Nat):Int)) (decide (1≤ks.length∧ks.length≤4)&&suf.all (fun k=>decide (0≤k∧k≤2))):=by
 intro suf
 induction suf with
 | nil =>
  intro pre he
  have hle:ks.length=pre.length:=by rw [he];simp
  refine Ev.step (fun k=>by simp only [spec_KindsOk.l0];rfl) ?_
  refine Ev.no (by omega) ?_
  simp only [l1In_eq,Option.bind_some]
  refine Ev.cast (Ev.some _) ?_
  simp only [List.all_nil,Bool.and_true]
  exact decide_eq_decide.mpr (by omega)
 | cons m t ih =>
  intro pre he
  have hle:ks.length=pre.length+(t.length+1):=by rw [he];simp
  have hm:rd ks ((pre.length:Nat):Int)=m:=by rw [he];exact rdI_at pre m t
  have hnext:wrap64 (((pre.length:Nat):Int)+1)=(((pre++[m]).length:Nat):Int):=by rw [w64 (by omega) (by omega)];simp
  have ih':=ih (pre++[m]) (by rw [he];simp)
  refine Ev.step (fun k=>by simp only [spec_KindsOk.l0];rfl) ?_
  refine Ev.yes (by omega) (Ev.yes (by omega) ?_)
  simp only [hm,hnext,l1In_eq,Option.bind_some]
  by_cases h:0≤m∧m≤2
  ·have e:((m :: t).all fun k=>decide (0≤k∧k≤2))=t.all fun k=>decide (0≤k∧k≤2):=by simp [h]
   rw [e]
   exact Ev.yes (by simp [h]) ih'
  ·have e:((m :: t).all fun k=>decide (0≤k∧k≤2))=false:=by simp;intro;omega
   rw [e]
   exact Ev.no (by simp;omega) (Ev.cast (Ev.some _) (by simp))
theorem spec_KindsOk_ev (ks:List Int) (hl:ks.length≤4611686018427387904):Ev (fun k=>spec_KindsOk.f k ks) (kok ks):=spec_KindsOk_l0 ks hl ks [] rfl

/-- The world of a row of kinds. -/
def kw:List Int→Nat
 | []=>0
 | k :: t=>(if k=1 then 1 else 0)+2*kw t
def rows1 (t:List (List Int)):List (List Int):=t.flatMap fun x=>[0 :: x,1 :: x,2 :: x]
def allKinds:List (List Int):=rows1 [[]]++rows1 (rows1 [[]])++rows1 (rows1 (rows1 [[]]))++rows1 (rows1 (rows1 (rows1 [[]])))
theorem mem_rows1 {k:Int} {x:List Int} {t:List (List Int)} (hk:0≤k∧k≤2) (hx:x∈t):k :: x∈rows1 t:=by
 unfold rows1
 refine List.mem_flatMap.2 ⟨x,hx,?_⟩
 rcases (show k=0∨k=1∨k=2 by omega) with rfl|rfl|rfl<;>simp
theorem kok_all {ks:List Int} (h:kok ks=true):ks∈allKinds:=by
 obtain ⟨⟨h0,h1⟩,h2⟩:=kok_iff.1 h
 unfold allKinds
 simp only [List.mem_append]
 match ks,h0,h1,h2 with
 | [a],_,_,h2=>exact .inl (.inl (.inl (mem_rows1 (h2 a (by simp)) (by simp))))
 | [a,b],_,_,h2=>exact .inl (.inl (.inr (mem_rows1 (h2 a (by simp)) (mem_rows1 (h2 b (by simp)) (by simp)))))
 | [a,b,c],_,_,h2=>exact .inl (.inr (mem_rows1 (h2 a (by simp)) (mem_rows1 (h2 b (by simp)) (mem_rows1 (h2 c (by simp)) (by simp)))))
 | [a,b,c,d],_,_,h2=>exact .inr (mem_rows1 (h2 a (by simp)) (mem_rows1 (h2 b (by simp)) (mem_rows1 (h2 c (by simp)) (mem_rows1 (h2 d (by simp)) (by simp)))))
theorem worlds_all : ∀ ks∈allKinds,impl_WorldOfKinds.f 12 ks=some ((kw ks:Nat):Int)∧spec_l9World.f 12 ks=some ((kw ks:Nat):Int)∧kw ks<2^ks.length:=by decide +kernel
theorem impl_World_ev {ks:List Int} (hl:ks.length≤4611686018427387904):Ev (fun k=>impl_WorldOfKinds.f k ks) (if kok ks=true then ((kw ks:Nat):Int) else -1):=by
 by_cases h:kok ks=true
 ·rw [if_pos h]
  exact Ev.of (fun k=>impl_WorldOfKinds.mono _ k) (worlds_all ks (kok_all h)).1
 ·rw [if_neg h]
  unfold impl_WorldOfKinds.f
  exact Ev.bind (impl_KindsOk_ev ks hl) (Ev.no h (Ev.some _))
theorem spec_l9World_ev {ks:List Int} (h:kok ks=true):Ev (fun k=>spec_l9World.f k ks) ((kw ks:Nat):Int):=Ev.of (fun k=>spec_l9World.mono _ k) (worlds_all ks (kok_all h)).2.1
theorem kw_lt {ks:List Int} (h:kok ks=true):kw ks<2^ks.length:=(worlds_all ks (kok_all h)).2.2
theorem Tm.good_four {p:Int} (hp:p≤4) : ∀ a:Tm,a.good p→a.good 4
 | .tell i,h=>by have h':(i:Int)<p:=h;show (i:Int)<4;omega
 | .cnt n,h=>by have h':(n:Int)≤p+1:=h;show (n:Int)≤4+1;omega
 | .neg a,h=>good_four hp a h
 | .bin o a b,h=>⟨h.1,good_four hp a h.2.1,good_four hp b h.2.2⟩
open Classical in
/-- The tree of a row of marks. -/
noncomputable def tree (t:List M):Tm:=if h : ∃ a:Tm,a.good 4∧t=a.post then Classical.choose h else .tell 0
theorem tree_post {a:Tm} (h:a.good 4):(tree a.post).good 4∧a.post=(tree a.post).post:=by
 have h' : ∃ b:Tm,b.good 4∧a.post=b.post:=⟨a,h,rfl⟩
 unfold tree
 rw [dif_pos h']
 exact Classical.choose_spec h'
/-- Whether a row of marks holds in a world. -/
noncomputable def hv (t:List M) (w:Nat):Bool:=(tree t).ev w
theorem hv_post {a:Tm} (h:a.good 4) (hl:a.post.length≤500) {w:Nat} (hw:w<16):hv a.post w=a.ev w:=by
 obtain ⟨h1,h2⟩:=tree_post h
 have e1:=impl_holds_ev (by decide) hw h hl
 have e2:=impl_holds_ev (by decide) hw h1 (by rw [←h2];exact hl)
 rw [←h2] at e2
 exact Ev.uniq e2 e1
theorem tok_tree {p:Int} {t:List M} (h:tok p t=true) : ∃ a:Tm,a.good p∧t=a.post∧a.good 4∧t.length≤15:=by
 obtain ⟨a,h1,h2⟩:=parse h
 obtain ⟨_,h3,_,h4,_⟩:=tok_iff.1 h
 exact ⟨a,h1,h2,a.good_four h3 h1,h4⟩
theorem impl_holds_hv {p:Int} {t:List M} (h:tok p t=true) {w:Nat} (hw:w<16):Ev (fun k=>impl_holds.f k t (w:Int)) (hv t w):=by
 obtain ⟨a,_,rfl,h4,hl⟩:=tok_tree h
 rw [hv_post h4 (by omega) hw]
 exact impl_holds_ev (by decide) hw h4 (by omega)
theorem spec_holds_hv {p:Int} {t:List M} (h:tok p t=true) {w:Nat} (hw:w<16):Ev (fun k=>spec_l3Holds.f k t (w:Int)) (hv t w):=by
 obtain ⟨a,_,rfl,h4,hl⟩:=tok_tree h
 rw [hv_post h4 (by omega) hw]
 exact l3Holds_ev (by decide) hw a h4 (by omega)
/-- Whether a claim may be made in a world. -/
noncomputable def may (i:Int) (t:List M) (w:Nat):Bool:=hv t w==w.testBit i.toNat
end Go.Proofs.Ytpampekijfjlkab.L
