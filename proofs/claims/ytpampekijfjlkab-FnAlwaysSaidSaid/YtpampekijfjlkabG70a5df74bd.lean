/- Joined by a program of this session's: X115, LDC, LDCC, LO, LOB, LKC, LDOD, LDOAL, LH, LTB, LTY, LCB, LSM, LCBS, LASA, LKT, LTO, LTS, LBS, X12, X20, LST, LSAB. -/
import Derived.Test.YtpampekijfjlkabGa4ed4a3048
import Derived.Test.YtpampekijfjlkabG37845066d4
import Derived.Test.YtpampekijfjlkabG441f6114f7
import Derived.Test.YtpampekijfjlkabGbdacb0fde4
import Derived.Test.YtpampekijfjlkabG852afbd604
import Derived.Test.YtpampekijfjlkabG6bab2e187a
import Derived.Test.YtpampekijfjlkabG844b209ec0
import Derived.Laws.BitsLemmas

namespace Go.Proofs.Ytpampekijfjlkab.X
open Go.RowKit Go.Proofs.YtpampekijfjlkabW.PrintWords Go.Proofs.YtpampekijfjlkabW.PrintLast Go.Proofs.YtpampekijfjlkabW.PrintMore
open Go.Proofs.YtpampekijfjlkabW.PrintWords renaming Aside0.mk → mA, pw_below_drewN → bN, below_drew1 → bD, below_alloc → bA, below_set → bS, blk_alloc → kA, blk_drewN → kN, blk_drew → kD, blk_cell → kC, blk_frozen → kF, below_size → bZ, below_step → bT, Kd.R_alloc → rA, Kd.R_drewN → rN, Kd.R_drew → rD, Kd.R_mono → rM, Kd.R_reads' → rR, Kd.R_far → rF, Kd.R_lt → rL, Kd.R_below → rB, Kd.R_elder' → rE, Kd.R_lower → rW, Kd.R_new' → rQ, Kd.R_types → rY, blk_put → kP, blk_far → kZ, blk_below → kB, blk_lt → kL, Kd.C_alloc → cA, Kd.C_drewN → cN, Kd.C_drew → cD
open Option renaming bind_some → oS, bind_eq_some_iff → oB
open List renaming length_take → lT, length_drop → lD, map_toArray → mT, map_cons → mC, map_nil → mN
attribute [local go_sem] max2_int min2_int max_two min_two max_three min_three max_four min_four   -- for this text's walks alone
set_option linter.unusedVariables false
set_option linter.unusedSimpArgs false
/-! ### laws_FnAlwaysSaid: function 14 -/
def laws_FnAlwaysSaid.f (k:Nat) (l0:List Int):Option (Bool):=if (l0.length:Int)>1048576 then (some true) else ((spec_DrawAlwaysSaid.f k l0).bind fun bt101=>((impl_AlwaysSaid.f k bt101.1 bt101.2.1 bt101.2.2).bind fun t107=>((spec_AlwaysSaid.f k bt101.1 bt101.2.1 bt101.2.2).bind fun t108=>(if (t107 != t108)=true then (some false) else ((spec_ClaimOk.f k bt101.1 bt101.2.1 bt101.2.2).bind fun t109=>(if t109=true then ((impl_KindClaim.f k bt101.1 bt101.2.1 bt101.2.1 true).bind fun bt110=>(if bt110.2.2=true then ((impl_AlwaysSaid.f k bt101.1 bt110.1 bt110.2.1).bind fun t116=>(if t116=true then ((impl_SameOk.f k bt101.1 bt101.2.2 bt110.2.1).bind fun t117=>(some (t117==t107))) else (some false))) else (some false))) else (if t107=true then (some false) else ((laws_alive.f).bind fun t118=>(some t118)))))))))
theorem laws_FnAlwaysSaid.mono : ∀ a0 k,LeO (laws_FnAlwaysSaid.f k a0) (laws_FnAlwaysSaid.f (k+1) a0):=by
 intro a0 k
 unfold laws_FnAlwaysSaid.f
 repeat' first
   | (with_reducible exact impl_AlwaysSaid.mono _ _ _ _)
   | (with_reducible exact impl_KindClaim.mono _ _ _ _ _)
   | (with_reducible exact impl_SameOk.mono _ _ _ _)
   | (with_reducible exact spec_AlwaysSaid.mono _ _ _ _)
   | (with_reducible exact spec_ClaimOk.mono _ _ _ _)
   | (with_reducible exact spec_DrawAlwaysSaid.mono _ _)
   | (with_reducible exact LeO.refl _)
   | (with_reducible exact LeO.none _)
   | (with_reducible refine LeO.ite ?_ ?_)
   | (with_reducible refine LeO.bind ?_ (fun _=>?_))
   | exact impl_AlwaysSaid.mono _ _ _ _
   | exact impl_KindClaim.mono _ _ _ _ _
   | exact impl_SameOk.mono _ _ _ _
   | exact spec_AlwaysSaid.mono _ _ _ _
   | exact spec_ClaimOk.mono _ _ _ _
   | exact spec_DrawAlwaysSaid.mono _ _
   | exact LeO.none _
   | refine LeO.ite ?_ ?_
   | refine LeO.bind ?_ (fun _=>?_)
set_option maxHeartbeats 8000000 in
set_option maxRecDepth 100000 in
theorem laws_FnAlwaysSaid.calls (k:Nat) (A0:Option Addr) (c0:Nat) (l0:List Int) (r:Bool) (w:World) (hr0:Kd.C (Kd.int .u8) w A0 l0.length l0) (hc0:l0.length≤c0) (hr_:Aside0 (r=true)) (h:laws_FnAlwaysSaid.f k l0=some r) :
  Calls Try.prog 14 #[.slice A0 l0.length c0] w fun e w'=>e = .returned (.bool r)∧Below w.heap.size w w':=by
 have hu36:=Try.underlying36
 have HR0:=mA hr0
 have HC0:=mA hc0
 clear hr0 hc0
 have HB:=mA (Below.refl w.heap.size w)
 have H:(if (l0.length:Int)>1048576 then (some true) else ((spec_DrawAlwaysSaid.f k l0).bind fun bt101=>((impl_AlwaysSaid.f k bt101.1 bt101.2.1 bt101.2.2).bind fun t107=>((spec_AlwaysSaid.f k bt101.1 bt101.2.1 bt101.2.2).bind fun t108=>(if (t107 != t108)=true then (some false) else ((spec_ClaimOk.f k bt101.1 bt101.2.1 bt101.2.2).bind fun t109=>(if t109=true then ((impl_KindClaim.f k bt101.1 bt101.2.1 bt101.2.1 true).bind fun bt110=>(if bt110.2.2=true then ((impl_AlwaysSaid.f k bt101.1 bt110.1 bt110.2.1).bind fun t116=>(if t116=true then ((impl_SameOk.f k bt101.1 bt101.2.2 bt110.2.1).bind fun t117=>(some (t117==t107))) else (some false))) else (some false))) else (if t107=true then (some false) else ((laws_alive.f).bind fun t118=>(some t118))))))))))=some r:=h
 clear h
 by_cases c2:(l0.length:Int)>1048576
 ·rw [if_pos c2] at H
  have c2b0:decide (1048576<(l0.length:Int))=true:=decide_eq_true c2
  have c2b1:decide (1048576<l0.length)=true:=decide_eq_true (by omega)
  clear c2
  obtain rfl:=Option.some.inj H
  go_enter Try.func14,Try.ntmps14
  go_wp2
  go_ret
  exact ⟨by first|rfl|(simp [errW_none,errW_some]<;>rfl)|(simp [*, errW_none,errW_some]<;>rfl),by repeat (first|(with_reducible first|exact HB.out|apply bA|apply bN|apply bD)|exact HB.out)⟩
 rw [if_neg c2] at H
 have c2b0:decide (1048576<(l0.length:Int))=false:=decide_eq_false c2
 have c2b1:decide (1048576<l0.length)=false:=decide_eq_false (by omega)
 clear c2
 replace H:=oB.mp H
 obtain ⟨⟨t101,t102,t103⟩,A30,H⟩:=H
 replace H:((impl_AlwaysSaid.f k t101 t102 t103).bind fun t107=>((spec_AlwaysSaid.f k t101 t102 t103).bind fun t108=>(if (t107 != t108)=true then (some false) else ((spec_ClaimOk.f k t101 t102 t103).bind fun t109=>(if t109=true then ((impl_KindClaim.f k t101 t102 t102 true).bind fun bt110=>(if bt110.2.2=true then ((impl_AlwaysSaid.f k t101 bt110.1 bt110.2.1).bind fun t116=>(if t116=true then ((impl_SameOk.f k t101 t103 bt110.2.1).bind fun t117=>(some (t117==t107))) else (some false))) else (some false))) else (if t107=true then (some false) else ((laws_alive.f).bind fun t118=>(some t118))))))))=some r:=H
 have A3:=mA A30
 clear A30
 replace H:=oB.mp H
 obtain ⟨t107,A40,H⟩:=H
 replace H:((spec_AlwaysSaid.f k t101 t102 t103).bind fun t108=>(if (t107 != t108)=true then (some false) else ((spec_ClaimOk.f k t101 t102 t103).bind fun t109=>(if t109=true then ((impl_KindClaim.f k t101 t102 t102 true).bind fun bt110=>(if bt110.2.2=true then ((impl_AlwaysSaid.f k t101 bt110.1 bt110.2.1).bind fun t116=>(if t116=true then ((impl_SameOk.f k t101 t103 bt110.2.1).bind fun t117=>(some (t117==t107))) else (some false))) else (some false))) else (if t107=true then (some false) else ((laws_alive.f).bind fun t118=>(some t118)))))))=some r:=H
 have A4:=mA A40
 clear A40
 replace H:=oB.mp H
 obtain ⟨t108,A50,H⟩:=H
 replace H:(if (t107 != t108)=true then (some false) else ((spec_ClaimOk.f k t101 t102 t103).bind fun t109=>(if t109=true then ((impl_KindClaim.f k t101 t102 t102 true).bind fun bt110=>(if bt110.2.2=true then ((impl_AlwaysSaid.f k t101 bt110.1 bt110.2.1).bind fun t116=>(if t116=true then ((impl_SameOk.f k t101 t103 bt110.2.1).bind fun t117=>(some (t117==t107))) else (some false))) else (some false))) else (if t107=true then (some false) else ((laws_alive.f).bind fun t118=>(some t118))))))=some r:=H
 have A5:=mA A50
 clear A50
 by_cases c6:(t107 != t108)=true
 ·rw [if_pos c6] at H
  have c6b0:(t107 != t108)=true:=c6
  (try (have c6b1:decide (t107=t108)=false:=by simpa using c6))
  (try (have c6b2:(t107==t108)=false:=by simpa using c6))
  (try (have c6b3 : ¬ (t107=t108):=by simpa using c6))
  clear c6
  exact absurd ((Option.some.inj H).trans hr_.out) (by decide)
 rw [if_neg c6] at H
 have c6b0:(t107 != t108)=false:=by simpa using c6
 (try (have c6b1:decide (t107=t108)=true:=by simpa using c6))
 (try (have c6b2:(t107==t108)=true:=by simpa using c6))
 clear c6
 replace H:=oB.mp H
 obtain ⟨t109,A70,H⟩:=H
 replace H:(if t109=true then ((impl_KindClaim.f k t101 t102 t102 true).bind fun bt110=>(if bt110.2.2=true then ((impl_AlwaysSaid.f k t101 bt110.1 bt110.2.1).bind fun t116=>(if t116=true then ((impl_SameOk.f k t101 t103 bt110.2.1).bind fun t117=>(some (t117==t107))) else (some false))) else (some false))) else (if t107=true then (some false) else ((laws_alive.f).bind fun t118=>(some t118))))=some r:=H
 have A7:=mA A70
 clear A70
 by_cases c8:t109=true
 ·subst c8
  have H1:((impl_KindClaim.f k t101 t102 t102 true).bind fun bt110=>(if bt110.2.2=true then ((impl_AlwaysSaid.f k t101 bt110.1 bt110.2.1).bind fun t116=>(if t116=true then ((impl_SameOk.f k t101 t103 bt110.2.1).bind fun t117=>(some (t117==t107))) else (some false))) else (some false)))=some r:=by rw [if_pos rfl] at H;exact H
  clear H
  have H:=H1
  clear H1
  replace H:=oB.mp H
  obtain ⟨⟨t110,t111,t114⟩,A90,H⟩:=H
  replace H:(if t114=true then ((impl_AlwaysSaid.f k t101 t110 t111).bind fun t116=>(if t116=true then ((impl_SameOk.f k t101 t103 t111).bind fun t117=>(some (t117==t107))) else (some false))) else (some false))=some r:=H
  have A9:=mA A90
  clear A90
  by_cases c10:t114=true
  ·subst c10
   have H1:((impl_AlwaysSaid.f k t101 t110 t111).bind fun t116=>(if t116=true then ((impl_SameOk.f k t101 t103 t111).bind fun t117=>(some (t117==t107))) else (some false)))=some r:=by rw [if_pos rfl] at H;exact H
   clear H
   have H:=H1
   clear H1
   replace H:=oB.mp H
   obtain ⟨t116,A110,H⟩:=H
   replace H:(if t116=true then ((impl_SameOk.f k t101 t103 t111).bind fun t117=>(some (t117==t107))) else (some false))=some r:=H
   have A11:=mA A110
   clear A110
   by_cases c12:t116=true
   ·subst c12
    have H1:((impl_SameOk.f k t101 t103 t111).bind fun t117=>(some (t117==t107)))=some r:=by rw [if_pos rfl] at H;exact H
    clear H
    have H:=H1
    clear H1
    replace H:=oB.mp H
    obtain ⟨t117,A130,H⟩:=H
    replace H:(some (t117==t107))=some r:=H
    have A13:=mA A130
    clear A130
    obtain rfl:=Option.some.inj H
    go_enter Try.func14,Try.ntmps14
    go_wp2_with (first|((with_reducible refine gate_callee (f:=74) rfl ?_);refine goesL_ (some 13) rfl rfl Try.func74 (by kernel_rfl) rfl #[.slice A0 l0.length c0] rfl (by (try simp only [mT,mC,mN]);first|done|rfl|(simp only [lD,lT];rfl)) ?_;(with_reducible refine (spec_DrawAlwaysSaid.calls k _ _ l0 t101 t102 t103 _ ?side1 ?side2 A3.out).mono ?_);(case side1=>repeat first|exact HR0.out|(with_reducible refine cA ?_ _)|(with_reducible refine cN ?_ _)|(with_reducible refine cD ?_));(case side2=>exact HC0.out);rintro e w14 ⟨v104,rfl,ho0,hb⟩;refine ⟨_,rfl,?_⟩;have n0_:=mA (rW ho0 (bZ (by repeat first|(with_reducible first|exact HB.out|apply bA|apply bN|apply bD)|exact HB.out)));have n1_:=mA (bT (by repeat first|(with_reducible first|exact HB.out|apply bA|apply bN|apply bD)|exact HB.out) hb);clear HB;have HO105:=n0_;have HB:=n1_;clear n0_ n1_;(try clear hb);(try clear hb2);(try clear hk);(try clear hi);(try clear ho0))|((with_reducible refine gate_dst (N:=4) rfl ?_);refine box_event ?hg (N:=4) ?hd (cs:=#[.int .i64 0,.slice none 0 0]) (t:=36) ?hr ?_;(case hd=>rfl);(case hg=>rfl);(case hr=>first|(go_simp;done)|(go_simp;rfl));intro gb106 hg w15 hbox hb;have n0_:=mA (rB (by (with_reducible repeat first|apply rA|apply rN|apply rD);exact HO105.out) hb);have n1_:=mA (bT (by repeat first|(with_reducible first|exact HB.out|apply bA|apply bN|apply bD)|exact HB.out) hb);have n2_:=mA (hbox);have n3_:=mA ((by rw [hg];exact (bZ (by repeat first|(with_reducible first|exact HB.out|apply bA|apply bN|apply bD)|exact HB.out)):w.heap.size≤gb106));have n4_:=mA ((by rw [hg];exact (bZ (by repeat first|(with_reducible first|exact HB.out|apply bA|apply bN|apply bD)|exact HB.out)):w.heap.size≤gb106));clear HO105 HB;have HO105:=n0_;have HB:=n1_;have BK106:=n2_;have GW106:=n3_;have GE106:=n4_;clear n0_ n1_ n2_ n3_ n4_ hb hbox hg;have hcz16_0:w15.cell? ⟨gb106,0,none⟩=some (.int .i64 0):=(kC BK106.out 0).trans rfl;have hcz16_1:w15.cell? ⟨gb106,1,none⟩=some (.slice none 0 0):=(kC BK106.out 1).trans rfl;have hfz16_0:=kF BK106.out 0;have hfz16_1:=kF BK106.out 1;obtain ⟨Ao17,co17,eo17⟩:=Kd.R_slice HO105.out;subst eo17)|((with_reducible refine gate_callee (f:=47) rfl ?_);refine goesL_ (some 18) rfl rfl Try.func47 (by kernel_rfl) rfl #[.int .i64 t101,.agg #[.int .i64 t102,.slice Ao17 t103.length co17]] rfl (by (try simp only [mT,mC,mN]);first|done|rfl|(simp only [lD,lT];rfl)) ?_;(with_reducible refine (impl_AlwaysSaid.calls k t101 t102 _ _ t103 t107 _ ?side1 ?side2 A4.out).mono ?_);(case side1=>refine (rR (e:=33) (base:=w.heap.size) (ok:=fun k_=>True) (n:=t103.length) (c:=co17) ?_).2.2;exact (by (with_reducible repeat first|apply rA|apply rN|apply rD);exact (rM (rF (p:=⟨gb106,1,none⟩) (rF (p:=⟨gb106,0,none⟩) (rY HO105.out BK106.out (by decide)) (fun _ hk=>hk.2) (.int .i64 t102)) (fun _ hk=>hk.2) (.slice Ao17 t103.length co17)) (fun _ h_=>h_.1))));(case side2=>exact (rR HO105.out).2.1);rintro e w18 ⟨rfl,hb⟩;refine ⟨_,rfl,?_⟩;have n0_:=mA (rB (by (with_reducible repeat first|apply rA|apply rN|apply rD);exact (rM (rF (p:=⟨gb106,1,none⟩) (rF (p:=⟨gb106,0,none⟩) (rY HO105.out BK106.out (by decide)) (fun _ hk=>hk.2) (.int .i64 t102)) (fun _ hk=>hk.2) (.slice Ao17 t103.length co17)) (fun _ h_=>h_.1))) hb);have n1_:=mA (kB (g:=gb106) (o:=.cells #[.int .i64 t102,.slice Ao17 t103.length co17] 36 (0,0)) (by (with_reducible repeat first|refine kN ?_ _|refine kD ?_|refine kA ?_ _);refine kP (cs:=#[.int .i64 t102,.slice none 0 0]) ?_ 1 _ rfl;(with_reducible repeat first|refine kN ?_ _|refine kD ?_|refine kA ?_ _);refine kP (cs:=#[.int .i64 0,.slice none 0 0]) ?_ 0 _ rfl;(with_reducible repeat first|refine kN ?_ _|refine kD ?_|refine kA ?_ _);exact BK106.out) hb);have n2_:=mA (bT (by repeat first|(with_reducible first|exact HB.out|apply bA|apply bN|apply bD|refine bS ?_ GE106.out)|exact HB.out) hb);clear HO105 BK106 HB;have HO105:=n0_;have BK106:=n1_;have HB:=n2_;clear n0_ n1_ n2_;(try clear hb);(try clear hb2);(try clear hk);(try clear hi);have hcz19_0:w18.cell? ⟨gb106,0,none⟩=some (.int .i64 t102):=(kC BK106.out 0).trans rfl;have hcz19_1:w18.cell? ⟨gb106,1,none⟩=some (.slice Ao17 t103.length co17):=(kC BK106.out 1).trans rfl;have hfz19_0:=kF BK106.out 0;have hfz19_1:=kF BK106.out 1)|((with_reducible refine gate_callee (f:=75) rfl ?_);refine goesL_ (some 22) rfl rfl Try.func75 (by kernel_rfl) rfl #[.int .i64 t101,.agg #[.int .i64 t102,.slice Ao17 t103.length co17]] rfl (by (try simp only [mT,mC,mN]);first|done|rfl|(simp only [lD,lT];rfl)) ?_;(with_reducible refine (spec_AlwaysSaid.calls k t101 t102 _ _ t103 t108 _ ?side1 ?side2 A5.out).mono ?_);(case side1=>repeat first|exact (rR HO105.out).2.2|(with_reducible refine cA ?_ _)|(with_reducible refine cN ?_ _)|(with_reducible refine cD ?_));(case side2=>exact (rR HO105.out).2.1);rintro e w20 ⟨rfl,hb⟩;refine ⟨_,rfl,?_⟩;have n0_:=mA (rB (by (with_reducible repeat first|apply rA|apply rN|apply rD);exact HO105.out) hb);have n1_:=mA (kB (g:=gb106) (o:=.cells #[.int .i64 t102,.slice Ao17 t103.length co17] 36 (0,0)) (by (with_reducible repeat first|refine kN ?_ _|refine kD ?_|refine kA ?_ _);exact BK106.out) hb);have n2_:=mA (bT (by repeat first|(with_reducible first|exact HB.out|apply bA|apply bN|apply bD|refine bS ?_ GE106.out)|exact HB.out) hb);clear HO105 BK106 HB;have HO105:=n0_;have BK106:=n1_;have HB:=n2_;clear n0_ n1_ n2_;(try clear hb);(try clear hb2);(try clear hk);(try clear hi);have hcz21_0:w20.cell? ⟨gb106,0,none⟩=some (.int .i64 t102):=(kC BK106.out 0).trans rfl;have hcz21_1:w20.cell? ⟨gb106,1,none⟩=some (.slice Ao17 t103.length co17):=(kC BK106.out 1).trans rfl;have hfz21_0:=kF BK106.out 0;have hfz21_1:=kF BK106.out 1)|((with_reducible refine gate_callee (f:=37) rfl ?_);refine goesL_ (some 26) rfl rfl Try.func37 (by kernel_rfl) rfl #[.int .i64 t101,.agg #[.int .i64 t102,.slice Ao17 t103.length co17]] rfl (by (try simp only [mT,mC,mN]);first|done|rfl|(simp only [lD,lT];rfl)) ?_;(with_reducible refine (spec_ClaimOk.calls k t101 t102 _ _ t103 true _ ?side1 ?side2 A7.out).mono ?_);(case side1=>repeat first|exact (rR HO105.out).2.2|(with_reducible refine cA ?_ _)|(with_reducible refine cN ?_ _)|(with_reducible refine cD ?_));(case side2=>exact (rR HO105.out).2.1);rintro e w22 ⟨rfl,hb⟩;refine ⟨_,rfl,?_⟩;have n0_:=mA (rB (by (with_reducible repeat first|apply rA|apply rN|apply rD);exact HO105.out) hb);have n1_:=mA (kB (g:=gb106) (o:=.cells #[.int .i64 t102,.slice Ao17 t103.length co17] 36 (0,0)) (by (with_reducible repeat first|refine kN ?_ _|refine kD ?_|refine kA ?_ _);exact BK106.out) hb);have n2_:=mA (bT (by repeat first|(with_reducible first|exact HB.out|apply bA|apply bN|apply bD|refine bS ?_ GE106.out)|exact HB.out) hb);clear HO105 BK106 HB;have HO105:=n0_;have BK106:=n1_;have HB:=n2_;clear n0_ n1_ n2_;(try clear hb);(try clear hb2);(try clear hk);(try clear hi);have hcz23_0:w22.cell? ⟨gb106,0,none⟩=some (.int .i64 t102):=(kC BK106.out 0).trans rfl;have hcz23_1:w22.cell? ⟨gb106,1,none⟩=some (.slice Ao17 t103.length co17):=(kC BK106.out 1).trans rfl;have hfz23_0:=kF BK106.out 0;have hfz23_1:=kF BK106.out 1)|((with_reducible refine gate_callee (f:=76) rfl ?_);refine goesL_ (some 39) rfl rfl Try.func76 (by kernel_rfl) rfl #[.int .i64 t101,.int .i64 t102,.int .i64 t102,.bool true] rfl (by (try simp only [mT,mC,mN]);first|done|rfl|(simp only [lD,lT];rfl)) ?_;(with_reducible refine (impl_KindClaim.calls k t101 t102 t102 true t110 t111 true _ A9.out).mono ?_);rintro e w24 ⟨v112,rfl,ho0,hb⟩;refine ⟨_,rfl,?_⟩;have n0_:=mA (rE (by (with_reducible repeat first|apply rA|apply rN|apply rD);exact HO105.out) (Kd.R_base ho0) hb);have n1_:=mA (rW (rQ ho0 (rL (by (with_reducible repeat first|apply rA|apply rN|apply rD);exact HO105.out))) (bZ (by repeat first|(with_reducible first|exact HB.out|apply bA|apply bN|apply bD|refine bS ?_ GE106.out)|exact HB.out)));have n2_:=mA (kB (g:=gb106) (o:=.cells #[.int .i64 t102,.slice Ao17 t103.length co17] 36 (0,0)) (by (with_reducible repeat first|refine kN ?_ _|refine kD ?_|refine kA ?_ _);exact BK106.out) hb);have n3_:=mA (bT (by repeat first|(with_reducible first|exact HB.out|apply bA|apply bN|apply bD|refine bS ?_ GE106.out)|exact HB.out) hb);clear HO105 BK106 HB;have HO105:=n0_;have HO113:=n1_;have BK106:=n2_;have HB:=n3_;clear n0_ n1_ n2_ n3_;(try clear hb);(try clear hb2);(try clear hk);(try clear hi);(try clear ho0))|((with_reducible refine gate_dst (N:=6) rfl ?_);refine box_event ?hg (N:=6) ?hd (cs:=#[.int .i64 0,.slice none 0 0]) (t:=36) ?hr ?_;(case hd=>rfl);(case hg=>rfl);(case hr=>first|(go_simp;done)|(go_simp;rfl));intro gb115 hg w25 hbox hb;have n0_:=mA (rB (by (with_reducible repeat first|apply rA|apply rN|apply rD);exact HO105.out) hb);have n1_:=mA (rB (by (with_reducible repeat first|apply rA|apply rN|apply rD);exact HO113.out) hb);have n2_:=mA (kB (g:=gb106) (o:=.cells #[.int .i64 t102,.slice Ao17 t103.length co17] 36 (0,0)) (by (with_reducible repeat first|refine kN ?_ _|refine kD ?_|refine kA ?_ _);exact BK106.out) hb);have n3_:=mA (bT (by repeat first|(with_reducible first|exact HB.out|apply bA|apply bN|apply bD|refine bS ?_ GE106.out)|exact HB.out) hb);have n4_:=mA (hbox);have n5_:=mA ((by rw [hg];exact (bZ (by repeat first|(with_reducible first|exact HB.out|apply bA|apply bN|apply bD|refine bS ?_ GE106.out)|exact HB.out)):w.heap.size≤gb115));have n6_:=mA ((by rw [hg];exact (bZ (by repeat first|(with_reducible first|exact HB.out|apply bA|apply bN|apply bD|refine bS ?_ GE106.out)|exact HB.out)):w.heap.size≤gb115));have n7_:=mA ((by rw [hg];exact Nat.ne_of_lt (kL (g:=gb106) (o:=.cells #[.int .i64 t102,.slice Ao17 t103.length co17] 36 (0,0)) (by (with_reducible repeat first|refine kN ?_ _|refine kD ?_|refine kA ?_ _);exact BK106.out)):gb106≠gb115));have n8_:=mA ((by rw [hg];exact Nat.ne_of_gt (kL (g:=gb106) (o:=.cells #[.int .i64 t102,.slice Ao17 t103.length co17] 36 (0,0)) (by (with_reducible repeat first|refine kN ?_ _|refine kD ?_|refine kA ?_ _);exact BK106.out)):gb115≠gb106));clear HO105 HO113 BK106 HB;have HO105:=n0_;have HO113:=n1_;have BK106:=n2_;have HB:=n3_;have BK115:=n4_;have GW115:=n5_;have GE115:=n6_;have NB106_115:=n7_;have NB115_106:=n8_;clear n0_ n1_ n2_ n3_ n4_ n5_ n6_ n7_ n8_ hb hbox hg;have hnb26:=NB115_106.out;have hnc26:=NB106_115.out;have hcz27_0:w25.cell? ⟨gb115,0,none⟩=some (.int .i64 0):=(kC BK115.out 0).trans rfl;have hcz27_1:w25.cell? ⟨gb115,1,none⟩=some (.slice none 0 0):=(kC BK115.out 1).trans rfl;have hfz27_0:=kF BK115.out 0;have hfz27_1:=kF BK115.out 1;obtain ⟨Ao28,co28,eo28⟩:=Kd.R_slice HO113.out;subst eo28)|(go_at_call 47;(with_reducible refine (impl_AlwaysSaid.calls k t101 t110 _ _ t111 true _ ?side1 ?side2 A11.out).mono ?_);(case side1=>refine (rR (e:=33) (base:=w.heap.size) (ok:=fun k_=>(True∧some k_≠(.slice Ao17 t103.length co17:Value).ownBlock)) (n:=t111.length) (c:=co28) ?_).2.2;exact (by (with_reducible repeat first|apply rA|apply rN|apply rD);exact (rM (rF (p:=⟨gb115,1,none⟩) (rF (p:=⟨gb115,0,none⟩) (rY HO113.out BK115.out (by decide)) (fun _ hk=>hk.2) (.int .i64 t110)) (fun _ hk=>hk.2) (.slice Ao28 t111.length co28)) (fun _ h_=>h_.1))));(case side2=>exact (rR HO113.out).2.1);rintro e w29 ⟨rfl,hb⟩;have n0_:=mA (rB (by (with_reducible repeat first|apply rA|apply rN|apply rD);exact (rM (rF (p:=⟨gb115,1,none⟩) (rF (p:=⟨gb115,0,none⟩) (rY HO105.out BK115.out (by decide)) (fun _ hk=>hk.2) (.int .i64 t110)) (fun _ hk=>hk.2) (.slice Ao28 t111.length co28)) (fun _ h_=>h_.1))) hb);have n1_:=mA (rB (by (with_reducible repeat first|apply rA|apply rN|apply rD);exact (rM (rF (p:=⟨gb115,1,none⟩) (rF (p:=⟨gb115,0,none⟩) (rY HO113.out BK115.out (by decide)) (fun _ hk=>hk.2) (.int .i64 t110)) (fun _ hk=>hk.2) (.slice Ao28 t111.length co28)) (fun _ h_=>h_.1))) hb);have n2_:=mA (kB (g:=gb106) (o:=.cells #[.int .i64 t102,.slice Ao17 t103.length co17] 36 (0,0)) (by (with_reducible repeat first|refine kN ?_ _|refine kD ?_|refine kA ?_ _);refine kZ ?_ NB106_115.out _;(with_reducible repeat first|refine kN ?_ _|refine kD ?_|refine kA ?_ _);refine kZ ?_ NB106_115.out _;(with_reducible repeat first|refine kN ?_ _|refine kD ?_|refine kA ?_ _);exact BK106.out) hb);have n3_:=mA (kB (g:=gb115) (o:=.cells #[.int .i64 t110,.slice Ao28 t111.length co28] 36 (0,0)) (by (with_reducible repeat first|refine kN ?_ _|refine kD ?_|refine kA ?_ _);refine kP (cs:=#[.int .i64 t110,.slice none 0 0]) ?_ 1 _ rfl;(with_reducible repeat first|refine kN ?_ _|refine kD ?_|refine kA ?_ _);refine kP (cs:=#[.int .i64 0,.slice none 0 0]) ?_ 0 _ rfl;(with_reducible repeat first|refine kN ?_ _|refine kD ?_|refine kA ?_ _);exact BK115.out) hb);have n4_:=mA (bT (by repeat first|(with_reducible first|exact HB.out|apply bA|apply bN|apply bD|refine bS ?_ GE106.out|refine bS ?_ GE115.out)|exact HB.out) hb);clear HO105 HO113 BK106 BK115 HB;have HO105:=n0_;have HO113:=n1_;have BK106:=n2_;have BK115:=n3_;have HB:=n4_;clear n0_ n1_ n2_ n3_ n4_;(try clear hb);(try clear hb2);(try clear hk);(try clear hi);have hcz30_0:w29.cell? ⟨gb106,0,none⟩=some (.int .i64 t102):=(kC BK106.out 0).trans rfl;have hcz30_1:w29.cell? ⟨gb106,1,none⟩=some (.slice Ao17 t103.length co17):=(kC BK106.out 1).trans rfl;have hfz30_0:=kF BK106.out 0;have hfz30_1:=kF BK106.out 1;have hcz31_0:w29.cell? ⟨gb115,0,none⟩=some (.int .i64 t110):=(kC BK115.out 0).trans rfl;have hcz31_1:w29.cell? ⟨gb115,1,none⟩=some (.slice Ao28 t111.length co28):=(kC BK115.out 1).trans rfl;have hfz31_0:=kF BK115.out 0;have hfz31_1:=kF BK115.out 1)|(go_at_call 77;(with_reducible refine (impl_SameOk.calls k t101 _ _ t103 _ _ t111 t117 _ ?side1 ?side2 ?side3 ?side4 A13.out).mono ?_);(case side1=>repeat first|exact (rR HO105.out).2.2|(with_reducible refine cA ?_ _)|(with_reducible refine cN ?_ _)|(with_reducible refine cD ?_));(case side2=>exact (rR HO105.out).2.1);(case side3=>repeat first|exact (rR HO113.out).2.2|(with_reducible refine cA ?_ _)|(with_reducible refine cN ?_ _)|(with_reducible refine cD ?_));(case side4=>exact (rR HO113.out).2.1);rintro e w32 ⟨rfl,hb⟩;have n0_:=mA (rB (by (with_reducible repeat first|apply rA|apply rN|apply rD);exact HO105.out) hb);have n1_:=mA (rB (by (with_reducible repeat first|apply rA|apply rN|apply rD);exact HO113.out) hb);have n2_:=mA (kB (g:=gb106) (o:=.cells #[.int .i64 t102,.slice Ao17 t103.length co17] 36 (0,0)) (by (with_reducible repeat first|refine kN ?_ _|refine kD ?_|refine kA ?_ _);exact BK106.out) hb);have n3_:=mA (kB (g:=gb115) (o:=.cells #[.int .i64 t110,.slice Ao28 t111.length co28] 36 (0,0)) (by (with_reducible repeat first|refine kN ?_ _|refine kD ?_|refine kA ?_ _);exact BK115.out) hb);have n4_:=mA (bT (by repeat first|(with_reducible first|exact HB.out|apply bA|apply bN|apply bD|refine bS ?_ GE106.out|refine bS ?_ GE115.out)|exact HB.out) hb);clear HO105 HO113 BK106 BK115 HB;have HO105:=n0_;have HO113:=n1_;have BK106:=n2_;have BK115:=n3_;have HB:=n4_;clear n0_ n1_ n2_ n3_ n4_;(try clear hb);(try clear hb2);(try clear hk);(try clear hi)))
    go_ret
    exact ⟨by first|rfl|(simp [errW_none,errW_some]<;>rfl)|(simp [*, errW_none,errW_some]<;>rfl),by repeat (first|(with_reducible first|exact HB.out|apply bA|apply bN|apply bD|refine bS ?_ GE106.out|refine bS ?_ GE115.out)|exact HB.out)⟩
   replace c12:=Bool.eq_false_iff.mpr c12
   subst c12
   have H1:(some false)=some r:=by rw [if_neg (show ¬ (false=true) by decide)] at H;exact H
   clear H
   have H:=H1
   clear H1
   exact absurd ((Option.some.inj H).trans hr_.out) (by decide)
  replace c10:=Bool.eq_false_iff.mpr c10
  subst c10
  have H1:(some false)=some r:=by rw [if_neg (show ¬ (false=true) by decide)] at H;exact H
  clear H
  have H:=H1
  clear H1
  exact absurd ((Option.some.inj H).trans hr_.out) (by decide)
 replace c8:=Bool.eq_false_iff.mpr c8
 subst c8
 have H1:(if t107=true then (some false) else ((laws_alive.f).bind fun t118=>(some t118)))=some r:=by rw [if_neg (show ¬ (false=true) by decide)] at H;exact H
 clear H
 have H:=H1
 clear H1
 by_cases c33:t107=true
 ·subst c33
  have H1:(some false)=some r:=by rw [if_pos rfl] at H;exact H
  clear H
  have H:=H1
  clear H1
  exact absurd ((Option.some.inj H).trans hr_.out) (by decide)
 replace c33:=Bool.eq_false_iff.mpr c33
 subst c33
 have H1:((laws_alive.f).bind fun t118=>(some t118))=some r:=by rw [if_neg (show ¬ (false=true) by decide)] at H;exact H
 clear H
 have H:=H1
 clear H1
 replace H:=oB.mp H
 obtain ⟨t118,A340,H⟩:=H
 replace H:(some t118)=some r:=H
 have A34:=mA A340
 clear A340
 obtain rfl:=Option.some.inj H
 go_enter Try.func14,Try.ntmps14
 go_wp2_with (first|((with_reducible refine gate_callee (f:=74) rfl ?_);refine goesL_ (some 13) rfl rfl Try.func74 (by kernel_rfl) rfl #[.slice A0 l0.length c0] rfl (by (try simp only [mT,mC,mN]);first|done|rfl|(simp only [lD,lT];rfl)) ?_;(with_reducible refine (spec_DrawAlwaysSaid.calls k _ _ l0 t101 t102 t103 _ ?side1 ?side2 A3.out).mono ?_);(case side1=>repeat first|exact HR0.out|(with_reducible refine cA ?_ _)|(with_reducible refine cN ?_ _)|(with_reducible refine cD ?_));(case side2=>exact HC0.out);rintro e w35 ⟨v104,rfl,ho0,hb⟩;refine ⟨_,rfl,?_⟩;have n0_:=mA (rW ho0 (bZ (by repeat first|(with_reducible first|exact HB.out|apply bA|apply bN|apply bD)|exact HB.out)));have n1_:=mA (bT (by repeat first|(with_reducible first|exact HB.out|apply bA|apply bN|apply bD)|exact HB.out) hb);clear HB;have HO105:=n0_;have HB:=n1_;clear n0_ n1_;(try clear hb);(try clear hb2);(try clear hk);(try clear hi);(try clear ho0))|((with_reducible refine gate_dst (N:=4) rfl ?_);refine box_event ?hg (N:=4) ?hd (cs:=#[.int .i64 0,.slice none 0 0]) (t:=36) ?hr ?_;(case hd=>rfl);(case hg=>rfl);(case hr=>first|(go_simp;done)|(go_simp;rfl));intro gb106 hg w36 hbox hb;have n0_:=mA (rB (by (with_reducible repeat first|apply rA|apply rN|apply rD);exact HO105.out) hb);have n1_:=mA (bT (by repeat first|(with_reducible first|exact HB.out|apply bA|apply bN|apply bD)|exact HB.out) hb);have n2_:=mA (hbox);have n3_:=mA ((by rw [hg];exact (bZ (by repeat first|(with_reducible first|exact HB.out|apply bA|apply bN|apply bD)|exact HB.out)):w.heap.size≤gb106));have n4_:=mA ((by rw [hg];exact (bZ (by repeat first|(with_reducible first|exact HB.out|apply bA|apply bN|apply bD)|exact HB.out)):w.heap.size≤gb106));clear HO105 HB;have HO105:=n0_;have HB:=n1_;have BK106:=n2_;have GW106:=n3_;have GE106:=n4_;clear n0_ n1_ n2_ n3_ n4_ hb hbox hg;have hcz37_0:w36.cell? ⟨gb106,0,none⟩=some (.int .i64 0):=(kC BK106.out 0).trans rfl;have hcz37_1:w36.cell? ⟨gb106,1,none⟩=some (.slice none 0 0):=(kC BK106.out 1).trans rfl;have hfz37_0:=kF BK106.out 0;have hfz37_1:=kF BK106.out 1;obtain ⟨Ao38,co38,eo38⟩:=Kd.R_slice HO105.out;subst eo38)|((with_reducible refine gate_callee (f:=47) rfl ?_);refine goesL_ (some 18) rfl rfl Try.func47 (by kernel_rfl) rfl #[.int .i64 t101,.agg #[.int .i64 t102,.slice Ao38 t103.length co38]] rfl (by (try simp only [mT,mC,mN]);first|done|rfl|(simp only [lD,lT];rfl)) ?_;(with_reducible refine (impl_AlwaysSaid.calls k t101 t102 _ _ t103 false _ ?side1 ?side2 A4.out).mono ?_);(case side1=>refine (rR (e:=33) (base:=w.heap.size) (ok:=fun k_=>True) (n:=t103.length) (c:=co38) ?_).2.2;exact (by (with_reducible repeat first|apply rA|apply rN|apply rD);exact (rM (rF (p:=⟨gb106,1,none⟩) (rF (p:=⟨gb106,0,none⟩) (rY HO105.out BK106.out (by decide)) (fun _ hk=>hk.2) (.int .i64 t102)) (fun _ hk=>hk.2) (.slice Ao38 t103.length co38)) (fun _ h_=>h_.1))));(case side2=>exact (rR HO105.out).2.1);rintro e w39 ⟨rfl,hb⟩;refine ⟨_,rfl,?_⟩;have n0_:=mA (rB (by (with_reducible repeat first|apply rA|apply rN|apply rD);exact (rM (rF (p:=⟨gb106,1,none⟩) (rF (p:=⟨gb106,0,none⟩) (rY HO105.out BK106.out (by decide)) (fun _ hk=>hk.2) (.int .i64 t102)) (fun _ hk=>hk.2) (.slice Ao38 t103.length co38)) (fun _ h_=>h_.1))) hb);have n1_:=mA (kB (g:=gb106) (o:=.cells #[.int .i64 t102,.slice Ao38 t103.length co38] 36 (0,0)) (by (with_reducible repeat first|refine kN ?_ _|refine kD ?_|refine kA ?_ _);refine kP (cs:=#[.int .i64 t102,.slice none 0 0]) ?_ 1 _ rfl;(with_reducible repeat first|refine kN ?_ _|refine kD ?_|refine kA ?_ _);refine kP (cs:=#[.int .i64 0,.slice none 0 0]) ?_ 0 _ rfl;(with_reducible repeat first|refine kN ?_ _|refine kD ?_|refine kA ?_ _);exact BK106.out) hb);have n2_:=mA (bT (by repeat first|(with_reducible first|exact HB.out|apply bA|apply bN|apply bD|refine bS ?_ GE106.out)|exact HB.out) hb);clear HO105 BK106 HB;have HO105:=n0_;have BK106:=n1_;have HB:=n2_;clear n0_ n1_ n2_;(try clear hb);(try clear hb2);(try clear hk);(try clear hi);have hcz40_0:w39.cell? ⟨gb106,0,none⟩=some (.int .i64 t102):=(kC BK106.out 0).trans rfl;have hcz40_1:w39.cell? ⟨gb106,1,none⟩=some (.slice Ao38 t103.length co38):=(kC BK106.out 1).trans rfl;have hfz40_0:=kF BK106.out 0;have hfz40_1:=kF BK106.out 1)|((with_reducible refine gate_callee (f:=75) rfl ?_);refine goesL_ (some 22) rfl rfl Try.func75 (by kernel_rfl) rfl #[.int .i64 t101,.agg #[.int .i64 t102,.slice Ao38 t103.length co38]] rfl (by (try simp only [mT,mC,mN]);first|done|rfl|(simp only [lD,lT];rfl)) ?_;(with_reducible refine (spec_AlwaysSaid.calls k t101 t102 _ _ t103 t108 _ ?side1 ?side2 A5.out).mono ?_);(case side1=>repeat first|exact (rR HO105.out).2.2|(with_reducible refine cA ?_ _)|(with_reducible refine cN ?_ _)|(with_reducible refine cD ?_));(case side2=>exact (rR HO105.out).2.1);rintro e w41 ⟨rfl,hb⟩;refine ⟨_,rfl,?_⟩;have n0_:=mA (rB (by (with_reducible repeat first|apply rA|apply rN|apply rD);exact HO105.out) hb);have n1_:=mA (kB (g:=gb106) (o:=.cells #[.int .i64 t102,.slice Ao38 t103.length co38] 36 (0,0)) (by (with_reducible repeat first|refine kN ?_ _|refine kD ?_|refine kA ?_ _);exact BK106.out) hb);have n2_:=mA (bT (by repeat first|(with_reducible first|exact HB.out|apply bA|apply bN|apply bD|refine bS ?_ GE106.out)|exact HB.out) hb);clear HO105 BK106 HB;have HO105:=n0_;have BK106:=n1_;have HB:=n2_;clear n0_ n1_ n2_;(try clear hb);(try clear hb2);(try clear hk);(try clear hi);have hcz42_0:w41.cell? ⟨gb106,0,none⟩=some (.int .i64 t102):=(kC BK106.out 0).trans rfl;have hcz42_1:w41.cell? ⟨gb106,1,none⟩=some (.slice Ao38 t103.length co38):=(kC BK106.out 1).trans rfl;have hfz42_0:=kF BK106.out 0;have hfz42_1:=kF BK106.out 1)|((with_reducible refine gate_callee (f:=37) rfl ?_);refine goesL_ (some 26) rfl rfl Try.func37 (by kernel_rfl) rfl #[.int .i64 t101,.agg #[.int .i64 t102,.slice Ao38 t103.length co38]] rfl (by (try simp only [mT,mC,mN]);first|done|rfl|(simp only [lD,lT];rfl)) ?_;(with_reducible refine (spec_ClaimOk.calls k t101 t102 _ _ t103 false _ ?side1 ?side2 A7.out).mono ?_);(case side1=>repeat first|exact (rR HO105.out).2.2|(with_reducible refine cA ?_ _)|(with_reducible refine cN ?_ _)|(with_reducible refine cD ?_));(case side2=>exact (rR HO105.out).2.1);rintro e w43 ⟨rfl,hb⟩;refine ⟨_,rfl,?_⟩;have n0_:=mA (rB (by (with_reducible repeat first|apply rA|apply rN|apply rD);exact HO105.out) hb);have n1_:=mA (kB (g:=gb106) (o:=.cells #[.int .i64 t102,.slice Ao38 t103.length co38] 36 (0,0)) (by (with_reducible repeat first|refine kN ?_ _|refine kD ?_|refine kA ?_ _);exact BK106.out) hb);have n2_:=mA (bT (by repeat first|(with_reducible first|exact HB.out|apply bA|apply bN|apply bD|refine bS ?_ GE106.out)|exact HB.out) hb);clear HO105 BK106 HB;have HO105:=n0_;have BK106:=n1_;have HB:=n2_;clear n0_ n1_ n2_;(try clear hb);(try clear hb2);(try clear hk);(try clear hi))|(go_at_call 26;(with_reducible refine (laws_alive.calls  t118 _ A34.out).mono ?_);rintro e w' ⟨rfl,⟨nd,rfl⟩⟩))
 go_ret
 exact ⟨by first|rfl|(simp [errW_none,errW_some]<;>rfl)|(simp [*, errW_none,errW_some]<;>rfl),by repeat (first|(with_reducible first|exact HB.out|apply bA|apply bN|apply bD|refine bS ?_ GE106.out)|exact HB.out)⟩

/-- THE ONE PURE STATEMENT of laws_FnAlwaysSaid: yours. -/
def laws_FnAlwaysSaid.Pure:Prop:=∀ (l0:List Int),l0.length≤maxLen→l0.length*1≤140737488351232→(∀ x∈l0,(Lit.int .u8 x).wf=true) → ∃ k,laws_FnAlwaysSaid.f k l0=some true
theorem laws_FnAlwaysSaid.walk (P:laws_FnAlwaysSaid.Pure) (a0:Option Addr) (len0 cap0:Nat) (z0:List Int) (w:World) (w0:(a0=none∧len0=0∧cap0=0∧z0=[]) ∨ ∃ x,a0=some x∧len0≤cap0∧cap0≤maxLen∧z0.length=cap0∧(∀ i,i<z0.length→w.cell? (x.add i)=some (.int .u8 (z0.getD i 0))) ∧ ∀ n∈z0,(Lit.int .u8 n).wf=true) (y0:len0*1≤140737488351232) :
  Calls Try.prog 14 #[.slice a0 len0 cap0] w fun e w'=>e = .returned (.bool true)∧Below w.heap.size w w':=by
 obtain ⟨l0,rfl,hr0,hm0,hw0,hc0⟩:=ReadsInt.ofRowC w0
 obtain ⟨k,h⟩:=P l0 hm0 y0 hw0
 refine (laws_FnAlwaysSaid.calls k _ _ l0 true w (Kd.C_of_reads (d:=(0:Int)) (h1:=fun _=>rfl) hr0) hc0 ⟨rfl⟩ h).mono ?_
 rintro e w' ⟨rfl,hd⟩
 exact ⟨rfl,hd⟩
end Go.Proofs.Ytpampekijfjlkab.X
/- Drawn claims. -/
namespace Go.Proofs.Ytpampekijfjlkab.L
open Go.RowKit Go.Proofs.Ytpampekijfjlkab.X Go.Proofs.YtpampekijfjlkabW.PrintWords Go.Proofs.YtpampekijfjlkabW.PrintLast Go.Proofs.YtpampekijfjlkabW.PrintMore
open Go.Proofs.YtpampekijfjlkabW.PrintWords renaming Aside0.mk → mA, pw_below_drewN → bN, below_drew1 → bD, below_alloc → bA, below_set → bS, blk_alloc → kA, blk_drewN → kN, blk_drew → kD, blk_cell → kC, blk_frozen → kF, below_size → bZ, below_step → bT, Kd.R_alloc → rA, Kd.R_drewN → rN, Kd.R_drew → rD, Kd.R_mono → rM, Kd.R_reads' → rR, Kd.R_far → rF, Kd.R_lt → rL, Kd.R_below → rB, Kd.R_elder' → rE, Kd.R_lower → rW, Kd.R_new' → rQ, Kd.R_types → rY, blk_put → kP, blk_far → kZ, blk_below → kB, blk_lt → kL, Kd.C_alloc → cA, Kd.C_drewN → cN, Kd.C_drew → cD
open Option renaming bind_some → oS, bind_eq_some_iff → oB
open List renaming length_take → lT, length_drop → lD, map_toArray → mT, map_cons → mC, map_nil → mN
theorem l20Claim_ev {s:List Int} (hs:Rd s) {n:Int} (h0:0≤n) (h1:n≤500000) (P m:Int) (hP:P≤1000) (hm0 : -1000≤m) (hm:m≤400) :
  ∃ (i:Int) (t:List M) (n':Int),Ev (fun k=>spec_l20Claim.f k s n P m) (i,t,n') ∧ -1≤i∧i≤1000∧t.length≤16∧Sm t∧n≤n'∧n'≤n+100:=by
 have hmx:1≤mx P 1∧mx P 1≤1000:=by unfold mx;split<;>omega
 obtain ⟨a,ha,ha0,ha1⟩:=pick_ev hs (p:=n) (by omega) (by omega) (mx P 1) (by omega)
 have ha2:=ha1 (by omega)
 obtain ⟨t,p',ht,h2,h3,h4,h5⟩:=l20Term_ev hs (p:=n+1) (by omega) (by omega) P (m*2) (by omega)
 obtain ⟨b,p2,hb,hb0,hb1⟩:=odd_ev hs (p:=p') (by omega) (by omega) m (by omega)
 cases b with
 | false =>
  refine ⟨a,t,p2,?_,by omega,by omega,h2,h3,by omega,by omega⟩
  unfold spec_l20Claim.f
  simp only [w64 (x:=m*2) (by omega) (by omega)]
  exact Ev.bind ha (Ev.bind ht (Ev.bind hb (Ev.no (by simp) (Ev.some _))))
 | true =>
  obtain ⟨c,hc,hc0,hc1⟩:=pick_ev hs (p:=p2) (by omega) (by omega) 2 (by omega)
  have hc2:=hc1 (by omega)
  refine ⟨rd [-1,4] c,t,p2+1,?_,?_,?_,h2,h3,by omega,by omega⟩
  ·unfold spec_l20Claim.f
   simp only [w64 (x:=m*2) (by omega) (by omega),oS]
   exact Ev.bind ha (Ev.bind ht (Ev.bind hb (Ev.yes rfl (Ev.bind hc (Ev.yes hc0 (Ev.yes (by simpa using hc2) (Ev.some _)))))))
  ·obtain rfl|rfl:c=0∨c=1:=by omega
   ·decide
   decide
  obtain rfl|rfl:c=0∨c=1:=by omega
  ·decide
  decide
theorem l20Claimed_ev {s:List Int} (hs:Rd s) (m:Int) (hm0 : -1000≤m) (hm:m≤400) : ∃ (p i:Int) (t:List M) (n:Int),Ev (fun k=>spec_l20Claimed.f k s 0 m) (p,i,t,n)∧1≤p∧p≤4 ∧ -1≤i∧i≤1000∧t.length≤16∧Sm t∧0≤n∧n≤1000:=by
 obtain ⟨a,ha,ha0,ha1⟩:=pick_ev hs (p:=0) (by omega) (by omega) 4 (by omega)
 have ha2:=ha1 (by omega)
 obtain ⟨i,t,n',h,h2,h3,h4,h5,h6,h7⟩:=l20Claim_ev hs (n:=0+1) (by omega) (by omega) (1+a) m (by omega) hm0 hm
 refine ⟨1+a,i,t,n',?_,by omega,by omega,h2,h3,h4,h5,by omega,by omega⟩
 unfold spec_l20Claimed.f
 refine Ev.bind ha ?_
 simp only [w64 (x:=1+a) (by omega) (by omega)]
 exact Ev.bind h (Ev.some _)
/-- A claim by one of so many people. -/
def clok (p i:Int) (t:List M):Bool:=decide (0≤i∧i<p)&&(tok p t&&decide (t.length≤13))
theorem clok_iff {p i:Int} {t:List M}:clok p i t=true ↔ 0≤i∧i<p∧tok p t=true∧t.length≤13:=by
 unfold clok
 simp only [Bool.and_eq_true,decide_eq_true_eq]
 exact ⟨fun h=>⟨h.1.1,h.1.2,h.2.1,h.2.2⟩,fun h=>⟨⟨h.1,h.2.1⟩,h.2.2.1,h.2.2.2⟩⟩
theorem clok_false {p i:Int} {t:List M} (h : ¬ (0≤i∧i<p∧tok p t=true∧t.length≤13)):false=clok p i t:=by
 cases e:clok p i t with
 | false=>rfl
 | true=>exact absurd (clok_iff.1 e) h
theorem impl_ClaimOk_ev (p i:Int) (t:List M):Ev (fun k=>impl_ClaimOk.f k p i t) (clok p i t):=by
 unfold impl_ClaimOk.f
 simp only [peopleOk_eq,oS]
 by_cases h0:1≤p∧p≤4
 ·refine Ev.yes (decide_eq_true h0) ?_
  by_cases h1:i≥0
  ·refine Ev.yes h1 ?_
   by_cases h2:i<p
   ·refine Ev.yes h2 (Ev.bind (impl_TermOk_ev p t) ?_)
    by_cases h3:tok p t=true
    ·refine Ev.yes h3 (Ev.cast (Ev.some _) ?_)
     by_cases h4:t.length≤13
     ·rw [clok_iff.2 ⟨h1,h2,h3,h4⟩];exact decide_eq_true (by omega)
     rw [←clok_false (fun h=>h4 h.2.2.2)];exact decide_eq_false (by omega)
    exact Ev.no h3 (Ev.cast (Ev.some _) (clok_false (fun h=>h3 h.2.2.1)))
   exact Ev.no h2 (Ev.cast (Ev.some _) (clok_false (fun h=>h2 h.2.1)))
  exact Ev.no h1 (Ev.cast (Ev.some _) (clok_false (fun h=>h1 h.1)))
 refine Ev.no (by simpa using h0) (Ev.cast (Ev.some _) (clok_false (fun h=>h0 ?_)))
 have:=tok_iff.1 h.2.2.1
 omega
theorem spec_ClaimOk_ev (p i:Int) (t:List M) (hl:t.length≤4611686018427387904) (hw : ∀ m∈t,m.f1≤9223372036854775807):Ev (fun k=>spec_ClaimOk.f k p i t) (clok p i t):=by
 unfold spec_ClaimOk.f
 by_cases h1:i≥0
 ·refine Ev.yes h1 ?_
  by_cases h2:i<p
  ·refine Ev.yes h2 (Ev.bind (spec_TermOk_ev p t hl hw) ?_)
   by_cases h3:tok p t=true
   ·refine Ev.yes h3 (Ev.cast (Ev.some _) ?_)
    by_cases h4:t.length≤13
    ·rw [clok_iff.2 ⟨h1,h2,h3,h4⟩];exact decide_eq_true (by omega)
    rw [←clok_false (fun h=>h4 h.2.2.2)];exact decide_eq_false (by omega)
   exact Ev.no h3 (Ev.cast (Ev.some _) (clok_false (fun h=>h3 h.2.2.1)))
  exact Ev.no h2 (Ev.cast (Ev.some _) (clok_false (fun h=>h2 h.2.1)))
 exact Ev.no h1 (Ev.cast (Ev.some _) (clok_false (fun h=>h1 h.1)))
/-- A claim, and whether it is one. -/
def claimR (p i:Int) (t:List M):Int×List M×Bool:=if clok p i t=true then (i,t,true) else (0,[],false)
theorem clone_eq' (t:List M) (ht:t.length≤4611686018427):impl_Mark.f t=some t:=by
 unfold impl_Mark.f
 simp only [oS,List.length_nil,List.nil_append]
 rw [if_pos (by omega)]
theorem claimBy_ev (p i:Int) (t:List M) (ht:t.length≤4611686018427):Ev (fun k=>impl_claimBy.f k p i t) (claimR p i t):=by
 unfold impl_claimBy.f
 rw [clone_eq' t ht]
 simp only [oS]
 refine Ev.bind (impl_ClaimOk_ev p i t) ?_
 by_cases h:clok p i t=true
 ·exact Ev.yes h (Ev.cast (Ev.some _) (if_pos h).symm)
 exact Ev.no h (Ev.cast (Ev.some _) (if_neg h).symm)
/-- The term that a person tells the truth, or lies. -/
def kindT (j:Int) (tells:Bool):List M:=if tells then [⟨0,j⟩] else [⟨0,j⟩,⟨2,0⟩]
theorem impl_KindClaim_ev (p i j:Int) (tells:Bool):Ev (fun k=>impl_KindClaim.f k p i j tells) (claimR p i (kindT j tells)):=by
 unfold impl_KindClaim.f
 simp only [oS]
 cases tells with
 | true=>exact Ev.yes rfl (Ev.bind (claimBy_ev p i [⟨0,j⟩] (by simp)) (Ev.some _))
 | false=>exact Ev.no (by simp) (Ev.yes (by simp) (Ev.bind (claimBy_ev p i [⟨0,j⟩,⟨2,0⟩] (by simp)) (Ev.some _)))
theorem spec_KindClaim_ev (p i j:Int) (tells:Bool) (hj:j≤9223372036854775807):Ev (fun k=>spec_KindClaim.f k p i j tells) (claimR p i (kindT j tells)):=by
 unfold spec_KindClaim.f
 simp only [oS]
 cases tells with
 | true =>
  refine Ev.yes rfl (Ev.bind (spec_ClaimOk_ev p i [⟨0,j⟩] (by simp) (by simp [hj])) ?_)
  by_cases h:clok p i [⟨0,j⟩]=true
  ·exact Ev.yes h (Ev.cast (Ev.some _) (if_pos h).symm)
  exact Ev.no h (Ev.cast (Ev.some _) (if_neg h).symm)
 | false =>
  refine Ev.no (by simp) (Ev.yes (by simp) (Ev.bind (spec_ClaimOk_ev p i [⟨0,j⟩,⟨2,0⟩] (by simp) (by simp [hj])) ?_))
  by_cases h:clok p i [⟨0,j⟩,⟨2,0⟩]=true
  ·exact Ev.yes h (Ev.cast (Ev.some _) (if_pos h).symm)
  exact Ev.no h (Ev.cast (Ev.some _) (if_neg h).symm)
theorem kindT_small {i:Int} (b:Bool) (hi:i≤1000):(kindT i b).length≤1000 ∧ ∀ m∈kindT i b,m.f1≤9223372036854775807:=by
 cases b
 ·refine ⟨by simp [kindT],fun m hm=>?_⟩
  rcases List.mem_cons.1 hm with rfl|hm
  ·show i≤_;omega
  rw [List.mem_singleton.1 hm];show (0:Int)≤_;omega
 refine ⟨by simp [kindT],fun m hm=>?_⟩
 rw [List.mem_singleton.1 hm];show i≤_;omega
theorem l20Odd_ev {s:List Int} (hs:Rd s) : ∃ (p i:Int) (t:List M) (n:Int),Ev (fun k=>spec_l20Odd.f k s 0) (p,i,t,n)∧1≤p∧p≤4∧t.length≤1000∧(∀ m∈t,m.f1≤9223372036854775807):=by
 obtain ⟨p,i,t,n,h,h1,h2,h3,h4,h5,h6,h7,h8⟩:=l20Claimed_ev hs 12 (by omega) (by omega)
 obtain ⟨a,ha,ha0,ha1⟩:=pick_ev hs (p:=n) (by omega) (by omega) 4 (by omega)
 by_cases e0:a=0
 ·obtain ⟨b,hb,_,_⟩:=pick_ev hs (p:=n+1) (by omega) (by omega) 2 (by omega)
  have hk:=spec_KindClaim_ev p i i (b==0) (by omega)
  by_cases hc:clok p i (kindT i (b==0))=true
  ·rw [claimR,if_pos hc] at hk
   exact ⟨p,i,kindT i (b==0),n+1+1,by unfold spec_l20Odd.f;exact Ev.bind h (Ev.bind ha (Ev.yes e0 (Ev.bind hb (Ev.bind hk (Ev.yes rfl (Ev.some _)))))),h1,h2,kindT_small _ h4⟩
  rw [claimR,if_neg hc] at hk
  exact ⟨p,i,t,n+1+1,by unfold spec_l20Odd.f;exact Ev.bind h (Ev.bind ha (Ev.yes e0 (Ev.bind hb (Ev.bind hk (Ev.no (by simp) (Ev.some _)))))),h1,h2,by omega,h6.wf⟩
 by_cases e1:a=1
 ·have hw : ∀ m∈t++[(⟨0,i⟩:M),⟨5,0⟩],m.f1≤9223372036854775807:=by
   intro m hm
   rcases List.mem_append.1 hm with hm|hm
   ·exact h6.wf m hm
   rcases List.mem_cons.1 hm with rfl|hm
   ·show i≤_;omega
   rw [List.mem_singleton.1 hm];show (0:Int)≤_;omega
  have hy:=spec_ClaimOk_ev p i (t++[(⟨0,i⟩:M),⟨5,0⟩]) (by simp;omega) hw
  have go : ∀ r,Ev (fun k=>(spec_ClaimOk.f k p i (t++[(⟨0,i⟩:M),⟨5,0⟩])).bind fun t132=>if t132=true then some (p,i,t++[(⟨0,i⟩:M),⟨5,0⟩],n+1) else some (p,i,t,n+1)) r →
    Ev (fun k=>spec_l20Odd.f k s 0) r:=by
   intro r hr
   unfold spec_l20Odd.f
   refine Ev.bind h (Ev.bind ha ?_)
   dsimp only
   refine Ev.no e0 (Ev.yes e1 ?_)
   simp only [oS,List.nil_append,List.length_nil]
   exact Ev.yes (by omega) (Ev.yes (by simp;omega) hr)
  by_cases hc:clok p i (t++[(⟨0,i⟩:M),⟨5,0⟩])=true
  ·exact ⟨p,i,_,_,go _ (Ev.bind hy (Ev.yes hc (Ev.some _))),h1,h2,by simp;omega,hw⟩
  exact ⟨p,i,_,_,go _ (Ev.bind hy (Ev.no hc (Ev.some _))),h1,h2,by omega,h6.wf⟩
 exact ⟨p,i,t,n+1,by unfold spec_l20Odd.f;exact Ev.bind h (Ev.bind ha (Ev.no e0 (Ev.no e1 (Ev.some _)))),h1,h2,by omega,h6.wf⟩
theorem DrawAlwaysSaid_ev {l:List Int} (hw : ∀ x∈l,(Lit.int .u8 x).wf=true) : ∃ (p i:Int) (t:List M),Ev (fun k=>spec_DrawAlwaysSaid.f k l) (p,i,t)∧1≤p∧p≤4∧t.length≤1000∧(∀ m∈t,m.f1≤9223372036854775807):=by
 obtain ⟨s,hs,ho⟩:=open_eq hw
 obtain ⟨p,i,t,n,h,h1,h2,h3,h4⟩:=l20Odd_ev hs
 refine ⟨p,i,t,?_,h1,h2,h3,h4⟩
 unfold spec_DrawAlwaysSaid.f
 rw [ho]
 simp only [oS]
 exact Ev.bind h (Ev.some _)
theorem Tm.good_four {p:Int} (hp:p≤4) : ∀ a:Tm,a.good p→a.good 4
 | .tell i,h=>by have h':(i:Int)<p:=h;show (i:Int)<4;omega
 | .cnt n,h=>by have h':(n:Int)≤p+1:=h;show (n:Int)≤4+1;omega
 | .neg a,h=>good_four hp a h
 | .bin o a b,h=>⟨h.1,good_four hp a h.2.1,good_four hp b h.2.2⟩
open Classical in
/-- The tree of a row of marks. -/
noncomputable def tree (t:List M):Tm:=if h : ∃ a:Tm,a.good 4∧t=a.post then Classical.choose h else .tell 0
theorem tree_post {a:Tm} (h:a.good 4):(tree a.post).good 4∧a.post=(tree a.post).post:=by
 have h' : ∃ b:Tm,b.good 4∧a.post=b.post:=⟨a,h,rfl⟩
 unfold tree
 rw [dif_pos h']
 exact Classical.choose_spec h'
/-- Whether a row of marks holds in a world. -/
noncomputable def hv (t:List M) (w:Nat):Bool:=(tree t).ev w
theorem hv_post {a:Tm} (h:a.good 4) (hl:a.post.length≤500) {w:Nat} (hw:w<16):hv a.post w=a.ev w:=by
 obtain ⟨h1,h2⟩:=tree_post h
 have e1:=impl_holds_ev (by decide) hw h hl
 have e2:=impl_holds_ev (by decide) hw h1 (by rw [←h2];exact hl)
 rw [←h2] at e2
 exact Ev.uniq e2 e1
theorem tok_tree {p:Int} {t:List M} (h:tok p t=true) : ∃ a:Tm,a.good p∧t=a.post∧a.good 4∧t.length≤15:=by
 obtain ⟨a,h1,h2⟩:=parse h
 obtain ⟨_,h3,_,h4,_⟩:=tok_iff.1 h
 exact ⟨a,h1,h2,a.good_four h3 h1,h4⟩
theorem impl_holds_hv {p:Int} {t:List M} (h:tok p t=true) {w:Nat} (hw:w<16):Ev (fun k=>impl_holds.f k t (w:Int)) (hv t w):=by
 obtain ⟨a,_,rfl,h4,hl⟩:=tok_tree h
 rw [hv_post h4 (by omega) hw]
 exact impl_holds_ev (by decide) hw h4 (by omega)
theorem spec_holds_hv {p:Int} {t:List M} (h:tok p t=true) {w:Nat} (hw:w<16):Ev (fun k=>spec_l3Holds.f k t (w:Int)) (hv t w):=by
 obtain ⟨a,_,rfl,h4,hl⟩:=tok_tree h
 rw [hv_post h4 (by omega) hw]
 exact l3Holds_ev (by decide) hw a h4 (by omega)
/-- Whether a claim may be made in a world. -/
noncomputable def may (i:Int) (t:List M) (w:Nat):Bool:=hv t w==w.testBit i.toNat
/-- The worlds below n in which P holds, as bits. -/
def tabL (P:Nat→Bool):Nat→Nat
 | 0=>0
 | n+1=>tabL P n ||| (if P n=true then 2^n else 0)
theorem tabL_bit (P:Nat→Bool) : ∀ n w,(tabL P n).testBit w=(decide (w<n)&&P w)
 | 0,w=>by simp [tabL]
 | n+1,w=>by
  rw [tabL,Nat.testBit_or,tabL_bit P n w]
  by_cases e:w=n
  ·subst e
   by_cases h:P w=true
   ·rw [if_pos h,Nat.testBit_two_pow_self,h];simp
   rw [if_neg h,Nat.zero_testBit];simp at h;simp [h]
  have h1:(if P n=true then 2^n else 0).testBit w=false:=by
   by_cases h:P n=true
   ·rw [if_pos h,Nat.testBit_two_pow];simp;omega
   rw [if_neg h,Nat.zero_testBit]
  rw [h1,Bool.or_false]
  congr 1
  exact decide_eq_decide.mpr (by omega)
theorem lt_of_bits {x n:Nat} (h : ∀ w,n≤w→x.testBit w=false):x<2^n:=Nat.lt_pow_two_of_testBit x (fun w hw=>h w hw)
theorem tabL_lt (P:Nat→Bool) (n:Nat):tabL P n<2^n:=lt_of_bits (fun w hw=>by rw [tabL_bit];simp;omega)
theorem tabL_congr {P Q:Nat→Bool} {n:Nat} (h : ∀ w,w<n→P w=Q w):tabL P n=tabL Q n:=by
 apply Nat.eq_of_testBit_eq
 intro w
 rw [tabL_bit,tabL_bit]
 by_cases hw:w<n
 ·rw [h w hw]
 simp [hw]
theorem tabL_inj {P Q:Nat→Bool} {n:Nat} (h:tabL P n=tabL Q n) : ∀ w,w<n→P w=Q w:=by
 intro w hw
 have:=tabL_bit P n w
 rw [h,tabL_bit] at this
 simpa [hw] using this.symm
theorem wrap_i64_small (n:Int) (h0:0≤n) (h1:n<2^32):IntKind.i64.wrap n=n:=by rw [IntKind.wrap_i64];omega
theorem or_nat {a b:Nat} (ha:a<2^32) (hb:b<2^32):Go.bits .or .i64 (a:Int) (b:Int)=((a ||| b:Nat):Int):=(bits_nat .i64 32 (by decide) wrap_i64_small a b ha hb).2
theorem shl_fin : ∀ i:Fin 31,shl .i64 1 ((i.val:Nat):Int)=((2^i.val:Nat):Int):=by decide +kernel
theorem shl_nat {i:Nat} (hi:i<31):shl .i64 1 (i:Int)=((2^i:Nat):Int):=shl_fin ⟨i,hi⟩
theorem or_step {P:Nat→Bool} {i:Nat} (hi:i<16) (h:P i=true):Go.bits .or .i64 ((tabL P i:Nat):Int) (shl .i64 1 (i:Int))=((tabL P (i+1):Nat):Int):=by
 have h1:=tabL_lt P i
 have h2:(2:Nat)^i<2^16:=Nat.pow_lt_pow_right (by decide) hi
 rw [shl_nat (by omega),or_nat (by omega) (by omega),tabL,if_pos h]
theorem not_step {P:Nat→Bool} {i:Nat} (h : ¬ P i=true):tabL P (i+1)=tabL P i:=by rw [tabL,if_neg h,Nat.or_zero]
theorem people_nat {p:Int} (h0:1≤p) (h1:p≤4) : ∃ q:Nat,p=(q:Int)∧1≤q∧q≤4∧2^q≤16∧p.toNat=q:=by
 obtain ⟨q,rfl⟩:=Int.eq_ofNat_of_zero_le (show 0≤p by omega)
 refine ⟨q,rfl,by omega,by omega,?_,by simp⟩
 have:(2:Nat)^q≤2^4:=Nat.pow_le_pow_right (by decide) (by omega)
 omega
theorem tableBy_l0 {F:Nat→Int→Option Bool} {P:Nat→Bool} {n:Nat} (hn:n≤16) (hF : ∀ w:Nat,w<n→Ev (fun k=>F k (w:Int)) (P w)) : ∀ d i,d+i=n →
  Ev (fun k=>impl_tableBy.l0 F k ((tabL P i:Nat):Int) (n:Int) (i:Int)) ((tabL P n:Nat):Int):=by
 intro d
 induction d with
 | zero =>
  intro i hi
  rw [Nat.zero_add] at hi
  subst hi
  exact Ev.step (fun k=>by simp only [impl_tableBy.l0];rfl) (Ev.no (by omega) (Ev.some _))
 | succ d ih =>
  intro i hi
  refine Ev.step (fun k=>by simp only [impl_tableBy.l0];rfl) ?_
  refine Ev.yes (by omega) (Ev.bind (hF i (by omega)) ?_)
  rw [w64 (by omega) (by omega),show ((i:Int)+1)=((i+1:Nat):Int) by omega]
  by_cases h:P i=true
  ·refine Ev.yes h (Ev.yes (by omega) ?_)
   rw [or_step (by omega) h]
   exact ih (i+1) (by omega)
  refine Ev.no h ?_
  have:=ih (i+1) (by omega)
  rwa [not_step h] at this
theorem tableBy_ev {F:Nat→Int→Option Bool} {P:Nat→Bool} {q:Nat} (hq:q≤4) (hF : ∀ w:Nat,w<2^q→Ev (fun k=>F k (w:Int)) (P w)):Ev (fun k=>impl_tableBy.f F k (q:Int)) ((tabL P (2^q):Nat):Int):=by
 unfold impl_tableBy.f
 refine Ev.yes (by omega) ?_
 rw [shl_nat (by omega)]
 have h16:(2:Nat)^q≤2^4:=Nat.pow_le_pow_right (by decide) hq
 exact tableBy_l0 (by omega) hF (2^q) 0 (by omega)
theorem impl_maySay_ev {p i:Int} {t:List M} (h:clok p i t=true) {w:Nat} (hw:w<16):Ev (fun k=>impl_maySay.f k i t (w:Int)) (may i t w):=by
 obtain ⟨h0,h1,h2,_⟩:=clok_iff.1 h
 have h4:=(tok_iff.1 h2).2.1
 obtain ⟨j,rfl⟩:=Int.eq_ofNat_of_zero_le h0
 unfold impl_maySay.f
 refine Ev.bind (impl_holds_hv h2 hw) (Ev.yes h0 (Ev.cast (Ev.some _) ?_))
 rw [bit_and' hw (show j<4 by omega)]
 rfl
/-- The table of a claim. -/
noncomputable def ctab (p i:Int) (t:List M):Nat:=tabL (may i t) (2^p.toNat)
theorem impl_ClaimTable_ev (p i:Int) (t:List M):Ev (fun k=>impl_ClaimTable.f k p i t) (if clok p i t=true then ((ctab p i t:Nat):Int) else -1):=by
 unfold impl_ClaimTable.f
 refine Ev.bind (impl_ClaimOk_ev p i t) ?_
 by_cases h:clok p i t=true
 ·rw [if_pos h]
  refine Ev.yes h ?_
  obtain ⟨hp0,hp1,_⟩:=tok_iff.1 (clok_iff.1 h).2.2.1
  obtain ⟨q,rfl,_,hq,hq2,_⟩:=people_nat hp0 hp1
  exact tableBy_ev hq (fun w hw=>impl_maySay_ev h (by omega))
 rw [if_neg h]
 exact Ev.no h (Ev.some _)
theorem spec_may_ev {p i:Int} {t:List M} (h2:tok p t=true) (h0:0≤i) (h1:i<p) {w:Nat} (hw:w<16):Ev (fun k=>spec_l4May.f k i t (w:Int)) (may i t w):=by
 have h4:=(tok_iff.1 h2).2.1
 obtain ⟨j,rfl⟩:=Int.eq_ofNat_of_zero_le h0
 unfold spec_l4May.f
 refine Ev.yes h0 (Ev.bind (spec_holds_hv h2 hw) (Ev.cast (Ev.some _) ?_))
 rw [bit_mod' hw (show j<4 by omega)]
 unfold may
 exact Bool.beq_comm
theorem spec_l4May_ev {p i:Int} {t:List M} (h:clok p i t=true) {w:Nat} (hw:w<16):Ev (fun k=>spec_l4May.f k i t (w:Int)) (may i t w):=by
 obtain ⟨h0,h1,h2,_⟩:=clok_iff.1 h
 exact spec_may_ev h2 h0 h1 hw
theorem l4Table_l0 {q:Nat} {i:Int} {t:List M} (hq:q≤4) (hq2:2^q≤16) (h:clok (q:Int) i t=true) : ∀ d j,d+j=2^q →
  Ev (fun k=>spec_l4Table.l0 k (q:Int) ((tabL (may i t) j:Nat):Int) (j:Int) i t) ((tabL (may i t) (2^q):Nat):Int):=by
 intro d
 induction d with
 | zero =>
  intro j hj
  rw [Nat.zero_add] at hj
  refine Ev.step (fun k=>by simp only [spec_l4Table.l0];rfl) ?_
  rw [shl_nat (by omega)]
  refine Ev.yes (by omega) (Ev.no (by omega) (Ev.cast (Ev.some _) ?_))
  rw [hj]
 | succ d ih =>
  intro j hj
  refine Ev.step (fun k=>by simp only [spec_l4Table.l0];rfl) ?_
  rw [shl_nat (by omega)]
  refine Ev.yes (by omega) (Ev.yes (by omega) (Ev.bind (spec_l4May_ev h (by omega)) ?_))
  rw [w64 (by omega) (by omega),show ((j:Int)+1)=((j+1:Nat):Int) by omega]
  by_cases hb:may i t j=true
  ·refine Ev.yes hb (Ev.yes (by omega) ?_)
   rw [or_step (by omega) hb]
   exact ih (j+1) (by omega)
  refine Ev.no hb ?_
  have:=ih (j+1) (by omega)
  rwa [not_step hb] at this
theorem spec_l4Table_ev {p i:Int} {t:List M} (h:clok p i t=true):Ev (fun k=>spec_l4Table.f k p i t) ((ctab p i t:Nat):Int):=by
 unfold spec_l4Table.f
 obtain ⟨hp0,hp1,_⟩:=tok_iff.1 (clok_iff.1 h).2.2.1
 obtain ⟨q,rfl,_,hq,hq2,_⟩:=people_nat hp0 hp1
 exact l4Table_l0 hq hq2 h (2^q) 0 (by omega)
noncomputable def always (p i:Int) (t:List M):Bool:=if clok p i t=true then ((ctab p i t:Nat):Int)==wrap64 (shl .i64 1 (shl .u64 1 p)-1) else false
theorem impl_Always_ev (p i:Int) (t:List M):Ev (fun k=>impl_AlwaysSaid.f k p i t) (always p i t):=by
 unfold impl_AlwaysSaid.f
 refine Ev.bind (impl_ClaimOk_ev p i t) ?_
 by_cases h:clok p i t=true
 ·have h0:=(tok_iff.1 (clok_iff.1 h).2.2.1).1
  refine Ev.yes h (Ev.bind (impl_ClaimTable_ev p i t) (Ev.yes (by omega) (Ev.cast (Ev.some _) ?_)))
  rw [always,if_pos h,if_pos h]
 exact Ev.no h (Ev.cast (Ev.some _) (if_neg h).symm)
theorem spec_Always_ev (p i:Int) (t:List M) (hl:t.length≤4611686018427387904) (hw : ∀ m∈t,m.f1≤9223372036854775807):Ev (fun k=>spec_AlwaysSaid.f k p i t) (always p i t):=by
 unfold spec_AlwaysSaid.f
 refine Ev.bind (spec_ClaimOk_ev p i t hl hw) ?_
 by_cases h:clok p i t=true
 ·have h0:=(tok_iff.1 (clok_iff.1 h).2.2.1).1
  refine Ev.yes h (Ev.bind (spec_l4Table_ev h) (Ev.yes (by omega) (Ev.cast (Ev.some _) ?_)))
  rw [always,if_pos h]
 exact Ev.no h (Ev.cast (Ev.some _) (if_neg h).symm)
theorem kind_tok {p i:Int} (b:Bool) (h0:0≤i) (h1:i<p) (hp0:1≤p) (hp1:p≤4):tok p (kindT i b)=true:=by
 refine tok_iff.2 ⟨hp0,hp1,?_,?_,?_⟩
 all_goals cases b<;>simp [kindT,scan,h0,h1]
theorem kind_self {p i:Int} {t:List M} (b:Bool) (h:clok p i t=true):clok p i (kindT i b)=true:=by
 obtain ⟨h2,h3,hk,_⟩:=clok_iff.1 h
 have hp:=tok_iff.1 hk
 refine clok_iff.2 ⟨h2,h3,kind_tok b h2 h3 hp.1 hp.2.1,?_⟩
 cases b<;>simp [kindT]
theorem kind_hv {j:Nat} (hj:j<4) (b:Bool) {w:Nat} (hw:w<16):hv (kindT (j:Int) b) w=(w.testBit j==b):=by
 cases b with
 | true=>exact (hv_post (a:=.tell j) (by simp only [Tm.good];omega) (by simp [Tm.post]) hw).trans (by simp [Tm.ev])
 | false=>exact (hv_post (a:=.neg (.tell j)) (by simp only [Tm.good];omega) (by simp [Tm.post]) hw).trans (by simp [Tm.ev])
/-- The table of a term. -/
noncomputable def ttab (p:Int) (t:List M):Nat:=tabL (hv t) (2^p.toNat)
theorem impl_TableOf_ev (p:Int) (t:List M):Ev (fun k=>impl_TableOf.f k p t) (if tok p t=true then ((ttab p t:Nat):Int) else -1):=by
 unfold impl_TableOf.f
 refine Ev.bind (impl_TermOk_ev p t) ?_
 by_cases h:tok p t=true
 ·rw [if_pos h]
  refine Ev.yes h ?_
  obtain ⟨hp0,hp1,_⟩:=tok_iff.1 h
  obtain ⟨q,rfl,_,hq,hq2,_⟩:=people_nat hp0 hp1
  exact tableBy_ev hq (fun w hw=>impl_holds_hv h (by omega))
 rw [if_neg h]
 exact Ev.no h (Ev.some _)
noncomputable def sameT (p:Int) (a b:List M):Bool:=if tok p a=true∧tok p b=true then decide (ttab p a=ttab p b) else false
theorem impl_SameOk_ev (p:Int) (a b:List M):Ev (fun k=>impl_SameOk.f k p a b) (sameT p a b):=by
 unfold impl_SameOk.f
 refine Ev.bind (impl_TermOk_ev p a) ?_
 by_cases ha:tok p a=true
 ·refine Ev.yes ha (Ev.bind (impl_TermOk_ev p b) ?_)
  by_cases hb:tok p b=true
  ·refine Ev.yes hb (Ev.bind (impl_TableOf_ev p a) (Ev.bind (impl_TableOf_ev p b) (Ev.cast (Ev.some _) ?_)))
   rw [if_pos ha,if_pos hb,sameT,if_pos ⟨ha,hb⟩]
   by_cases e:ttab p a=ttab p b
   ·rw [e];simp
   rw [decide_eq_false e]
   exact beq_eq_false_iff_ne.2 (by omega)
  exact Ev.no hb (Ev.cast (Ev.some _) (if_neg (fun h=>hb h.2)).symm)
 exact Ev.no ha (Ev.cast (Ev.some _) (if_neg (fun h=>ha h.1)).symm)
theorem tabL_full {P:Nat→Bool} {n:Nat}:tabL P n=2^n-1 ↔ ∀ w,w<n→P w=true:=by
 constructor
 ·intro h w hw
  have:=tabL_bit P n w
  rw [h,Nat.testBit_two_pow_sub_one] at this
  simp [hw] at this
  exact this
 intro h
 apply Nat.eq_of_testBit_eq
 intro w
 rw [tabL_bit,Nat.testBit_two_pow_sub_one]
 by_cases hw:w<n
 ·simp [h w hw]
 simp [hw]
end Go.Proofs.Ytpampekijfjlkab.L
namespace Go.Proofs.Ytpampekijfjlkab.X
open Go.RowKit Go.Proofs.YtpampekijfjlkabW.PrintWords Go.Proofs.YtpampekijfjlkabW.PrintLast Go.Proofs.YtpampekijfjlkabW.PrintMore
open Go.Proofs.YtpampekijfjlkabW.PrintWords renaming Aside0.mk → mA, pw_below_drewN → bN, below_drew1 → bD, below_alloc → bA, below_set → bS, blk_alloc → kA, blk_drewN → kN, blk_drew → kD, blk_cell → kC, blk_frozen → kF, below_size → bZ, below_step → bT, Kd.R_alloc → rA, Kd.R_drewN → rN, Kd.R_drew → rD, Kd.R_mono → rM, Kd.R_reads' → rR, Kd.R_far → rF, Kd.R_lt → rL, Kd.R_below → rB, Kd.R_elder' → rE, Kd.R_lower → rW, Kd.R_new' → rQ, Kd.R_types → rY, blk_put → kP, blk_far → kZ, blk_below → kB, blk_lt → kL, Kd.C_alloc → cA, Kd.C_drewN → cN, Kd.C_drew → cD
open Option renaming bind_some → oS, bind_eq_some_iff → oB
open List renaming length_take → lT, length_drop → lD, map_toArray → mT, map_cons → mC, map_nil → mN
attribute [local go_sem] max2_int min2_int max_two min_two max_three min_three max_four min_four   -- for this text's walks alone
set_option linter.unusedVariables false
set_option linter.unusedSimpArgs false
/-! ### impl_StoryOk: function 61 -/
def impl_StoryOk.l0:Nat→Int→List (S36)→List (S36)→Int→Int→Option (Bool)
 | 0,_,_,_,_,_=>none
 | k+1,x0,x1,x7,x8,x9=>if x9<x8 then (if 0≤x9 then (if x9<(x7.length:Int) then ((impl_ClaimOk.f k x0 ((rd_T36 x7 x9).f0) ((rd_T36 x7 x9).f1)).bind fun t103=>(if t103=true then (impl_StoryOk.l0 k x0 x1 x7 x8 (wrap64 (x9+1))) else (some false))) else (none)) else (none)) else ((impl_peopleOk.f x0).bind fun t104=>(if t104=true then (some (decide ((x1.length:Int)≤6))) else (some false)))
def impl_StoryOk.f (k:Nat) (a0:Int) (l1:List (S36)):Option (Bool):=impl_StoryOk.l0 k a0 l1 l1 (l1.length:Int) 0
theorem impl_StoryOk.mono_l : ∀ k,(∀ y0 y1 y2 y3 y4,LeO (impl_StoryOk.l0 k y0 y1 y2 y3 y4) (impl_StoryOk.l0 (k+1) y0 y1 y2 y3 y4))
 | 0=>fun _ _ _ _ _ r h=>by simp [impl_StoryOk.l0] at h
 | k+1=>by
  have ih0:=impl_StoryOk.mono_l k
  intro y0 y1 y2 y3 y4
  unfold impl_StoryOk.l0
  repeat' first
  | (with_reducible exact ih0 _ _ _ _ _)
  | (with_reducible exact impl_ClaimOk.mono _ _ _ _)
  | (with_reducible exact LeO.refl _)
  | (with_reducible exact LeO.none _)
  | (with_reducible refine LeO.ite ?_ ?_)
  | (with_reducible refine LeO.bind ?_ (fun _=>?_))
  | exact ih0 _ _ _ _ _
  | exact impl_ClaimOk.mono _ _ _ _
  | exact LeO.none _
  | refine LeO.ite ?_ ?_
  | refine LeO.bind ?_ (fun _=>?_)
theorem impl_StoryOk.mono : ∀ a0 a1 k,LeO (impl_StoryOk.f k a0 a1) (impl_StoryOk.f (k+1) a0 a1):=by
 intro a0 a1 k
 have ih0:=impl_StoryOk.mono_l k
 unfold impl_StoryOk.f
 repeat' first
   | (with_reducible exact ih0 _ _ _ _ _)
   | (with_reducible exact impl_ClaimOk.mono _ _ _ _)
   | (with_reducible exact LeO.refl _)
   | (with_reducible exact LeO.none _)
   | (with_reducible refine LeO.ite ?_ ?_)
   | (with_reducible refine LeO.bind ?_ (fun _=>?_))
   | exact ih0 _ _ _ _ _
   | exact impl_ClaimOk.mono _ _ _ _
   | exact LeO.none _
   | refine LeO.ite ?_ ?_
   | refine LeO.bind ?_ (fun _=>?_)
set_option maxHeartbeats 8000000 in
set_option maxRecDepth 100000 in
theorem impl_StoryOk.calls (k:Nat) (a0:Int) (A1:Option Addr) (c1:Nat) (l1:List (S36)) (r:Bool) (w:World) (hr1:Kd.C k36 w A1 l1.length l1) (hc1:l1.length≤c1) (h:impl_StoryOk.f k a0 l1=some r) :
  Calls Try.prog 61 #[.int .i64 a0,.slice A1 l1.length c1] w fun e w'=>e = .returned (.bool r)∧Below w.heap.size w w':=by
 have hu36:=Try.underlying36
 have HR1:=mA hr1
 have HC1:=mA hc1
 clear hr1 hc1
 have HB:=mA (Below.refl w.heap.size w)
 have H:(impl_StoryOk.l0 k a0 l1 l1 (l1.length:Int) 0)=some r:=h
 clear h
 have H':=mA H
 clear H
 go_enter Try.func61,Try.ntmps61
 go_wp2
 go_loopg [9] k (fun kq v9 w'=>∃ (x9_1:Int),v9 = .int .i64 x9_1∧Aside0 (impl_StoryOk.l0 kq a0 l1 l1 (l1.length:Int) x9_1=some r)∧Aside0 (kq≤k)∧Aside0 (Below w.heap.size w w'))
 case atStart=>exact ⟨(0),(by first|rfl|(simp;done)|(simp [*];done)),H',⟨Nat.le_refl _⟩,⟨by repeat (first|(with_reducible first|exact HB.out|apply bA|apply bN|apply bD)|exact HB.out)⟩⟩
 case round =>
  clear H'
  try clear c1
  try clear p2
  obtain ⟨x9_1,rfl,HA,HK1,HB⟩:=hrel
  cases gk with
  | zero=>exact absurd HA.out (by simp [impl_StoryOk.l0])
  | succ k1 =>
   have H:=HA.out
   clear HA
   simp only [impl_StoryOk.l0] at H
   by_cases c3:x9_1<(l1.length:Int)
   ·rw [if_pos c3] at H
    have c3b0:decide (x9_1<(l1.length:Int))=true:=decide_eq_true c3
    clear c3
    by_cases c4:0≤x9_1
    ·rw [if_pos c4] at H
     have c4b0:decide (0≤x9_1)=true:=decide_eq_true c4
     clear c4
     by_cases c5:x9_1<(l1.length:Int)
     ·rw [if_pos c5] at H
      have c5b0:decide (x9_1<(l1.length:Int))=true:=decide_eq_true c5
      clear c5
      replace H:=oB.mp H
      obtain ⟨t103,A60,H⟩:=H
      replace H:(if t103=true then (impl_StoryOk.l0 k1 a0 l1 l1 (l1.length:Int) (wrap64 (x9_1+1))) else (some false))=some r:=H
      have A6:=mA A60
      clear A60
      by_cases c7:t103=true
      ·subst c7
       have H1:(impl_StoryOk.l0 k1 a0 l1 l1 (l1.length:Int) (wrap64 (x9_1+1)))=some r:=by rw [if_pos rfl] at H;exact H
       clear H
       have H:=H1
       clear H1
       have H':=mA H
       clear H
       have p101:0≤(x9_1:Int):=of_decide_eq_true (by first|with_reducible assumption|assumption)
       have q101:x9_1<(l1.length:Int):=of_decide_eq_true (by first|with_reducible assumption|assumption)
       obtain ⟨ad101,A101_1,c101_1,e101,hx101_0,hx101_1,hl101_1,hi101_1⟩:=at_T36 HR1.out x9_1 p101 q101
       cases e101
       replace hx101_0:=(HB.out.cell (World.block_lt_of_cell? w _ hx101_0)).trans hx101_0
       replace hx101_1:=(HB.out.cell (World.block_lt_of_cell? w _ hx101_1)).trans hx101_1
       have HR101_1:=mA hi101_1
       have HC101_1:=mA hl101_1
       clear hi101_1 hl101_1
       replace p101:=eq_true p101
       replace q101:=eq_true q101
       go_wp2_with (first|((with_reducible refine gate_dst (N:=6) rfl ?_);(try (refine gate_guard (by rfl) ?_;dsimp only));refine box_event ?hg (N:=6) ?hd (cs:=#[.int .i64 0,.slice none 0 0]) (t:=36) ?hr ?_;(case hd=>rfl);(case hg=>rfl);(case hr=>first|(go_simp;done)|(go_simp;rfl));intro gb102 hg w8 hbox hb;have n0_:=mA (bT (by repeat first|(with_reducible first|exact HB.out|apply bA|apply bN|apply bD)|exact HB.out) hb);have n1_:=mA (hbox);have n2_:=mA ((by rw [hg];exact (bZ (by repeat first|(with_reducible first|exact HB.out|apply bA|apply bN|apply bD)|exact HB.out)):w.heap.size≤gb102));have n3_:=mA ((by rw [hg];exact (bZ (by repeat first|(with_reducible first|exact HB.out|apply bA|apply bN|apply bD)|exact HB.out)):w.heap.size≤gb102));clear HB;have HB:=n0_;have BK102:=n1_;have GW102:=n2_;have GE102:=n3_;clear n0_ n1_ n2_ n3_ hb hbox hg;have hcz9_0:w8.cell? ⟨gb102,0,none⟩=some (.int .i64 0):=(kC BK102.out 0).trans rfl;have hcz9_1:w8.cell? ⟨gb102,1,none⟩=some (.slice none 0 0):=(kC BK102.out 1).trans rfl;have hfz9_0:=kF BK102.out 0;have hfz9_1:=kF BK102.out 1)|((with_reducible refine gate_callee (f:=45) rfl ?_);refine goesL_ (some 15) rfl rfl Try.func45 (by kernel_rfl) rfl #[.int .i64 a0,.agg #[.int .i64 ((rd_T36 l1 x9_1).f0),.slice A101_1 ((rd_T36 l1 x9_1).f1).length c101_1]] rfl (by (try simp only [mT,mC,mN]);first|done|rfl|(simp only [lD,lT];rfl)) ?_;(with_reducible refine (impl_ClaimOk.calls k1 a0 ((rd_T36 l1 x9_1).f0) _ _ ((rd_T36 l1 x9_1).f1) true _ ?side1 ?side2 A6.out).mono ?_);(case side1=>exact Kd.C_below HR101_1.out (by repeat first|(with_reducible first|exact HB.out|apply bA|apply bN|apply bD|refine bS ?_ GE102.out)|exact HB.out));(case side2=>exact HC101_1.out);rintro e w10 ⟨rfl,hb⟩;refine ⟨_,rfl,?_⟩;have n0_:=mA (kB (g:=gb102) (o:=.cells #[.int .i64 ((rd_T36 l1 x9_1).f0),.slice A101_1 ((rd_T36 l1 x9_1).f1).length c101_1] 36 (0,0)) (by (with_reducible repeat first|refine kN ?_ _|refine kD ?_|refine kA ?_ _);refine kP (cs:=#[.int .i64 ((rd_T36 l1 x9_1).f0),.slice none 0 0]) ?_ 1 _ rfl;(with_reducible repeat first|refine kN ?_ _|refine kD ?_|refine kA ?_ _);refine kP (cs:=#[.int .i64 0,.slice none 0 0]) ?_ 0 _ rfl;(with_reducible repeat first|refine kN ?_ _|refine kD ?_|refine kA ?_ _);exact BK102.out) hb);have n1_:=mA (bT (by repeat first|(with_reducible first|exact HB.out|apply bA|apply bN|apply bD|refine bS ?_ GE102.out)|exact HB.out) hb);clear BK102 HB;have BK102:=n0_;have HB:=n1_;clear n0_ n1_;(try clear hb);(try clear hb2);(try clear hk);(try clear hi)))
       go_roundg k1
       case measure=>have:=HK1.out;omega
       case rel=>exact ⟨(wrap64 (x9_1+1)),(by first|rfl|(simp;done)|(simp [*];done)),H',⟨by have:=HK1.out;omega⟩,⟨by repeat (first|(with_reducible first|exact HB.out|apply bA|apply bN|apply bD|refine bS ?_ GE102.out)|exact HB.out)⟩⟩
      replace c7:=Bool.eq_false_iff.mpr c7
      subst c7
      have H1:(some false)=some r:=by rw [if_neg (show ¬ (false=true) by decide)] at H;exact H
      clear H
      have H:=H1
      clear H1
      obtain rfl:=Option.some.inj H
      have p101:0≤(x9_1:Int):=of_decide_eq_true (by first|with_reducible assumption|assumption)
      have q101:x9_1<(l1.length:Int):=of_decide_eq_true (by first|with_reducible assumption|assumption)
      obtain ⟨ad101,A101_1,c101_1,e101,hx101_0,hx101_1,hl101_1,hi101_1⟩:=at_T36 HR1.out x9_1 p101 q101
      cases e101
      replace hx101_0:=(HB.out.cell (World.block_lt_of_cell? w _ hx101_0)).trans hx101_0
      replace hx101_1:=(HB.out.cell (World.block_lt_of_cell? w _ hx101_1)).trans hx101_1
      have HR101_1:=mA hi101_1
      have HC101_1:=mA hl101_1
      clear hi101_1 hl101_1
      replace p101:=eq_true p101
      replace q101:=eq_true q101
      go_wp2_with (first|((with_reducible refine gate_dst (N:=6) rfl ?_);(try (refine gate_guard (by rfl) ?_;dsimp only));refine box_event ?hg (N:=6) ?hd (cs:=#[.int .i64 0,.slice none 0 0]) (t:=36) ?hr ?_;(case hd=>rfl);(case hg=>rfl);(case hr=>first|(go_simp;done)|(go_simp;rfl));intro gb102 hg w11 hbox hb;have n0_:=mA (bT (by repeat first|(with_reducible first|exact HB.out|apply bA|apply bN|apply bD)|exact HB.out) hb);have n1_:=mA (hbox);have n2_:=mA ((by rw [hg];exact (bZ (by repeat first|(with_reducible first|exact HB.out|apply bA|apply bN|apply bD)|exact HB.out)):w.heap.size≤gb102));have n3_:=mA ((by rw [hg];exact (bZ (by repeat first|(with_reducible first|exact HB.out|apply bA|apply bN|apply bD)|exact HB.out)):w.heap.size≤gb102));clear HB;have HB:=n0_;have BK102:=n1_;have GW102:=n2_;have GE102:=n3_;clear n0_ n1_ n2_ n3_ hb hbox hg;have hcz12_0:w11.cell? ⟨gb102,0,none⟩=some (.int .i64 0):=(kC BK102.out 0).trans rfl;have hcz12_1:w11.cell? ⟨gb102,1,none⟩=some (.slice none 0 0):=(kC BK102.out 1).trans rfl;have hfz12_0:=kF BK102.out 0;have hfz12_1:=kF BK102.out 1)|((with_reducible refine gate_callee (f:=45) rfl ?_);refine goesL_ (some 15) rfl rfl Try.func45 (by kernel_rfl) rfl #[.int .i64 a0,.agg #[.int .i64 ((rd_T36 l1 x9_1).f0),.slice A101_1 ((rd_T36 l1 x9_1).f1).length c101_1]] rfl (by (try simp only [mT,mC,mN]);first|done|rfl|(simp only [lD,lT];rfl)) ?_;(with_reducible refine (impl_ClaimOk.calls k1 a0 ((rd_T36 l1 x9_1).f0) _ _ ((rd_T36 l1 x9_1).f1) false _ ?side1 ?side2 A6.out).mono ?_);(case side1=>exact Kd.C_below HR101_1.out (by repeat first|(with_reducible first|exact HB.out|apply bA|apply bN|apply bD|refine bS ?_ GE102.out)|exact HB.out));(case side2=>exact HC101_1.out);rintro e w13 ⟨rfl,hb⟩;refine ⟨_,rfl,?_⟩;have n0_:=mA (kB (g:=gb102) (o:=.cells #[.int .i64 ((rd_T36 l1 x9_1).f0),.slice A101_1 ((rd_T36 l1 x9_1).f1).length c101_1] 36 (0,0)) (by (with_reducible repeat first|refine kN ?_ _|refine kD ?_|refine kA ?_ _);refine kP (cs:=#[.int .i64 ((rd_T36 l1 x9_1).f0),.slice none 0 0]) ?_ 1 _ rfl;(with_reducible repeat first|refine kN ?_ _|refine kD ?_|refine kA ?_ _);refine kP (cs:=#[.int .i64 0,.slice none 0 0]) ?_ 0 _ rfl;(with_reducible repeat first|refine kN ?_ _|refine kD ?_|refine kA ?_ _);exact BK102.out) hb);have n1_:=mA (bT (by repeat first|(with_reducible first|exact HB.out|apply bA|apply bN|apply bD|refine bS ?_ GE102.out)|exact HB.out) hb);clear BK102 HB;have BK102:=n0_;have HB:=n1_;clear n0_ n1_;(try clear hb);(try clear hb2);(try clear hk);(try clear hi)))
      go_ret
      exact ⟨by first|rfl|(simp [errW_none,errW_some]<;>rfl)|(simp [*, errW_none,errW_some]<;>rfl),by repeat (first|(with_reducible first|exact HB.out|apply bA|apply bN|apply bD|refine bS ?_ GE102.out)|exact HB.out)⟩
     rw [if_neg c5] at H
     exact absurd H (by simp)
    rw [if_neg c4] at H
    exact absurd H (by simp)
   rw [if_neg c3] at H
   have c3b0:decide (x9_1<(l1.length:Int))=false:=decide_eq_false c3
   clear c3
   replace H:=oB.mp H
   obtain ⟨t104,A140,H⟩:=H
   replace H:(if t104=true then (some (decide ((l1.length:Int)≤6))) else (some false))=some r:=H
   have A14:=mA A140
   clear A140
   by_cases c15:t104=true
   ·subst c15
    have H1:(some (decide ((l1.length:Int)≤6)))=some r:=by rw [if_pos rfl] at H;exact H
    clear H
    have H:=H1
    clear H1
    obtain rfl:=Option.some.inj H
    go_wp2_with (first|((with_reducible refine gate_callee (f:=115) rfl ?_);refine goesL_ (some 19) rfl rfl Try.func115 (by kernel_rfl) rfl #[.int .i64 a0] rfl (by (try simp only [mT,mC,mN]);first|done|rfl|(simp only [lD,lT];rfl)) ?_;(with_reducible refine (impl_peopleOk.calls a0 true _ A14.out).mono ?_);rintro e w' ⟨rfl,⟨nd,rfl⟩⟩;refine ⟨_,rfl,?_⟩))
    go_ret
    exact ⟨by first|rfl|(simp [errW_none,errW_some]<;>rfl)|(simp [*, errW_none,errW_some]<;>rfl),by repeat (first|(with_reducible first|exact HB.out|apply bA|apply bN|apply bD)|exact HB.out)⟩
   replace c15:=Bool.eq_false_iff.mpr c15
   subst c15
   have H1:(some false)=some r:=by rw [if_neg (show ¬ (false=true) by decide)] at H;exact H
   clear H
   have H:=H1
   clear H1
   obtain rfl:=Option.some.inj H
   go_wp2_with (first|((with_reducible refine gate_callee (f:=115) rfl ?_);refine goesL_ (some 19) rfl rfl Try.func115 (by kernel_rfl) rfl #[.int .i64 a0] rfl (by (try simp only [mT,mC,mN]);first|done|rfl|(simp only [lD,lT];rfl)) ?_;(with_reducible refine (impl_peopleOk.calls a0 false _ A14.out).mono ?_);rintro e w' ⟨rfl,⟨nd,rfl⟩⟩;refine ⟨_,rfl,?_⟩))
   go_ret
   exact ⟨by first|rfl|(simp [errW_none,errW_some]<;>rfl)|(simp [*, errW_none,errW_some]<;>rfl),by repeat (first|(with_reducible first|exact HB.out|apply bA|apply bN|apply bD)|exact HB.out)⟩
/-! ### impl_storyTable: function 126 -/
def impl_storyTable.l0:Nat→Int→Int→List (S36)→Int→Int→Option (Int)
 | 0,_,_,_,_,_=>none
 | k+1,x0,x5,x12,x13,x14=>if x14<x13 then (if 0≤x14 then (if x14<(x12.length:Int) then ((impl_ClaimTable.f k x0 ((rd_T36 x12 x14).f0) ((rd_T36 x12 x14).f1)).bind fun t103=>(impl_storyTable.l0 k x0 (Go.bits .and .i64 x5 t103) x12 x13 (wrap64 (x14+1)))) else (none)) else (none)) else (some x5)
def impl_storyTable.f (k:Nat) (a0:Int) (l1:List (S36)):Option (Int):=if 0≤a0 then (impl_storyTable.l0 k a0 (wrap64 ((shl .i64 1 (shl .u64 1 a0))-1)) l1 (l1.length:Int) 0) else (none)
theorem impl_storyTable.mono_l : ∀ k,(∀ y0 y1 y2 y3 y4,LeO (impl_storyTable.l0 k y0 y1 y2 y3 y4) (impl_storyTable.l0 (k+1) y0 y1 y2 y3 y4))
 | 0=>fun _ _ _ _ _ r h=>by simp [impl_storyTable.l0] at h
 | k+1=>by
  have ih0:=impl_storyTable.mono_l k
  intro y0 y1 y2 y3 y4
  unfold impl_storyTable.l0
  repeat' first
  | (with_reducible exact ih0 _ _ _ _ _)
  | (with_reducible exact impl_ClaimTable.mono _ _ _ _)
  | (with_reducible exact LeO.refl _)
  | (with_reducible exact LeO.none _)
  | (with_reducible refine LeO.ite ?_ ?_)
  | (with_reducible refine LeO.bind ?_ (fun _=>?_))
  | exact ih0 _ _ _ _ _
  | exact impl_ClaimTable.mono _ _ _ _
  | exact LeO.none _
  | refine LeO.ite ?_ ?_
  | refine LeO.bind ?_ (fun _=>?_)
theorem impl_storyTable.mono : ∀ a0 a1 k,LeO (impl_storyTable.f k a0 a1) (impl_storyTable.f (k+1) a0 a1):=by
 intro a0 a1 k
 have ih0:=impl_storyTable.mono_l k
 unfold impl_storyTable.f
 repeat' first
   | (with_reducible exact ih0 _ _ _ _ _)
   | (with_reducible exact impl_ClaimTable.mono _ _ _ _)
   | (with_reducible exact LeO.refl _)
   | (with_reducible exact LeO.none _)
   | (with_reducible refine LeO.ite ?_ ?_)
   | (with_reducible refine LeO.bind ?_ (fun _=>?_))
   | exact ih0 _ _ _ _ _
   | exact impl_ClaimTable.mono _ _ _ _
   | exact LeO.none _
   | refine LeO.ite ?_ ?_
   | refine LeO.bind ?_ (fun _=>?_)
set_option maxHeartbeats 8000000 in
set_option maxRecDepth 100000 in
theorem impl_storyTable.calls (k:Nat) (a0:Int) (A1:Option Addr) (c1:Nat) (l1:List (S36)) (r:Int) (w:World) (hr1:Kd.C k36 w A1 l1.length l1) (hc1:l1.length≤c1) (h:impl_storyTable.f k a0 l1=some r) :
  Calls Try.prog 126 #[.int .i64 a0,.slice A1 l1.length c1] w fun e w'=>e = .returned (.int .i64 r)∧Below w.heap.size w w':=by
 have hu36:=Try.underlying36
 have HR1:=mA hr1
 have HC1:=mA hc1
 clear hr1 hc1
 have HB:=mA (Below.refl w.heap.size w)
 have H:(if 0≤a0 then (impl_storyTable.l0 k a0 (wrap64 ((shl .i64 1 (shl .u64 1 a0))-1)) l1 (l1.length:Int) 0) else (none))=some r:=h
 clear h
 by_cases c3:0≤a0
 ·rw [if_pos c3] at H
  have c3b0:=eq_true c3
  have c3b1:decide (0≤a0)=true:=decide_eq_true c3
  clear c3
  obtain ⟨ji4,hji4⟩ : ∃ j_:Int,(shl .u64 1 a0)=j_:=⟨_,rfl⟩
  have hji4_n:(0≤ji4)=True:=eq_true (by rw [←hji4];exact shl_u64_nonneg _ _)
  replace H:(impl_storyTable.l0 k a0 (wrap64 ((shl .i64 1 (ji4))-1)) l1 (l1.length:Int) 0)=some r:=by first|(rw [hji4] at H;exact H)|(simp only [hji4] at H ⊢;exact H)
  have hji4_:(IntKind.u64.wrap (1*2^min a0.toNat 64))=ji4:=hji4
  have hji4z:a0≤64→(IntKind.u64.wrap (1*2^a0.toNat))=ji4:=shl_small hji4
  have hji4u:(IntKind.u64.wrap (2^min a0.toNat 64))=ji4:=by have h_:=hji4_;rw [Int.one_mul] at h_;exact h_
  have hji4v:a0≤64→(IntKind.u64.wrap (2^a0.toNat))=ji4:=fun hle_=>by have h_:=hji4z hle_;rw [Int.one_mul] at h_;exact h_
  obtain ⟨ji5,hji5⟩ : ∃ j_:Int,(shl .i64 1 (ji4))=j_:=⟨_,rfl⟩
  replace H:(impl_storyTable.l0 k a0 (wrap64 ((ji5)-1)) l1 (l1.length:Int) 0)=some r:=by first|(rw [hji5] at H;exact H)|(simp only [hji5] at H ⊢;exact H)
  have hji5_:(IntKind.i64.wrap (1*2^min (ji4).toNat 64))=ji5:=hji5
  have hji5z:(ji4)≤64→(IntKind.i64.wrap (1*2^(ji4).toNat))=ji5:=shl_small hji5
  have hji5u:(IntKind.i64.wrap (2^min (ji4).toNat 64))=ji5:=by have h_:=hji5_;rw [Int.one_mul] at h_;exact h_
  have hji5v:(ji4)≤64→(IntKind.i64.wrap (2^(ji4).toNat))=ji5:=fun hle_=>by have h_:=hji5z hle_;rw [Int.one_mul] at h_;exact h_
  have hji5y:(wrap64 (1*2^min (ji4).toNat 64))=ji5:=(i64_w _).symm.trans hji5_
  have hji5x:(ji4)≤64→(wrap64 (1*2^(ji4).toNat))=ji5:=fun h_=>(i64_w _).symm.trans (hji5z h_)
  have H':=mA H
  clear H
  go_enter Try.func126,Try.ntmps126
  go_wp2
  go_loopg [5,14] k (fun kq v5 v14 w'=>∃ (x5_1:Int) (x14_1:Int),v5 = .int .i64 x5_1∧v14 = .int .i64 x14_1∧Aside0 (impl_storyTable.l0 kq a0 x5_1 l1 (l1.length:Int) x14_1=some r)∧Aside0 (kq≤k)∧Aside0 (Below w.heap.size w w'))
  case atStart=>exact ⟨(wrap64 ((ji5)-1)),(0),(by first|rfl|(simp;done)|(simp only [←hji5]<;>(first|rfl|simp))|(simp [*];done)),(by first|rfl|(simp;done)|(simp [*];done)),H',⟨Nat.le_refl _⟩,⟨by repeat (first|(with_reducible first|exact HB.out|apply bA|apply bN|apply bD)|exact HB.out)⟩⟩
  case round =>
   clear H'
   try clear c1
   try clear p2
   try clear c3
   try clear c3b0
   try clear c3b1
   obtain ⟨x5_1,x14_1,rfl,rfl,HA,HK1,HB⟩:=hrel
   cases gk with
   | zero=>exact absurd HA.out (by simp [impl_storyTable.l0])
   | succ k1 =>
    have H:=HA.out
    clear HA
    simp only [impl_storyTable.l0] at H
    by_cases c6:x14_1<(l1.length:Int)
    ·rw [if_pos c6] at H
     have c6b0:decide (x14_1<(l1.length:Int))=true:=decide_eq_true c6
     clear c6
     by_cases c7:0≤x14_1
     ·rw [if_pos c7] at H
      have c7b0:decide (0≤x14_1)=true:=decide_eq_true c7
      clear c7
      by_cases c8:x14_1<(l1.length:Int)
      ·rw [if_pos c8] at H
       have c8b0:decide (x14_1<(l1.length:Int))=true:=decide_eq_true c8
       clear c8
       replace H:=oB.mp H
       obtain ⟨t103,A90,H⟩:=H
       replace H:(impl_storyTable.l0 k1 a0 (Go.bits .and .i64 x5_1 t103) l1 (l1.length:Int) (wrap64 (x14_1+1)))=some r:=H
       have A9:=mA A90
       clear A90
       have H':=mA H
       clear H
       have p101:0≤(x14_1:Int):=of_decide_eq_true (by first|with_reducible assumption|assumption)
       have q101:x14_1<(l1.length:Int):=of_decide_eq_true (by first|with_reducible assumption|assumption)
       obtain ⟨ad101,A101_1,c101_1,e101,hx101_0,hx101_1,hl101_1,hi101_1⟩:=at_T36 HR1.out x14_1 p101 q101
       cases e101
       replace hx101_0:=(HB.out.cell (World.block_lt_of_cell? w _ hx101_0)).trans hx101_0
       replace hx101_1:=(HB.out.cell (World.block_lt_of_cell? w _ hx101_1)).trans hx101_1
       have HR101_1:=mA hi101_1
       have HC101_1:=mA hl101_1
       clear hi101_1 hl101_1
       replace p101:=eq_true p101
       replace q101:=eq_true q101
       go_wp2_with (first|((with_reducible refine gate_dst (N:=7) rfl ?_);refine box_event ?hg (N:=7) ?hd (cs:=#[.int .i64 0,.slice none 0 0]) (t:=36) ?hr ?_;(case hd=>rfl);(case hg=>rfl);(case hr=>first|(go_simp;done)|(go_simp;rfl));intro gb102 hg w10 hbox hb;have n0_:=mA (bT (by repeat first|(with_reducible first|exact HB.out|apply bA|apply bN|apply bD)|exact HB.out) hb);have n1_:=mA (hbox);have n2_:=mA ((by rw [hg];exact (bZ (by repeat first|(with_reducible first|exact HB.out|apply bA|apply bN|apply bD)|exact HB.out)):w.heap.size≤gb102));have n3_:=mA ((by rw [hg];exact (bZ (by repeat first|(with_reducible first|exact HB.out|apply bA|apply bN|apply bD)|exact HB.out)):w.heap.size≤gb102));clear HB;have HB:=n0_;have BK102:=n1_;have GW102:=n2_;have GE102:=n3_;clear n0_ n1_ n2_ n3_ hb hbox hg;have hcz11_0:w10.cell? ⟨gb102,0,none⟩=some (.int .i64 0):=(kC BK102.out 0).trans rfl;have hcz11_1:w10.cell? ⟨gb102,1,none⟩=some (.slice none 0 0):=(kC BK102.out 1).trans rfl;have hfz11_0:=kF BK102.out 0;have hfz11_1:=kF BK102.out 1)|((with_reducible refine gate_callee (f:=49) rfl ?_);refine goesL_ (some 21) rfl rfl Try.func49 (by kernel_rfl) rfl #[.int .i64 a0,.agg #[.int .i64 ((rd_T36 l1 x14_1).f0),.slice A101_1 ((rd_T36 l1 x14_1).f1).length c101_1]] rfl (by (try simp only [mT,mC,mN]);first|done|rfl|(simp only [lD,lT];rfl)) ?_;(with_reducible refine (impl_ClaimTable.calls k1 a0 ((rd_T36 l1 x14_1).f0) _ _ ((rd_T36 l1 x14_1).f1) t103 _ ?side1 ?side2 A9.out).mono ?_);(case side1=>exact Kd.C_below HR101_1.out (by repeat first|(with_reducible first|exact HB.out|apply bA|apply bN|apply bD|refine bS ?_ GE102.out)|exact HB.out));(case side2=>exact HC101_1.out);rintro e w12 ⟨rfl,hb⟩;refine ⟨_,rfl,?_⟩;have n0_:=mA (kB (g:=gb102) (o:=.cells #[.int .i64 ((rd_T36 l1 x14_1).f0),.slice A101_1 ((rd_T36 l1 x14_1).f1).length c101_1] 36 (0,0)) (by (with_reducible repeat first|refine kN ?_ _|refine kD ?_|refine kA ?_ _);refine kP (cs:=#[.int .i64 ((rd_T36 l1 x14_1).f0),.slice none 0 0]) ?_ 1 _ rfl;(with_reducible repeat first|refine kN ?_ _|refine kD ?_|refine kA ?_ _);refine kP (cs:=#[.int .i64 0,.slice none 0 0]) ?_ 0 _ rfl;(with_reducible repeat first|refine kN ?_ _|refine kD ?_|refine kA ?_ _);exact BK102.out) hb);have n1_:=mA (bT (by repeat first|(with_reducible first|exact HB.out|apply bA|apply bN|apply bD|refine bS ?_ GE102.out)|exact HB.out) hb);clear BK102 HB;have BK102:=n0_;have HB:=n1_;clear n0_ n1_;(try clear hb);(try clear hb2);(try clear hk);(try clear hi)))
       go_roundg k1
       case measure=>have:=HK1.out;omega
       case rel=>exact ⟨(Go.bits .and .i64 x5_1 t103),(wrap64 (x14_1+1)),(by first|rfl|(simp;done)|(simp [*];done)),(by first|rfl|(simp;done)|(simp [*];done)),H',⟨by have:=HK1.out;omega⟩,⟨by repeat (first|(with_reducible first|exact HB.out|apply bA|apply bN|apply bD|refine bS ?_ GE102.out)|exact HB.out)⟩⟩
      rw [if_neg c8] at H
      exact absurd H (by simp)
     rw [if_neg c7] at H
     exact absurd H (by simp)
    rw [if_neg c6] at H
    have c6b0:decide (x14_1<(l1.length:Int))=false:=decide_eq_false c6
    clear c6
    obtain rfl:=Option.some.inj H
    go_wp2
    go_ret
    exact ⟨by first|rfl|(simp [errW_none,errW_some]<;>rfl)|(simp only [←hji4, ←hji5];first|rfl|(simp [errW_none,errW_some]<;>rfl))|(simp [*, errW_none,errW_some]<;>rfl),by repeat (first|(with_reducible first|exact HB.out|apply bA|apply bN|apply bD)|exact HB.out)⟩
 rw [if_neg c3] at H
 exact absurd H (by simp)
end Go.Proofs.Ytpampekijfjlkab.X
/- Plain laws of stories: which are ones, and their tables; the program's. -/
namespace Go.Proofs.Ytpampekijfjlkab.L
open Go.RowKit Go.Proofs.Ytpampekijfjlkab.X Go.Proofs.YtpampekijfjlkabW.PrintWords Go.Proofs.YtpampekijfjlkabW.PrintLast Go.Proofs.YtpampekijfjlkabW.PrintMore
open Go.Proofs.YtpampekijfjlkabW.PrintWords renaming Aside0.mk → mA, pw_below_drewN → bN, below_drew1 → bD, below_alloc → bA, below_set → bS, blk_alloc → kA, blk_drewN → kN, blk_drew → kD, blk_cell → kC, blk_frozen → kF, below_size → bZ, below_step → bT, Kd.R_alloc → rA, Kd.R_drewN → rN, Kd.R_drew → rD, Kd.R_mono → rM, Kd.R_reads' → rR, Kd.R_far → rF, Kd.R_lt → rL, Kd.R_below → rB, Kd.R_elder' → rE, Kd.R_lower → rW, Kd.R_new' → rQ, Kd.R_types → rY, blk_put → kP, blk_far → kZ, blk_below → kB, blk_lt → kL, Kd.C_alloc → cA, Kd.C_drewN → cN, Kd.C_drew → cD
open Option renaming bind_some → oS, bind_eq_some_iff → oB
open List renaming length_take → lT, length_drop → lD, map_toArray → mT, map_cons → mC, map_nil → mN
abbrev C:=S36
/-- All worlds, as bits. -/
def fullT (q:Nat):Nat:=2^(2^q)-1
theorem full_eq {q:Nat} (h1:1≤q) (h4:q≤4):wrap64 (shl .i64 1 (shl .u64 1 (q:Int))-1)=((fullT q:Nat):Int):=by
 have : ∀ q:Fin 5,1≤q.val→wrap64 (shl .i64 1 (shl .u64 1 ((q.val:Nat):Int))-1)=((fullT q.val:Nat):Int):=by decide +kernel
 exact this ⟨q,by omega⟩ h1
theorem alive_eq':laws_alive.f=some true:=by decide +kernel
end Go.Proofs.Ytpampekijfjlkab.L
