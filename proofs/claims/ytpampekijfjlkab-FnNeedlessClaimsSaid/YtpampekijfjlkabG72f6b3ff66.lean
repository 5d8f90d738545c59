/- Joined by a program of this session's: X5, X6, X126, X127, X128, X129, X130. -/
import Derived.Test.YtpampekijfjlkabG22d322e51c
import Derived.Test.YtpampekijfjlkabG8aec2004a1
import Derived.Test.YtpampekijfjlkabGb80afb045d
import Derived.Test.YtpampekijfjlkabGb159fed61f
import Derived.Test.YtpampekijfjlkabGed8af054f1

namespace Go.Proofs.Ytpampekijfjlkab.X
open Go.RowKit Go.Proofs.YtpampekijfjlkabW.PrintWords Go.Proofs.YtpampekijfjlkabW.PrintLast Go.Proofs.YtpampekijfjlkabW.PrintMore
open Go.Proofs.YtpampekijfjlkabW.PrintWords renaming Aside0.mk → mA, pw_below_drewN → bN, below_drew1 → bD, below_alloc → bA, below_set → bS, blk_alloc → kA, blk_drewN → kN, blk_drew → kD, blk_cell → kC, blk_frozen → kF, below_size → bZ, below_step → bT, Kd.R_alloc → rA, Kd.R_drewN → rN, Kd.R_drew → rD, Kd.R_mono → rM, Kd.R_reads' → rR, Kd.R_far → rF, Kd.R_lt → rL, Kd.R_below → rB, KeepBut.set_ → eS, keep_drewN → eN, keep_alloc → eA, keep_drew → eD, Kd.N_alloc → nA, Kd.N_drewN → nN, Kd.N_drew → nD, Kd.C_alloc → cA, Kd.C_drewN → cN, Kd.C_drew → cD
open List renaming setIfInBounds_toArray → sA, set_cons_zero → sZ, set_cons_succ → sS, length_take → lT, length_drop → lD, map_toArray → mT, map_cons → mC, map_nil → mN
open Bool renaming true → I, false → O
attribute [local go_sem] max2_int min2_int max_two min_two max_three min_three max_four min_four   -- for this text's walks alone
set_option linter.unusedVariables false
set_option linter.unusedSimpArgs false
/-! ### spec_l20Claim: function 138 -/
def spec_l20Claim.f (k:Nat) (s0_0:List Int) (s0_1:Int) (a1:Int) (a2:Int):Option (Int×(List (S33))×Int):=(spec_l20Rd_pick.f k s0_0 s0_1 (mx a1 1)).bind fun bt102=>((spec_l20Term.f k s0_0 bt102.2 a1 (wrap64 (a2*2))).bind fun bt104=>((spec_l20Rd_odd.f k s0_0 bt104.2 a2).bind fun bt109=>(if bt109.1=true then ((some (([(-1),4]:List Int):List Int)).bind fun y111=>((spec_l20Rd_pick.f k s0_0 bt109.2 2).bind fun bt114=>(if 0≤bt114.1 then (if bt114.1<(y111.length:Int) then (some (rd y111 bt114.1,bt104.1,bt114.2)) else (none)) else (none)))) else (some (bt102.1,bt104.1,bt109.2)))))
theorem spec_l20Claim.mono : ∀ a0 a1 a2 a3 k,LeO (spec_l20Claim.f k a0 a1 a2 a3) (spec_l20Claim.f (k+1) a0 a1 a2 a3):=by
 intro a0 a1 a2 a3 k
 unfold spec_l20Claim.f
 repeat' first
   | (with_reducible exact spec_l20Rd_odd.mono _ _ _ _)
   | (with_reducible exact spec_l20Rd_pick.mono _ _ _ _)
   | (with_reducible exact spec_l20Term.mono _ _ _ _ _)
   | (with_reducible exact LeO.refl _)
   | (with_reducible exact LeO.none _)
   | (with_reducible refine LeO.ite ?_ ?_)
   | (with_reducible refine LeO.bind ?_ (fun _=>?_))
   | exact spec_l20Rd_odd.mono _ _ _ _
   | exact spec_l20Rd_pick.mono _ _ _ _
   | exact spec_l20Term.mono _ _ _ _ _
   | exact LeO.none _
   | refine LeO.ite ?_ ?_
   | refine LeO.bind ?_ (fun _=>?_)
set_option maxHeartbeats 8000000 in
set_option maxRecDepth 100000 in
theorem spec_l20Claim.calls (k:Nat) (g:Nat) (s0_0:List Int) (s0_1:Int) (a1:Int) (a2:Int) (r1:Int) (r2:List (S33)) (r3:Int) (w0 w:World) (hI:IsS113 w0 w g s0_0 s0_1) (hB:Below w0.heap.size w0 w) (h:spec_l20Claim.f k s0_0 s0_1 a1 a2=some (r1,r2,r3)) :
  Calls Try.prog 138 #[.pointer (some ⟨g,0,none⟩),.int .i64 a1,.int .i64 a2] w fun e w'=>∃ v1_:Value,e = .returned (.agg #[.int .i64 r1,v1_])∧Kd.R k33 33 w' w.heap.size (fun _=>True) v1_ r2∧IsS113 w0 w' g s0_0 r3∧Below w0.heap.size w0 w'∧KeepBut w w' g none:=by
 have hu36:=Try.underlying36
 have HI0:=mA hI
 have HK:=mA (KeepBut.refl w g none)
 have HL:=mA hB.size
 clear hI
 have HW0:=mA hB.size
 have HB:=mA hB
 clear hB
 have H:((spec_l20Rd_pick.f k s0_0 s0_1 (mx a1 1)).bind fun bt102=>((spec_l20Term.f k s0_0 bt102.2 a1 (wrap64 (a2*2))).bind fun bt104=>((spec_l20Rd_odd.f k s0_0 bt104.2 a2).bind fun bt109=>(if bt109.1=true then ((some (([(-1),4]:List Int):List Int)).bind fun y111=>((spec_l20Rd_pick.f k s0_0 bt109.2 2).bind fun bt114=>(if 0≤bt114.1 then (if bt114.1<(y111.length:Int) then (some (rd y111 bt114.1,bt104.1,bt114.2)) else (none)) else (none)))) else (some (bt102.1,bt104.1,bt109.2))))))=some (r1,r2,r3):=h
 clear h
 obtain ⟨ji4,hji4⟩ : ∃ j_:Int,(mx a1 1)=j_:=⟨_,rfl⟩
 replace H:((spec_l20Rd_pick.f k s0_0 s0_1 (ji4)).bind fun bt102=>((spec_l20Term.f k s0_0 bt102.2 a1 (wrap64 (a2*2))).bind fun bt104=>((spec_l20Rd_odd.f k s0_0 bt104.2 a2).bind fun bt109=>(if bt109.1=true then ((some (([(-1),4]:List Int):List Int)).bind fun y111=>((spec_l20Rd_pick.f k s0_0 bt109.2 2).bind fun bt114=>(if 0≤bt114.1 then (if bt114.1<(y111.length:Int) then (some (rd y111 bt114.1,bt104.1,bt114.2)) else (none)) else (none)))) else (some (bt102.1,bt104.1,bt109.2))))))=some (r1,r2,r3):=by first|(rw [hji4] at H;exact H)|(simp only [hji4] at H ⊢;exact H)
 (try (have hji4l:1≤ji4:=by (rw [←hji4];unfold mx;(repeat' split)<;>omega)))
 (try (have hji4m:0≤ji4:=by omega))
 have hji4_:(if a1<1 then 1 else a1)=ji4:=hji4
 replace H:=Option.bind_eq_some_iff.mp H
 obtain ⟨⟨t102,t103⟩,A50,H⟩:=H
 replace H:((spec_l20Term.f k s0_0 t103 a1 (wrap64 (a2*2))).bind fun bt104=>((spec_l20Rd_odd.f k s0_0 bt104.2 a2).bind fun bt109=>(if bt109.1=true then ((some (([(-1),4]:List Int):List Int)).bind fun y111=>((spec_l20Rd_pick.f k s0_0 bt109.2 2).bind fun bt114=>(if 0≤bt114.1 then (if bt114.1<(y111.length:Int) then (some (rd y111 bt114.1,bt104.1,bt114.2)) else (none)) else (none)))) else (some (t102,bt104.1,bt109.2)))))=some (r1,r2,r3):=H
 have A5:=mA A50
 clear A50
 replace H:=Option.bind_eq_some_iff.mp H
 obtain ⟨⟨t104,t107⟩,A60,H⟩:=H
 replace H:((spec_l20Rd_odd.f k s0_0 t107 a2).bind fun bt109=>(if bt109.1=true then ((some (([(-1),4]:List Int):List Int)).bind fun y111=>((spec_l20Rd_pick.f k s0_0 bt109.2 2).bind fun bt114=>(if 0≤bt114.1 then (if bt114.1<(y111.length:Int) then (some (rd y111 bt114.1,t104,bt114.2)) else (none)) else (none)))) else (some (t102,t104,bt109.2))))=some (r1,r2,r3):=H
 have A6:=mA A60
 clear A60
 replace H:=Option.bind_eq_some_iff.mp H
 obtain ⟨⟨t109,t110⟩,A70,H⟩:=H
 replace H:(if t109=true then ((some (([(-1),4]:List Int):List Int)).bind fun y111=>((spec_l20Rd_pick.f k s0_0 t110 2).bind fun bt114=>(if 0≤bt114.1 then (if bt114.1<(y111.length:Int) then (some (rd y111 bt114.1,t104,bt114.2)) else (none)) else (none)))) else (some (t102,t104,t110)))=some (r1,r2,r3):=H
 have A7:=mA A70
 clear A70
 by_cases c8:t109=true
 ·subst c8
  have H1:((some (([(-1),4]:List Int):List Int)).bind fun y111=>((spec_l20Rd_pick.f k s0_0 t110 2).bind fun bt114=>(if 0≤bt114.1 then (if bt114.1<(y111.length:Int) then (some (rd y111 bt114.1,t104,bt114.2)) else (none)) else (none))))=some (r1,r2,r3):=by rw [if_pos rfl] at H;exact H
  clear H
  have H:=H1
  clear H1
  obtain ⟨y111,hy111⟩ : ∃ y_:List Int,y_=(([(-1),4]:List Int)):=⟨_,rfl⟩
  replace H:((spec_l20Rd_pick.f k s0_0 t110 2).bind fun bt114=>(if 0≤bt114.1 then (if bt114.1<(y111.length:Int) then (some (rd y111 bt114.1,t104,bt114.2)) else (none)) else (none)))=some (r1,r2,r3):=by first|(rw [hy111];with_reducible exact H)|(have H2_:=(Option.bind_some _ _).symm.trans H;rw [hy111];with_reducible exact H2_)|(have H2_:=(Option.bind_some _ _).symm.trans H;with_reducible exact H2_)|with_reducible exact H|(rw [hy111];exact H)|exact H
  have Ny111:=mA hy111
  clear hy111
  replace H:=Option.bind_eq_some_iff.mp H
  obtain ⟨⟨t114,t115⟩,A90,H⟩:=H
  replace H:(if 0≤t114 then (if t114<(y111.length:Int) then (some (rd y111 t114,t104,t115)) else (none)) else (none))=some (r1,r2,r3):=H
  have A9:=mA A90
  clear A90
  by_cases c10:0≤t114
  ·rw [if_pos c10] at H
   have c10b0:decide (0≤t114)=true:=decide_eq_true c10
   clear c10
   by_cases c11:t114<(y111.length:Int)
   ·rw [if_pos c11] at H
    have c11b0:decide (t114<(y111.length:Int))=true:=decide_eq_true c11
    clear c11
    simp only [Option.some.injEq,Prod.mk.injEq] at H
    obtain ⟨rfl,rfl,rfl⟩:=H
    go_enter Try.func138,Try.ntmps138
    go_wp2_with (first|((with_reducible refine gate_dst (N:=6) rfl ?_);refine box_event ?hg (N:=6) ?hd (cs:=#[.int .i64 0,.slice none 0 0]) (t:=36) ?hr ?_;(case hd=>rfl);(case hg=>rfl);(case hr=>first|(go_simp;done)|(go_simp;rfl));intro gb101 hg w12 hbox hb;have n0_:=mA (IsS113.below (by repeat (first|(with_reducible first|exact HI0.out|apply IsS113.alloc|apply IsS113.drewN|apply IsS113.drew|apply IsS113.set_1)|exact HI0.out)) hb);have n1_:=mA (KeepBut.trans (by repeat (first|(with_reducible first|exact HK.out|apply eS|apply eN|apply eD|apply eA)|exact HK.out)) (KeepBut.of_below hb g none) (.inl rfl));have n2_:=mA (bT (by repeat (first|(with_reducible first|exact HB.out|apply bA|apply bN|apply bD|refine bS ?_ (IsS113.ge HI0.out))|exact HB.out)) hb);have n3_:=mA (hbox);have n4_:=mA ((by rw [hg];exact (keep_size (w:=w) (g:=g) (row:=none) (by repeat (first|(with_reducible first|exact HK.out|apply eS|apply eN|apply eD|apply eA)|exact HK.out))):w.heap.size≤gb101));have n5_:=mA ((Nat.le_trans HW0.out (by rw [hg];exact (keep_size (w:=w) (g:=g) (row:=none) (by repeat (first|(with_reducible first|exact HK.out|apply eS|apply eN|apply eD|apply eA)|exact HK.out))):w.heap.size≤gb101):w0.heap.size≤gb101));have n6_:=mA ((by rw [hg];exact Nat.ne_of_lt (IsS113.lt (show IsS113 w0 _ g s0_0 s0_1 from by repeat (first|(with_reducible first|exact HI0.out|apply IsS113.alloc|apply IsS113.drewN|apply IsS113.drew|apply IsS113.set_1)|exact HI0.out))):g≠gb101));have n7_:=mA ((by rw [hg];exact Nat.ne_of_gt (IsS113.lt (show IsS113 w0 _ g s0_0 s0_1 from by repeat (first|(with_reducible first|exact HI0.out|apply IsS113.alloc|apply IsS113.drewN|apply IsS113.drew|apply IsS113.set_1)|exact HI0.out))):gb101≠g));clear HI0 HK HB;have HI0:=n0_;have HK:=n1_;have HB:=n2_;have BK101:=n3_;have GW101:=n4_;have GE101:=n5_;have NB0_101:=n6_;have NB101_0:=n7_;clear n0_ n1_ n2_ n3_ n4_ n5_ n6_ n7_ hb hbox hg)|((with_reducible refine gate_callee (f:=108) rfl ?_);refine goesL_ (some 11) rfl rfl Try.func108 (by kernel_rfl) rfl #[.pointer (some ⟨g,0,none⟩),.int .i64 ji4] rfl (by (try simp only [mT,mC,mN]);first|done|(simp only [hji4];rfl)|rfl|(simp only [lD,lT];rfl)) ?_;(with_reducible refine (spec_l20Rd_pick.calls k g s0_0 s0_1 ji4 t102 t103 w0 _ ?side1 ?side2 A5.out).mono ?_);(case side1=>repeat (first|(with_reducible first|exact HI0.out|apply IsS113.alloc|apply IsS113.drewN|apply IsS113.drew|apply IsS113.set_1|refine IsS113.far ?_ NB0_101.out _)|exact HI0.out));(case side2=>repeat (first|(with_reducible first|exact HB.out|apply bA|apply bN|apply bD|refine bS ?_ (IsS113.ge HI0.out)|refine bS ?_ GE101.out)|exact HB.out));rintro e w13 ⟨rfl,hi,hb,hk⟩;refine ⟨_,rfl,?_⟩;have n0_:=mA (KeepBut.blk hk (g':=gb101) (o:=.cells #[.int .i64 0,.slice none 0 0] 36 (0,0)) (by (with_reducible repeat (first|refine kN ?_ _|refine kD ?_|refine kA ?_ _));exact BK101.out) NB101_0.out (by simp));have n1_:=mA (KeepBut.trans (by repeat (first|(with_reducible first|exact HK.out|apply eS|apply eN|apply eD|apply eA|refine keep_far ?_ GW101.out _)|exact HK.out)) hk (.inl rfl));have n2_:=mA (hb);have n3_:=mA (hi);clear BK101 HK HB HI0;have BK101:=n0_;have HK:=n1_;have HB:=n2_;have HI0:=n3_;clear n0_ n1_ n2_ n3_;(try clear hb);(try clear hb2);(try clear hk);(try clear hi))|((with_reducible refine gate_callee (f:=128) rfl ?_);refine goesL_ (some 16) rfl rfl Try.func128 (by kernel_rfl) rfl #[.pointer (some ⟨g,0,none⟩),.int .i64 a1,.int .i64 (wrap64 (a2*2))] rfl (by (try simp only [mT,mC,mN]);first|done|rfl|(simp only [lD,lT];rfl)) ?_;(with_reducible refine (spec_l20Term.calls k g s0_0 t103 a1 (wrap64 (a2*2)) t104 t107 w0 _ ?side1 ?side2 A6.out).mono ?_);(case side1=>repeat (first|(with_reducible first|exact HI0.out|apply IsS113.alloc|apply IsS113.drewN|apply IsS113.drew|apply IsS113.set_1|refine IsS113.far ?_ NB0_101.out _)|exact HI0.out));(case side2=>repeat (first|(with_reducible first|exact HB.out|apply bA|apply bN|apply bD|refine bS ?_ (IsS113.ge HI0.out)|refine bS ?_ GE101.out)|exact HB.out));rintro e w14 ⟨v105,rfl,ho0,hi,hb,hk⟩;refine ⟨_,rfl,?_⟩;have n0_:=mA (KeepBut.blk hk (g':=gb101) (o:=.cells #[.int .i64 0,.slice none 0 0] 36 (0,0)) (by (with_reducible repeat (first|refine kN ?_ _|refine kD ?_|refine kA ?_ _));exact BK101.out) NB101_0.out (by simp));have n1_:=mA (Kd.R_lower ho0 (keep_size (w:=w) (g:=g) (row:=none) (by repeat (first|(with_reducible first|exact HK.out|apply eS|apply eN|apply eD|apply eA|refine keep_far ?_ GW101.out _)|exact HK.out))));have n2_:=mA (KeepBut.trans (by repeat (first|(with_reducible first|exact HK.out|apply eS|apply eN|apply eD|apply eA|refine keep_far ?_ GW101.out _)|exact HK.out)) hk (.inl rfl));have n3_:=mA (hb);have n4_:=mA (hi);clear BK101 HK HB HI0;have BK101:=n0_;have HO106:=n1_;have HK:=n2_;have HB:=n3_;have HI0:=n4_;clear n0_ n1_ n2_ n3_ n4_;(try clear hb);(try clear hb2);(try clear hk);(try clear hi);(try clear ho0);obtain ⟨Ao15,co15,eo15⟩:=Kd.R_slice HO106.out;subst eo15)|((with_reducible refine gate_dst (N:=7) rfl ?_);refine box_event ?hg (N:=7) ?hd (cs:=#[.int .i64 0,.slice none 0 0]) (t:=36) ?hr ?_;(case hd=>rfl);(case hg=>rfl);(case hr=>first|(go_simp;done)|(go_simp;rfl));intro gb108 hg w16 hbox hb;have n0_:=mA (rB (by (with_reducible repeat (first|apply rA|apply rN|apply rD));exact HO106.out) hb);have n1_:=mA (IsS113.below (by repeat (first|(with_reducible first|exact HI0.out|apply IsS113.alloc|apply IsS113.drewN|apply IsS113.drew|apply IsS113.set_1|refine IsS113.far ?_ NB0_101.out _)|exact HI0.out)) hb);have n2_:=mA (blk_below (g:=gb101) (o:=.cells #[.int .i64 0,.slice none 0 0] 36 (0,0)) (by (with_reducible repeat (first|refine kN ?_ _|refine kD ?_|refine kA ?_ _));exact BK101.out) hb);have n3_:=mA (KeepBut.trans (by repeat (first|(with_reducible first|exact HK.out|apply eS|apply eN|apply eD|apply eA|refine keep_far ?_ GW101.out _)|exact HK.out)) (KeepBut.of_below hb g none) (.inl rfl));have n4_:=mA (bT (by repeat (first|(with_reducible first|exact HB.out|apply bA|apply bN|apply bD|refine bS ?_ (IsS113.ge HI0.out)|refine bS ?_ GE101.out)|exact HB.out)) hb);have n5_:=mA (hbox);have n6_:=mA ((by rw [hg];exact (keep_size (w:=w) (g:=g) (row:=none) (by repeat (first|(with_reducible first|exact HK.out|apply eS|apply eN|apply eD|apply eA|refine keep_far ?_ GW101.out _)|exact HK.out))):w.heap.size≤gb108));have n7_:=mA ((Nat.le_trans HW0.out (by rw [hg];exact (keep_size (w:=w) (g:=g) (row:=none) (by repeat (first|(with_reducible first|exact HK.out|apply eS|apply eN|apply eD|apply eA|refine keep_far ?_ GW101.out _)|exact HK.out))):w.heap.size≤gb108):w0.heap.size≤gb108));have n8_:=mA ((by rw [hg];exact Nat.ne_of_lt (blk_lt (g:=gb101) (o:=.cells #[.int .i64 0,.slice none 0 0] 36 (0,0)) (by (with_reducible repeat (first|refine kN ?_ _|refine kD ?_|refine kA ?_ _));exact BK101.out)):gb101≠gb108));have n9_:=mA ((by rw [hg];exact Nat.ne_of_gt (blk_lt (g:=gb101) (o:=.cells #[.int .i64 0,.slice none 0 0] 36 (0,0)) (by (with_reducible repeat (first|refine kN ?_ _|refine kD ?_|refine kA ?_ _));exact BK101.out)):gb108≠gb101));have n10_:=mA ((by rw [hg];exact Nat.ne_of_lt (IsS113.lt (show IsS113 w0 _ g s0_0 t107 from by repeat (first|(with_reducible first|exact HI0.out|apply IsS113.alloc|apply IsS113.drewN|apply IsS113.drew|apply IsS113.set_1|refine IsS113.far ?_ NB0_101.out _)|exact HI0.out))):g≠gb108));have n11_:=mA ((by rw [hg];exact Nat.ne_of_gt (IsS113.lt (show IsS113 w0 _ g s0_0 t107 from by repeat (first|(with_reducible first|exact HI0.out|apply IsS113.alloc|apply IsS113.drewN|apply IsS113.drew|apply IsS113.set_1|refine IsS113.far ?_ NB0_101.out _)|exact HI0.out))):gb108≠g));clear HO106 HI0 BK101 HK HB;have HO106:=n0_;have HI0:=n1_;have BK101:=n2_;have HK:=n3_;have HB:=n4_;have BK108:=n5_;have GW108:=n6_;have GE108:=n7_;have NB101_108:=n8_;have NB108_101:=n9_;have NB0_108:=n10_;have NB108_0:=n11_;clear n0_ n1_ n2_ n3_ n4_ n5_ n6_ n7_ n8_ n9_ n10_ n11_ hb hbox hg;have hnb17:=NB108_101.out;have hnc17:=NB101_108.out;have hnb18:=NB108_0.out;have hnc18:=NB0_108.out;have hcz19_0:w16.cell? ⟨gb108,0,none⟩=some (.int .i64 0):=(kC BK108.out 0).trans rfl;have hcz19_1:w16.cell? ⟨gb108,1,none⟩=some (.slice none 0 0):=(kC BK108.out 1).trans rfl;have hfz19_0:=kF BK108.out 0;have hfz19_1:=kF BK108.out 1)|((with_reducible refine gate_callee (f:=139) rfl ?_);refine goesL_ (some 20) rfl rfl Try.func139 (by kernel_rfl) rfl #[.pointer (some ⟨g,0,none⟩),.int .i64 a2] rfl (by (try simp only [mT,mC,mN]);first|done|rfl|(simp only [lD,lT];rfl)) ?_;(with_reducible refine (spec_l20Rd_odd.calls k g s0_0 t107 a2 true t110 w0 _ ?side1 ?side2 A7.out).mono ?_);(case side1=>repeat (first|(with_reducible first|exact HI0.out|apply IsS113.alloc|apply IsS113.drewN|apply IsS113.drew|apply IsS113.set_1|refine IsS113.far ?_ NB0_101.out _|refine IsS113.far ?_ NB0_108.out _)|exact HI0.out));(case side2=>repeat (first|(with_reducible first|exact HB.out|apply bA|apply bN|apply bD|refine bS ?_ (IsS113.ge HI0.out)|refine bS ?_ GE101.out|refine bS ?_ GE108.out)|exact HB.out));rintro e w20 ⟨rfl,hi,hb,hk⟩;refine ⟨_,rfl,?_⟩;have n0_:=mA (KeepBut.blk hk (g':=gb101) (o:=.cells #[.int .i64 0,.slice none 0 0] 36 (0,0)) (by (with_reducible repeat (first|refine kN ?_ _|refine kD ?_|refine kA ?_ _));refine blk_far ?_ NB101_108.out _;(with_reducible repeat (first|refine kN ?_ _|refine kD ?_|refine kA ?_ _));refine blk_far ?_ NB101_108.out _;(with_reducible repeat (first|refine kN ?_ _|refine kD ?_|refine kA ?_ _));exact BK101.out) NB101_0.out (by simp));have n1_:=mA (rM (Kd.R_keep (IsS113.apart (show IsS113 w0 _ g s0_0 t107 from by repeat (first|(with_reducible first|exact HI0.out|apply IsS113.alloc|apply IsS113.drewN|apply IsS113.drew|apply IsS113.set_1|refine IsS113.far ?_ NB0_101.out _|refine IsS113.far ?_ NB0_108.out _)|exact HI0.out)) (by (with_reducible repeat (first|apply rA|apply rN|apply rD));exact (rM (rF (p:=⟨gb108,1,none⟩) (rF (p:=⟨gb108,0,none⟩) (Kd.R_types HO106.out BK108.out (by decide)) (fun _ hk=>hk.2) (.int .i64 t102)) (fun _ hk=>hk.2) (.slice Ao15 t104.length co15)) (fun _ h_=>h_.1))) (by decide)) hk (fun _ h=>h.2)) (fun _ h=>h.1));have n2_:=mA (KeepBut.blk hk (g':=gb108) (o:=.cells #[.int .i64 t102,.slice Ao15 t104.length co15] 36 (0,0)) (by (with_reducible repeat (first|refine kN ?_ _|refine kD ?_|refine kA ?_ _));refine blk_put (cs:=#[.int .i64 t102,.slice none 0 0]) ?_ 1 _ rfl;(with_reducible repeat (first|refine kN ?_ _|refine kD ?_|refine kA ?_ _));refine blk_put (cs:=#[.int .i64 0,.slice none 0 0]) ?_ 0 _ rfl;(with_reducible repeat (first|refine kN ?_ _|refine kD ?_|refine kA ?_ _));exact BK108.out) NB108_0.out (by simp));have n3_:=mA (KeepBut.trans (by repeat (first|(with_reducible first|exact HK.out|apply eS|apply eN|apply eD|apply eA|refine keep_far ?_ GW101.out _|refine keep_far ?_ GW108.out _)|exact HK.out)) hk (.inl rfl));have n4_:=mA (hb);have n5_:=mA (hi);clear BK101 HO106 BK108 HK HB HI0;have BK101:=n0_;have HO106:=n1_;have BK108:=n2_;have HK:=n3_;have HB:=n4_;have HI0:=n5_;clear n0_ n1_ n2_ n3_ n4_ n5_;(try clear hb);(try clear hb2);(try clear hk);(try clear hi))|((with_reducible refine gate_dst (N:=21) rfl ?_);refine Kd.R_lit (Kd.int .i64) _ 3 ?hg (N:=21) ?hd (xs:=([(-1),4]:List Int)) (inner:=[.int .i64 (-1),.int .i64 4]) (ok:=fun _=>True) (okp:=fun _=>True) ?hr ?hp (fun _ hk=>hk) trivial (Below.refl _ _) (Nat.le_refl _) (by simp) ?_;(case hd=>rfl);(case hg=>rfl);(case hr=>first|(go_simp;done)|(go_simp;rfl));(case hp=>exact (Reps.one (show Kd.M (Kd.int .i64) _ _ _ (-1) [.int .i64 (-1)] from rfl) (Reps.one (show Kd.M (Kd.int .i64) _ _ _ 4 [.int .i64 4] from rfl) (Reps.none _ _))));intro v112 w21 ho22 hb hg_ hnew_;clear hg_ hnew_;(first|rw [←Ny111.out] at ho22|(simp only [Int.reduceToNat] at ho22;rw [←Ny111.out] at ho22));have n0_:=mA (rB (by (with_reducible repeat (first|apply rA|apply rN|apply rD));exact HO106.out) hb);have n1_:=mA (Kd.R_lower ho22 (keep_size (w:=w) (g:=g) (row:=none) (by repeat (first|(with_reducible first|exact HK.out|apply eS|apply eN|apply eD|apply eA|refine keep_far ?_ GW101.out _|refine keep_far ?_ GW108.out _)|exact HK.out))));have n2_:=mA (IsS113.below (by repeat (first|(with_reducible first|exact HI0.out|apply IsS113.alloc|apply IsS113.drewN|apply IsS113.drew|apply IsS113.set_1|refine IsS113.far ?_ NB0_101.out _|refine IsS113.far ?_ NB0_108.out _)|exact HI0.out)) hb);have n3_:=mA (blk_below (g:=gb101) (o:=.cells #[.int .i64 0,.slice none 0 0] 36 (0,0)) (by (with_reducible repeat (first|refine kN ?_ _|refine kD ?_|refine kA ?_ _));exact BK101.out) hb);have n4_:=mA (blk_below (g:=gb108) (o:=.cells #[.int .i64 t102,.slice Ao15 t104.length co15] 36 (0,0)) (by (with_reducible repeat (first|refine kN ?_ _|refine kD ?_|refine kA ?_ _));exact BK108.out) hb);have n5_:=mA (KeepBut.trans (by repeat (first|(with_reducible first|exact HK.out|apply eS|apply eN|apply eD|apply eA|refine keep_far ?_ GW101.out _|refine keep_far ?_ GW108.out _)|exact HK.out)) (KeepBut.of_below hb g none) (.inl rfl));have n6_:=mA (bT (by repeat (first|(with_reducible first|exact HB.out|apply bA|apply bN|apply bD|refine bS ?_ (IsS113.ge HI0.out)|refine bS ?_ GE101.out|refine bS ?_ GE108.out)|exact HB.out)) hb);clear HO106 HI0 BK101 BK108 HK HB;have HO106:=n0_;have HO113:=n1_;have HI0:=n2_;have BK101:=n3_;have BK108:=n4_;have HK:=n5_;have HB:=n6_;clear n0_ n1_ n2_ n3_ n4_ n5_ n6_ hb ho22)|((with_reducible refine gate_callee (f:=108) rfl ?_);refine goesL_ (some 23) rfl rfl Try.func108 (by kernel_rfl) rfl #[.pointer (some ⟨g,0,none⟩),.int .i64 2] rfl (by (try simp only [mT,mC,mN]);first|done|rfl|(simp only [lD,lT];rfl)) ?_;(with_reducible refine (spec_l20Rd_pick.calls k g s0_0 t110 2 t114 t115 w0 _ ?side1 ?side2 A9.out).mono ?_);(case side1=>repeat (first|(with_reducible first|exact HI0.out|apply IsS113.alloc|apply IsS113.drewN|apply IsS113.drew|apply IsS113.set_1|refine IsS113.far ?_ NB0_101.out _|refine IsS113.far ?_ NB0_108.out _)|exact HI0.out));(case side2=>repeat (first|(with_reducible first|exact HB.out|apply bA|apply bN|apply bD|refine bS ?_ (IsS113.ge HI0.out)|refine bS ?_ GE101.out|refine bS ?_ GE108.out)|exact HB.out));rintro e w23 ⟨rfl,hi,hb,hk⟩;refine ⟨_,rfl,?_⟩;have n0_:=mA (KeepBut.blk hk (g':=gb101) (o:=.cells #[.int .i64 0,.slice none 0 0] 36 (0,0)) (by (with_reducible repeat (first|refine kN ?_ _|refine kD ?_|refine kA ?_ _));exact BK101.out) NB101_0.out (by simp));have n1_:=mA (rM (Kd.R_keep (IsS113.apart (show IsS113 w0 _ g s0_0 t110 from by repeat (first|(with_reducible first|exact HI0.out|apply IsS113.alloc|apply IsS113.drewN|apply IsS113.drew|apply IsS113.set_1|refine IsS113.far ?_ NB0_101.out _|refine IsS113.far ?_ NB0_108.out _)|exact HI0.out)) (by (with_reducible repeat (first|apply rA|apply rN|apply rD));exact HO106.out) (by decide)) hk (fun _ h=>h.2)) (fun _ h=>h.1));have n2_:=mA (KeepBut.blk hk (g':=gb108) (o:=.cells #[.int .i64 t102,.slice Ao15 t104.length co15] 36 (0,0)) (by (with_reducible repeat (first|refine kN ?_ _|refine kD ?_|refine kA ?_ _));exact BK108.out) NB108_0.out (by simp));have n3_:=mA (rM (Kd.R_keep (IsS113.apart (show IsS113 w0 _ g s0_0 t110 from by repeat (first|(with_reducible first|exact HI0.out|apply IsS113.alloc|apply IsS113.drewN|apply IsS113.drew|apply IsS113.set_1|refine IsS113.far ?_ NB0_101.out _|refine IsS113.far ?_ NB0_108.out _)|exact HI0.out)) (by (with_reducible repeat (first|apply rA|apply rN|apply rD));exact HO113.out) (by decide)) hk (fun _ h=>h.2)) (fun _ h=>h.1));have n4_:=mA (KeepBut.trans (by repeat (first|(with_reducible first|exact HK.out|apply eS|apply eN|apply eD|apply eA|refine keep_far ?_ GW101.out _|refine keep_far ?_ GW108.out _)|exact HK.out)) hk (.inl rfl));have n5_:=mA (hb);have n6_:=mA (hi);clear BK101 HO106 BK108 HO113 HK HB HI0;have BK101:=n0_;have HO106:=n1_;have BK108:=n2_;have HO113:=n3_;have HK:=n4_;have HB:=n5_;have HI0:=n6_;clear n0_ n1_ n2_ n3_ n4_ n5_ n6_;(try clear hb);(try clear hb2);(try clear hk);(try clear hi);obtain ⟨Ao24,co24,eo24⟩:=Kd.R_slice HO113.out;subst eo24;have p116:0≤(t114:Int):=of_decide_eq_true (by first|(with_reducible assumption)|assumption);have q116:t114<(y111.length:Int):=of_decide_eq_true (by first|(with_reducible assumption)|assumption);obtain ⟨ad116,e116,hx116_0⟩:=Kd.at_int (rR HO113.out).2.2 t114 p116 q116;cases e116;replace p116:=eq_true p116;replace q116:=eq_true q116;have hcz25_0:w23.cell? ⟨gb108,0,none⟩=some (.int .i64 t102):=(kC BK108.out 0).trans rfl;have hcz25_1:w23.cell? ⟨gb108,1,none⟩=some (.slice Ao15 t104.length co15):=(kC BK108.out 1).trans rfl;have hfz25_0:=kF BK108.out 0;have hfz25_1:=kF BK108.out 1;have hnb26:=NB101_0.out;have hnc26:=NB0_101.out;have hcz27_0:w23.cell? ⟨gb101,0,none⟩=some (.int .i64 0):=(kC BK101.out 0).trans rfl;have hcz27_1:w23.cell? ⟨gb101,1,none⟩=some (.slice none 0 0):=(kC BK101.out 1).trans rfl;have hfz27_0:=kF BK101.out 0;have hfz27_1:=kF BK101.out 1))
    refine bodyPost_ret (results_cell_row rfl _ _ gb101 36 #[.int .i64 (rd y111 t114),.slice Ao15 t104.length co15] (0,0) _ rfl (by (with_reducible repeat (first|refine kN ?_ _|refine kD ?_|refine kA ?_ _));refine blk_put (cs:=#[.int .i64 (rd y111 t114),.slice none 0 0]) ?_ 1 _ rfl;(with_reducible repeat (first|refine kN ?_ _|refine kD ?_|refine kA ?_ _));refine blk_put (cs:=#[.int .i64 0,.slice none 0 0]) ?_ 0 _ rfl;(with_reducible repeat (first|refine kN ?_ _|refine kD ?_|refine kA ?_ _));refine blk_far ?_ NB101_108.out _;(with_reducible repeat (first|refine kN ?_ _|refine kD ?_|refine kA ?_ _));exact BK101.out) Try.underlying36 rfl (by kernel_rfl)) rfl ?_
    exact ⟨_,by first|rfl|(simp [errW_none,errW_some]<;>rfl)|(simp only [←hji4];first|rfl|(simp [errW_none,errW_some]<;>rfl))|(simp [*, errW_none,errW_some]<;>rfl),by (with_reducible repeat (first|apply rA|apply rN|apply rD));exact rM (rF (p:=⟨gb101,1,none⟩) (rF (p:=⟨gb101,0,none⟩) (rF (p:=⟨gb108,0,none⟩) (Kd.R_types (Kd.R_types HO106.out BK108.out (by decide)) BK101.out (by decide)) (fun _ hk=>hk.1.2) (.int .i64 (rd y111 t114))) (fun _ hk=>hk.2) (.int .i64 (rd y111 t114))) (fun _ hk=>hk.2) (.slice Ao15 t104.length co15)) (fun _ hk=>trivial),by repeat (first|(with_reducible first|exact HI0.out|apply IsS113.alloc|apply IsS113.drewN|apply IsS113.drew|apply IsS113.set_1|refine IsS113.far ?_ NB0_101.out _|refine IsS113.far ?_ NB0_108.out _)|exact HI0.out),by repeat (first|(with_reducible first|exact HB.out|apply bA|apply bN|apply bD|refine bS ?_ (IsS113.ge HI0.out)|refine bS ?_ GE101.out|refine bS ?_ GE108.out)|exact HB.out),by repeat (first|(with_reducible first|exact HK.out|apply eS|apply eN|apply eD|apply eA|refine keep_far ?_ GW101.out _|refine keep_far ?_ GW108.out _)|exact HK.out)⟩
   ·rw [if_neg c11] at H
    exact absurd H (by simp)
  ·rw [if_neg c10] at H
   exact absurd H (by simp)
 ·replace c8:=Bool.eq_false_iff.mpr c8
  subst c8
  have H1:(some (t102,t104,t110))=some (r1,r2,r3):=by rw [if_neg (show ¬ (false=true) by decide)] at H;exact H
  clear H
  have H:=H1
  clear H1
  simp only [Option.some.injEq,Prod.mk.injEq] at H
  obtain ⟨rfl,rfl,rfl⟩:=H
  go_enter Try.func138,Try.ntmps138
  go_wp2_with (first|((with_reducible refine gate_dst (N:=6) rfl ?_);refine box_event ?hg (N:=6) ?hd (cs:=#[.int .i64 0,.slice none 0 0]) (t:=36) ?hr ?_;(case hd=>rfl);(case hg=>rfl);(case hr=>first|(go_simp;done)|(go_simp;rfl));intro gb101 hg w28 hbox hb;have n0_:=mA (IsS113.below (by repeat (first|(with_reducible first|exact HI0.out|apply IsS113.alloc|apply IsS113.drewN|apply IsS113.drew|apply IsS113.set_1)|exact HI0.out)) hb);have n1_:=mA (KeepBut.trans (by repeat (first|(with_reducible first|exact HK.out|apply eS|apply eN|apply eD|apply eA)|exact HK.out)) (KeepBut.of_below hb g none) (.inl rfl));have n2_:=mA (bT (by repeat (first|(with_reducible first|exact HB.out|apply bA|apply bN|apply bD|refine bS ?_ (IsS113.ge HI0.out))|exact HB.out)) hb);have n3_:=mA (hbox);have n4_:=mA ((by rw [hg];exact (keep_size (w:=w) (g:=g) (row:=none) (by repeat (first|(with_reducible first|exact HK.out|apply eS|apply eN|apply eD|apply eA)|exact HK.out))):w.heap.size≤gb101));have n5_:=mA ((Nat.le_trans HW0.out (by rw [hg];exact (keep_size (w:=w) (g:=g) (row:=none) (by repeat (first|(with_reducible first|exact HK.out|apply eS|apply eN|apply eD|apply eA)|exact HK.out))):w.heap.size≤gb101):w0.heap.size≤gb101));have n6_:=mA ((by rw [hg];exact Nat.ne_of_lt (IsS113.lt (show IsS113 w0 _ g s0_0 s0_1 from by repeat (first|(with_reducible first|exact HI0.out|apply IsS113.alloc|apply IsS113.drewN|apply IsS113.drew|apply IsS113.set_1)|exact HI0.out))):g≠gb101));have n7_:=mA ((by rw [hg];exact Nat.ne_of_gt (IsS113.lt (show IsS113 w0 _ g s0_0 s0_1 from by repeat (first|(with_reducible first|exact HI0.out|apply IsS113.alloc|apply IsS113.drewN|apply IsS113.drew|apply IsS113.set_1)|exact HI0.out))):gb101≠g));clear HI0 HK HB;have HI0:=n0_;have HK:=n1_;have HB:=n2_;have BK101:=n3_;have GW101:=n4_;have GE101:=n5_;have NB0_101:=n6_;have NB101_0:=n7_;clear n0_ n1_ n2_ n3_ n4_ n5_ n6_ n7_ hb hbox hg)|((with_reducible refine gate_callee (f:=108) rfl ?_);refine goesL_ (some 11) rfl rfl Try.func108 (by kernel_rfl) rfl #[.pointer (some ⟨g,0,none⟩),.int .i64 ji4] rfl (by (try simp only [mT,mC,mN]);first|done|(simp only [hji4];rfl)|rfl|(simp only [lD,lT];rfl)) ?_;(with_reducible refine (spec_l20Rd_pick.calls k g s0_0 s0_1 ji4 t102 t103 w0 _ ?side1 ?side2 A5.out).mono ?_);(case side1=>repeat (first|(with_reducible first|exact HI0.out|apply IsS113.alloc|apply IsS113.drewN|apply IsS113.drew|apply IsS113.set_1|refine IsS113.far ?_ NB0_101.out _)|exact HI0.out));(case side2=>repeat (first|(with_reducible first|exact HB.out|apply bA|apply bN|apply bD|refine bS ?_ (IsS113.ge HI0.out)|refine bS ?_ GE101.out)|exact HB.out));rintro e w29 ⟨rfl,hi,hb,hk⟩;refine ⟨_,rfl,?_⟩;have n0_:=mA (KeepBut.blk hk (g':=gb101) (o:=.cells #[.int .i64 0,.slice none 0 0] 36 (0,0)) (by (with_reducible repeat (first|refine kN ?_ _|refine kD ?_|refine kA ?_ _));exact BK101.out) NB101_0.out (by simp));have n1_:=mA (KeepBut.trans (by repeat (first|(with_reducible first|exact HK.out|apply eS|apply eN|apply eD|apply eA|refine keep_far ?_ GW101.out _)|exact HK.out)) hk (.inl rfl));have n2_:=mA (hb);have n3_:=mA (hi);clear BK101 HK HB HI0;have BK101:=n0_;have HK:=n1_;have HB:=n2_;have HI0:=n3_;clear n0_ n1_ n2_ n3_;(try clear hb);(try clear hb2);(try clear hk);(try clear hi))|((with_reducible refine gate_callee (f:=128) rfl ?_);refine goesL_ (some 16) rfl rfl Try.func128 (by kernel_rfl) rfl #[.pointer (some ⟨g,0,none⟩),.int .i64 a1,.int .i64 (wrap64 (a2*2))] rfl (by (try simp only [mT,mC,mN]);first|done|rfl|(simp only [lD,lT];rfl)) ?_;(with_reducible refine (spec_l20Term.calls k g s0_0 t103 a1 (wrap64 (a2*2)) t104 t107 w0 _ ?side1 ?side2 A6.out).mono ?_);(case side1=>repeat (first|(with_reducible first|exact HI0.out|apply IsS113.alloc|apply IsS113.drewN|apply IsS113.drew|apply IsS113.set_1|refine IsS113.far ?_ NB0_101.out _)|exact HI0.out));(case side2=>repeat (first|(with_reducible first|exact HB.out|apply bA|apply bN|apply bD|refine bS ?_ (IsS113.ge HI0.out)|refine bS ?_ GE101.out)|exact HB.out));rintro e w30 ⟨v105,rfl,ho0,hi,hb,hk⟩;refine ⟨_,rfl,?_⟩;have n0_:=mA (KeepBut.blk hk (g':=gb101) (o:=.cells #[.int .i64 0,.slice none 0 0] 36 (0,0)) (by (with_reducible repeat (first|refine kN ?_ _|refine kD ?_|refine kA ?_ _));exact BK101.out) NB101_0.out (by simp));have n1_:=mA (Kd.R_lower ho0 (keep_size (w:=w) (g:=g) (row:=none) (by repeat (first|(with_reducible first|exact HK.out|apply eS|apply eN|apply eD|apply eA|refine keep_far ?_ GW101.out _)|exact HK.out))));have n2_:=mA (KeepBut.trans (by repeat (first|(with_reducible first|exact HK.out|apply eS|apply eN|apply eD|apply eA|refine keep_far ?_ GW101.out _)|exact HK.out)) hk (.inl rfl));have n3_:=mA (hb);have n4_:=mA (hi);clear BK101 HK HB HI0;have BK101:=n0_;have HO106:=n1_;have HK:=n2_;have HB:=n3_;have HI0:=n4_;clear n0_ n1_ n2_ n3_ n4_;(try clear hb);(try clear hb2);(try clear hk);(try clear hi);(try clear ho0);obtain ⟨Ao31,co31,eo31⟩:=Kd.R_slice HO106.out;subst eo31)|((with_reducible refine gate_dst (N:=7) rfl ?_);refine box_event ?hg (N:=7) ?hd (cs:=#[.int .i64 0,.slice none 0 0]) (t:=36) ?hr ?_;(case hd=>rfl);(case hg=>rfl);(case hr=>first|(go_simp;done)|(go_simp;rfl));intro gb108 hg w32 hbox hb;have n0_:=mA (rB (by (with_reducible repeat (first|apply rA|apply rN|apply rD));exact HO106.out) hb);have n1_:=mA (IsS113.below (by repeat (first|(with_reducible first|exact HI0.out|apply IsS113.alloc|apply IsS113.drewN|apply IsS113.drew|apply IsS113.set_1|refine IsS113.far ?_ NB0_101.out _)|exact HI0.out)) hb);have n2_:=mA (blk_below (g:=gb101) (o:=.cells #[.int .i64 0,.slice none 0 0] 36 (0,0)) (by (with_reducible repeat (first|refine kN ?_ _|refine kD ?_|refine kA ?_ _));exact BK101.out) hb);have n3_:=mA (KeepBut.trans (by repeat (first|(with_reducible first|exact HK.out|apply eS|apply eN|apply eD|apply eA|refine keep_far ?_ GW101.out _)|exact HK.out)) (KeepBut.of_below hb g none) (.inl rfl));have n4_:=mA (bT (by repeat (first|(with_reducible first|exact HB.out|apply bA|apply bN|apply bD|refine bS ?_ (IsS113.ge HI0.out)|refine bS ?_ GE101.out)|exact HB.out)) hb);have n5_:=mA (hbox);have n6_:=mA ((by rw [hg];exact (keep_size (w:=w) (g:=g) (row:=none) (by repeat (first|(with_reducible first|exact HK.out|apply eS|apply eN|apply eD|apply eA|refine keep_far ?_ GW101.out _)|exact HK.out))):w.heap.size≤gb108));have n7_:=mA ((Nat.le_trans HW0.out (by rw [hg];exact (keep_size (w:=w) (g:=g) (row:=none) (by repeat (first|(with_reducible first|exact HK.out|apply eS|apply eN|apply eD|apply eA|refine keep_far ?_ GW101.out _)|exact HK.out))):w.heap.size≤gb108):w0.heap.size≤gb108));have n8_:=mA ((by rw [hg];exact Nat.ne_of_lt (blk_lt (g:=gb101) (o:=.cells #[.int .i64 0,.slice none 0 0] 36 (0,0)) (by (with_reducible repeat (first|refine kN ?_ _|refine kD ?_|refine kA ?_ _));exact BK101.out)):gb101≠gb108));have n9_:=mA ((by rw [hg];exact Nat.ne_of_gt (blk_lt (g:=gb101) (o:=.cells #[.int .i64 0,.slice none 0 0] 36 (0,0)) (by (with_reducible repeat (first|refine kN ?_ _|refine kD ?_|refine kA ?_ _));exact BK101.out)):gb108≠gb101));have n10_:=mA ((by rw [hg];exact Nat.ne_of_lt (IsS113.lt (show IsS113 w0 _ g s0_0 t107 from by repeat (first|(with_reducible first|exact HI0.out|apply IsS113.alloc|apply IsS113.drewN|apply IsS113.drew|apply IsS113.set_1|refine IsS113.far ?_ NB0_101.out _)|exact HI0.out))):g≠gb108));have n11_:=mA ((by rw [hg];exact Nat.ne_of_gt (IsS113.lt (show IsS113 w0 _ g s0_0 t107 from by repeat (first|(with_reducible first|exact HI0.out|apply IsS113.alloc|apply IsS113.drewN|apply IsS113.drew|apply IsS113.set_1|refine IsS113.far ?_ NB0_101.out _)|exact HI0.out))):gb108≠g));clear HO106 HI0 BK101 HK HB;have HO106:=n0_;have HI0:=n1_;have BK101:=n2_;have HK:=n3_;have HB:=n4_;have BK108:=n5_;have GW108:=n6_;have GE108:=n7_;have NB101_108:=n8_;have NB108_101:=n9_;have NB0_108:=n10_;have NB108_0:=n11_;clear n0_ n1_ n2_ n3_ n4_ n5_ n6_ n7_ n8_ n9_ n10_ n11_ hb hbox hg;have hnb33:=NB108_101.out;have hnc33:=NB101_108.out;have hnb34:=NB108_0.out;have hnc34:=NB0_108.out;have hcz35_0:w32.cell? ⟨gb108,0,none⟩=some (.int .i64 0):=(kC BK108.out 0).trans rfl;have hcz35_1:w32.cell? ⟨gb108,1,none⟩=some (.slice none 0 0):=(kC BK108.out 1).trans rfl;have hfz35_0:=kF BK108.out 0;have hfz35_1:=kF BK108.out 1)|((with_reducible refine gate_callee (f:=139) rfl ?_);refine goesL_ (some 20) rfl rfl Try.func139 (by kernel_rfl) rfl #[.pointer (some ⟨g,0,none⟩),.int .i64 a2] rfl (by (try simp only [mT,mC,mN]);first|done|rfl|(simp only [lD,lT];rfl)) ?_;(with_reducible refine (spec_l20Rd_odd.calls k g s0_0 t107 a2 false t110 w0 _ ?side1 ?side2 A7.out).mono ?_);(case side1=>repeat (first|(with_reducible first|exact HI0.out|apply IsS113.alloc|apply IsS113.drewN|apply IsS113.drew|apply IsS113.set_1|refine IsS113.far ?_ NB0_101.out _|refine IsS113.far ?_ NB0_108.out _)|exact HI0.out));(case side2=>repeat (first|(with_reducible first|exact HB.out|apply bA|apply bN|apply bD|refine bS ?_ (IsS113.ge HI0.out)|refine bS ?_ GE101.out|refine bS ?_ GE108.out)|exact HB.out));rintro e w36 ⟨rfl,hi,hb,hk⟩;refine ⟨_,rfl,?_⟩;have n0_:=mA (KeepBut.blk hk (g':=gb101) (o:=.cells #[.int .i64 0,.slice none 0 0] 36 (0,0)) (by (with_reducible repeat (first|refine kN ?_ _|refine kD ?_|refine kA ?_ _));refine blk_far ?_ NB101_108.out _;(with_reducible repeat (first|refine kN ?_ _|refine kD ?_|refine kA ?_ _));refine blk_far ?_ NB101_108.out _;(with_reducible repeat (first|refine kN ?_ _|refine kD ?_|refine kA ?_ _));exact BK101.out) NB101_0.out (by simp));have n1_:=mA (rM (Kd.R_keep (IsS113.apart (show IsS113 w0 _ g s0_0 t107 from by repeat (first|(with_reducible first|exact HI0.out|apply IsS113.alloc|apply IsS113.drewN|apply IsS113.drew|apply IsS113.set_1|refine IsS113.far ?_ NB0_101.out _|refine IsS113.far ?_ NB0_108.out _)|exact HI0.out)) (by (with_reducible repeat (first|apply rA|apply rN|apply rD));exact (rM (rF (p:=⟨gb108,1,none⟩) (rF (p:=⟨gb108,0,none⟩) (Kd.R_types HO106.out BK108.out (by decide)) (fun _ hk=>hk.2) (.int .i64 t102)) (fun _ hk=>hk.2) (.slice Ao31 t104.length co31)) (fun _ h_=>h_.1))) (by decide)) hk (fun _ h=>h.2)) (fun _ h=>h.1));have n2_:=mA (KeepBut.blk hk (g':=gb108) (o:=.cells #[.int .i64 t102,.slice Ao31 t104.length co31] 36 (0,0)) (by (with_reducible repeat (first|refine kN ?_ _|refine kD ?_|refine kA ?_ _));refine blk_put (cs:=#[.int .i64 t102,.slice none 0 0]) ?_ 1 _ rfl;(with_reducible repeat (first|refine kN ?_ _|refine kD ?_|refine kA ?_ _));refine blk_put (cs:=#[.int .i64 0,.slice none 0 0]) ?_ 0 _ rfl;(with_reducible repeat (first|refine kN ?_ _|refine kD ?_|refine kA ?_ _));exact BK108.out) NB108_0.out (by simp));have n3_:=mA (KeepBut.trans (by repeat (first|(with_reducible first|exact HK.out|apply eS|apply eN|apply eD|apply eA|refine keep_far ?_ GW101.out _|refine keep_far ?_ GW108.out _)|exact HK.out)) hk (.inl rfl));have n4_:=mA (hb);have n5_:=mA (hi);clear BK101 HO106 BK108 HK HB HI0;have BK101:=n0_;have HO106:=n1_;have BK108:=n2_;have HK:=n3_;have HB:=n4_;have HI0:=n5_;clear n0_ n1_ n2_ n3_ n4_ n5_;(try clear hb);(try clear hb2);(try clear hk);(try clear hi);have hcz37_0:w36.cell? ⟨gb108,0,none⟩=some (.int .i64 t102):=(kC BK108.out 0).trans rfl;have hcz37_1:w36.cell? ⟨gb108,1,none⟩=some (.slice Ao31 t104.length co31):=(kC BK108.out 1).trans rfl;have hfz37_0:=kF BK108.out 0;have hfz37_1:=kF BK108.out 1;have hnb38:=NB101_0.out;have hnc38:=NB0_101.out;have hcz39_0:w36.cell? ⟨gb101,0,none⟩=some (.int .i64 0):=(kC BK101.out 0).trans rfl;have hcz39_1:w36.cell? ⟨gb101,1,none⟩=some (.slice none 0 0):=(kC BK101.out 1).trans rfl;have hfz39_0:=kF BK101.out 0;have hfz39_1:=kF BK101.out 1))
  refine bodyPost_ret (results_cell_row rfl _ _ gb101 36 #[.int .i64 t102,.slice Ao31 t104.length co31] (0,0) _ rfl (by (with_reducible repeat (first|refine kN ?_ _|refine kD ?_|refine kA ?_ _));refine blk_put (cs:=#[.int .i64 t102,.slice none 0 0]) ?_ 1 _ rfl;(with_reducible repeat (first|refine kN ?_ _|refine kD ?_|refine kA ?_ _));refine blk_put (cs:=#[.int .i64 0,.slice none 0 0]) ?_ 0 _ rfl;(with_reducible repeat (first|refine kN ?_ _|refine kD ?_|refine kA ?_ _));exact BK101.out) Try.underlying36 rfl (by kernel_rfl)) rfl ?_
  exact ⟨_,by first|rfl|(simp [errW_none,errW_some]<;>rfl)|(simp only [←hji4];first|rfl|(simp [errW_none,errW_some]<;>rfl))|(simp [*, errW_none,errW_some]<;>rfl),by (with_reducible repeat (first|apply rA|apply rN|apply rD));exact rM (rF (p:=⟨gb101,1,none⟩) (rF (p:=⟨gb101,0,none⟩) (Kd.R_types HO106.out BK101.out (by decide)) (fun _ hk=>hk.2) (.int .i64 t102)) (fun _ hk=>hk.2) (.slice Ao31 t104.length co31)) (fun _ hk=>trivial),by repeat (first|(with_reducible first|exact HI0.out|apply IsS113.alloc|apply IsS113.drewN|apply IsS113.drew|apply IsS113.set_1|refine IsS113.far ?_ NB0_101.out _|refine IsS113.far ?_ NB0_108.out _)|exact HI0.out),by repeat (first|(with_reducible first|exact HB.out|apply bA|apply bN|apply bD|refine bS ?_ (IsS113.ge HI0.out)|refine bS ?_ GE101.out|refine bS ?_ GE108.out)|exact HB.out),by repeat (first|(with_reducible first|exact HK.out|apply eS|apply eN|apply eD|apply eA|refine keep_far ?_ GW101.out _|refine keep_far ?_ GW108.out _)|exact HK.out)⟩
/-! ### spec_l20Story: function 96 -/
mutual
def spec_l20Story.l0:Nat→Int→Int→List (S36)→Int→List Int→Int→Option (Int×(List (S36))×Int)
 | 0,_,_,_,_,_,_=>none
 | k+1,x1,x6,x7,x8,x1000,x1001=>if x8>0 then ((spec_l20Claim.f k x1000 x1001 x6 (wrap64 (x1*3))).bind fun bt108=>(if x7.length<4398046511104 then (spec_l20Story.l0 k x1 x6 (x7++[(⟨bt108.1,bt108.2.1⟩:S36)]) (wrap64 (x8-1)) x1000 bt108.2.2) else (none))) else ((spec_l20Rd_odd.f k x1000 x1001 x1).bind fun bt116=>(if bt116.1=true then (spec_l20Story.l1 k x6 x7 x1000 bt116.2) else (some (x6,x7,bt116.2))))
def spec_l20Story.l1:Nat→Int→List (S36)→List Int→Int→Option (Int×(List (S36))×Int)
 | 0,_,_,_,_=>none
 | k+1,x6,x7,x1000,x1001=>if (x7.length:Int)<7 then (if x7.length<4398046511104 then (spec_l20Story.l1 k x6 (x7++[(⟨0,(([(⟨0,0⟩:S33)]:List (S33)))⟩:S36)]) x1000 x1001) else (none)) else (some (x6,x7,x1001))
end
def spec_l20Story.f (k:Nat) (s0_0:List Int) (s0_1:Int) (a1:Int):Option (Int×(List (S36))×Int):=(spec_l20Rd_pick.f k s0_0 s0_1 4).bind fun bt101=>((spec_l20Rd_pick.f k s0_0 bt101.2 5).bind fun bt106=>(spec_l20Story.l0 k a1 (wrap64 (1+bt101.1)) (([]:List (S36))) bt106.1 s0_0 bt106.2))
theorem spec_l20Story.mono_l : ∀ k,(∀ y0 y1 y2 y3 y4 y5,LeO (spec_l20Story.l0 k y0 y1 y2 y3 y4 y5) (spec_l20Story.l0 (k+1) y0 y1 y2 y3 y4 y5))∧(∀ y0 y1 y2 y3,LeO (spec_l20Story.l1 k y0 y1 y2 y3) (spec_l20Story.l1 (k+1) y0 y1 y2 y3))
 | 0=>⟨fun _ _ _ _ _ _ r h=>by simp [spec_l20Story.l0] at h,fun _ _ _ _ r h=>by simp [spec_l20Story.l1] at h⟩
 | k+1=>by
  obtain ⟨ih0,ih1⟩:=spec_l20Story.mono_l k
  refine ⟨?_,?_⟩
  ·intro y0 y1 y2 y3 y4 y5
   unfold spec_l20Story.l0
   repeat' first
   | (with_reducible exact ih0 _ _ _ _ _ _)
   | (with_reducible exact ih1 _ _ _ _)
   | (with_reducible exact spec_l20Claim.mono _ _ _ _ _)
   | (with_reducible exact spec_l20Rd_odd.mono _ _ _ _)
   | (with_reducible exact spec_l20Rd_pick.mono _ _ _ _)
   | (with_reducible exact LeO.refl _)
   | (with_reducible exact LeO.none _)
   | (with_reducible refine LeO.ite ?_ ?_)
   | (with_reducible refine LeO.bind ?_ (fun _=>?_))
   | exact ih0 _ _ _ _ _ _
   | exact ih1 _ _ _ _
   | exact spec_l20Claim.mono _ _ _ _ _
   | exact spec_l20Rd_odd.mono _ _ _ _
   | exact spec_l20Rd_pick.mono _ _ _ _
   | exact LeO.none _
   | refine LeO.ite ?_ ?_
   | refine LeO.bind ?_ (fun _=>?_)
  ·intro y0 y1 y2 y3
   unfold spec_l20Story.l1
   repeat' first
   | (with_reducible exact ih0 _ _ _ _ _ _)
   | (with_reducible exact ih1 _ _ _ _)
   | (with_reducible exact spec_l20Claim.mono _ _ _ _ _)
   | (with_reducible exact spec_l20Rd_odd.mono _ _ _ _)
   | (with_reducible exact spec_l20Rd_pick.mono _ _ _ _)
   | (with_reducible exact LeO.refl _)
   | (with_reducible exact LeO.none _)
   | (with_reducible refine LeO.ite ?_ ?_)
   | (with_reducible refine LeO.bind ?_ (fun _=>?_))
   | exact ih0 _ _ _ _ _ _
   | exact ih1 _ _ _ _
   | exact spec_l20Claim.mono _ _ _ _ _
   | exact spec_l20Rd_odd.mono _ _ _ _
   | exact spec_l20Rd_pick.mono _ _ _ _
   | exact LeO.none _
   | refine LeO.ite ?_ ?_
   | refine LeO.bind ?_ (fun _=>?_)
theorem spec_l20Story.mono : ∀ a0 a1 a2 k,LeO (spec_l20Story.f k a0 a1 a2) (spec_l20Story.f (k+1) a0 a1 a2):=by
 intro a0 a1 a2 k
 obtain ⟨ih0,ih1⟩:=spec_l20Story.mono_l k
 unfold spec_l20Story.f
 repeat' first
   | (with_reducible exact ih0 _ _ _ _ _ _)
   | (with_reducible exact ih1 _ _ _ _)
   | (with_reducible exact spec_l20Claim.mono _ _ _ _ _)
   | (with_reducible exact spec_l20Rd_odd.mono _ _ _ _)
   | (with_reducible exact spec_l20Rd_pick.mono _ _ _ _)
   | (with_reducible exact LeO.refl _)
   | (with_reducible exact LeO.none _)
   | (with_reducible refine LeO.ite ?_ ?_)
   | (with_reducible refine LeO.bind ?_ (fun _=>?_))
   | exact ih0 _ _ _ _ _ _
   | exact ih1 _ _ _ _
   | exact spec_l20Claim.mono _ _ _ _ _
   | exact spec_l20Rd_odd.mono _ _ _ _
   | exact spec_l20Rd_pick.mono _ _ _ _
   | exact LeO.none _
   | refine LeO.ite ?_ ?_
   | refine LeO.bind ?_ (fun _=>?_)
set_option maxHeartbeats 8000000 in
set_option maxRecDepth 100000 in
theorem spec_l20Story.calls (k:Nat) (g:Nat) (s0_0:List Int) (s0_1:Int) (a1:Int) (r1:Int) (r2:List (S36)) (r3:Int) (w0 w:World) (hI:IsS113 w0 w g s0_0 s0_1) (hB:Below w0.heap.size w0 w) (h:spec_l20Story.f k s0_0 s0_1 a1=some (r1,r2,r3)) :
  Calls Try.prog 96 #[.pointer (some ⟨g,0,none⟩),.int .i64 a1] w fun e w'=>∃ v1_:Value,e = .returned (.tuple #[.int .i64 r1,v1_])∧Kd.S k36 36 w' w.heap.size (fun _=>True) v1_ r2∧IsS113 w0 w' g s0_0 r3∧Below w0.heap.size w0 w'∧KeepBut w w' g none:=by
 have hu33:=Try.underlying33
 have hu36:=Try.underlying36
 have HI0:=mA hI
 have HK:=mA (KeepBut.refl w g none)
 have HL:=mA hB.size
 clear hI
 have HW0:=mA hB.size
 have HB:=mA hB
 clear hB
 have H:((spec_l20Rd_pick.f k s0_0 s0_1 4).bind fun bt101=>((spec_l20Rd_pick.f k s0_0 bt101.2 5).bind fun bt106=>(spec_l20Story.l0 k a1 (wrap64 (1+bt101.1)) (([]:List (S36))) bt106.1 s0_0 bt106.2)))=some (r1,r2,r3):=h
 clear h
 replace H:=Option.bind_eq_some_iff.mp H
 obtain ⟨⟨t101,t102⟩,A30,H⟩:=H
 replace H:((spec_l20Rd_pick.f k s0_0 t102 5).bind fun bt106=>(spec_l20Story.l0 k a1 (wrap64 (1+t101)) (([]:List (S36))) bt106.1 s0_0 bt106.2))=some (r1,r2,r3):=H
 have A3:=mA A30
 clear A30
 obtain ⟨y103,hy103⟩ : ∃ y_:List (S36),y_=(([]:List (S36))):=⟨_,rfl⟩
 replace H:((spec_l20Rd_pick.f k s0_0 t102 5).bind fun bt106=>(spec_l20Story.l0 k a1 (wrap64 (1+t101)) y103 bt106.1 s0_0 bt106.2))=some (r1,r2,r3):=by first|(rw [hy103];with_reducible exact H)|(have H2_:=(Option.bind_some _ _).symm.trans H;rw [hy103];with_reducible exact H2_)|(have H2_:=(Option.bind_some _ _).symm.trans H;with_reducible exact H2_)|with_reducible exact H|(rw [hy103];exact H)|exact H
 have Ny103:=mA hy103
 clear hy103
 replace H:=Option.bind_eq_some_iff.mp H
 obtain ⟨⟨t106,t107⟩,A40,H⟩:=H
 replace H:(spec_l20Story.l0 k a1 (wrap64 (1+t101)) y103 t106 s0_0 t107)=some (r1,r2,r3):=H
 have A4:=mA A40
 clear A40
 have H':=mA H
 clear H
 go_enter Try.func96,Try.ntmps96
 go_wp2_with (first|((with_reducible refine gate_callee (f:=108) rfl ?_);refine goesL_ (some 10) rfl rfl Try.func108 (by kernel_rfl) rfl #[.pointer (some ⟨g,0,none⟩),.int .i64 4] rfl (by (try simp only [mT,mC,mN]);first|done|rfl|(simp only [lD,lT];rfl)) ?_;(with_reducible refine (spec_l20Rd_pick.calls k g s0_0 s0_1 4 t101 t102 w0 _ ?side1 ?side2 A3.out).mono ?_);(case side1=>repeat (first|(with_reducible first|exact HI0.out|apply IsS113.alloc|apply IsS113.drewN|apply IsS113.drew|apply IsS113.set_1)|exact HI0.out));(case side2=>repeat (first|(with_reducible first|exact HB.out|apply bA|apply bN|apply bD|refine bS ?_ (IsS113.ge HI0.out))|exact HB.out));rintro e w5 ⟨rfl,hi,hb,hk⟩;refine ⟨_,rfl,?_⟩;have n0_:=mA (KeepBut.trans (by repeat (first|(with_reducible first|exact HK.out|apply eS|apply eN|apply eD|apply eA)|exact HK.out)) hk (.inl rfl));have n1_:=mA (hb);have n2_:=mA (hi);clear HK HB HI0;have HK:=n0_;have HB:=n1_;have HI0:=n2_;clear n0_ n1_ n2_;(try clear hb);(try clear hb2);(try clear hk);(try clear hi))|((with_reducible refine gate_dst (N:=12) rfl ?_);refine Kd.S_lit k36 _ 36 ?hg (N:=12) ?hd (xs:=([]:List (S36))) (inner:=[]) (ok:=fun _=>True) (okp:=fun _=>True) ?hr ?hp (fun _ hk=>hk) trivial (Below.refl _ _) (Nat.le_refl _) (by simp) ?_;(case hd=>rfl);(case hg=>rfl);(case hr=>first|(go_simp;done)|(go_simp;rfl));(case hp=>exact (Reps.none _ _));intro v104 w6 ho7 hb hg_ hnew_;clear hg_ hnew_;(first|rw [←Ny103.out] at ho7|(simp only [Int.reduceToNat] at ho7;rw [←Ny103.out] at ho7));have n0_:=mA (Kd.S_lower ho7 (keep_size (w:=w) (g:=g) (row:=none) (by repeat (first|(with_reducible first|exact HK.out|apply eS|apply eN|apply eD|apply eA)|exact HK.out))));have n1_:=mA (IsS113.below (by repeat (first|(with_reducible first|exact HI0.out|apply IsS113.alloc|apply IsS113.drewN|apply IsS113.drew|apply IsS113.set_1)|exact HI0.out)) hb);have n2_:=mA (KeepBut.trans (by repeat (first|(with_reducible first|exact HK.out|apply eS|apply eN|apply eD|apply eA)|exact HK.out)) (KeepBut.of_below hb g none) (.inl rfl));have n3_:=mA (bT (by repeat (first|(with_reducible first|exact HB.out|apply bA|apply bN|apply bD|refine bS ?_ (IsS113.ge HI0.out))|exact HB.out)) hb);clear HI0 HK HB;have HO105:=n0_;have HI0:=n1_;have HK:=n2_;have HB:=n3_;clear n0_ n1_ n2_ n3_ hb ho7)|((with_reducible refine gate_callee (f:=108) rfl ?_);refine goesL_ (some 14) rfl rfl Try.func108 (by kernel_rfl) rfl #[.pointer (some ⟨g,0,none⟩),.int .i64 5] rfl (by (try simp only [mT,mC,mN]);first|done|rfl|(simp only [lD,lT];rfl)) ?_;(with_reducible refine (spec_l20Rd_pick.calls k g s0_0 t102 5 t106 t107 w0 _ ?side1 ?side2 A4.out).mono ?_);(case side1=>repeat (first|(with_reducible first|exact HI0.out|apply IsS113.alloc|apply IsS113.drewN|apply IsS113.drew|apply IsS113.set_1)|exact HI0.out));(case side2=>repeat (first|(with_reducible first|exact HB.out|apply bA|apply bN|apply bD|refine bS ?_ (IsS113.ge HI0.out))|exact HB.out));rintro e w8 ⟨rfl,hi,hb,hk⟩;refine ⟨_,rfl,?_⟩;have n0_:=mA (Kd.S_mono (Kd.S_keep (IsS113.apartS (show IsS113 w0 _ g s0_0 t102 from by repeat (first|(with_reducible first|exact HI0.out|apply IsS113.alloc|apply IsS113.drewN|apply IsS113.drew|apply IsS113.set_1)|exact HI0.out)) (by (with_reducible repeat (first|apply Kd.S_alloc|apply Kd.S_drewN|apply Kd.S_drew));exact HO105.out) (by decide)) hk (fun _ h=>h.2)) (fun _ h=>h.1));have n1_:=mA (KeepBut.trans (by repeat (first|(with_reducible first|exact HK.out|apply eS|apply eN|apply eD|apply eA)|exact HK.out)) hk (.inl rfl));have n2_:=mA (hb);have n3_:=mA (hi);clear HO105 HK HB HI0;have HO105:=n0_;have HK:=n1_;have HB:=n2_;have HI0:=n3_;clear n0_ n1_ n2_ n3_;(try clear hb);(try clear hb2);(try clear hk);(try clear hi)))
 try simp only [Act.put,sA,sZ,sS]
 go_loopg [7,8] k (fun kq v7 v8 w'=>∃ (x7_1:List (S36)) (x8_1:Int) (x1001_1:Int),v8 = .int .i64 x8_1∧Aside0 (spec_l20Story.l0 kq a1 (wrap64 (1+t101)) x7_1 x8_1 s0_0 x1001_1=some (r1,r2,r3))∧Aside0 (kq≤k)∧Aside0 (Kd.S k36 36 w' w.heap.size (fun _=>True) v7 x7_1)∧Aside0 (IsS113 w0 w' g s0_0 x1001_1)∧Aside0 (KeepBut w w' g none)∧Aside0 (Below w0.heap.size w0 w'))
 case atStart=>exact ⟨(y103),(t106),(t107),(by first|rfl|(simp;done)|(simp [*];done)),H',⟨Nat.le_refl _⟩,⟨by (with_reducible repeat (first|apply Kd.S_alloc|apply Kd.S_drewN|apply Kd.S_drew));exact HO105.out⟩,⟨by repeat (first|(with_reducible first|exact HI0.out|apply IsS113.alloc|apply IsS113.drewN|apply IsS113.drew|apply IsS113.set_1)|exact HI0.out)⟩,⟨by repeat (first|(with_reducible first|exact HK.out|apply eS|apply eN|apply eD|apply eA)|exact HK.out)⟩,⟨by repeat (first|(with_reducible first|exact HB.out|apply bA|apply bN|apply bD|refine bS ?_ (IsS113.ge HI0.out))|exact HB.out)⟩⟩
 case round =>
  clear H'
  try clear c1
  try clear p2
  try clear p6
  obtain ⟨x7_1,x8_1,x1001_1,rfl,HA,HK1,HO_7,HI0,HK,HB⟩:=hrel
  cases gk with
  | zero=>exact absurd HA.out (by simp [spec_l20Story.l0])
  | succ k1 =>
   have H:=HA.out
   clear HA
   simp only [spec_l20Story.l0] at H
   by_cases c9:x8_1>0
   ·rw [if_pos c9] at H
    have c9b0:decide (0<x8_1)=true:=decide_eq_true c9
    clear c9
    replace H:=Option.bind_eq_some_iff.mp H
    obtain ⟨⟨t108,t109,t112⟩,A100,H⟩:=H
    replace H:(if x7_1.length<4398046511104 then (spec_l20Story.l0 k1 a1 (wrap64 (1+t101)) (x7_1++[(⟨t108,t109⟩:S36)]) (wrap64 (x8_1-1)) s0_0 t112) else (none))=some (r1,r2,r3):=H
    have A10:=mA A100
    clear A100
    by_cases c11:x7_1.length<4398046511104
    ·rw [if_pos c11] at H
     have LMc11:=mA c11
     clear c11
     obtain ⟨y113,hy113⟩ : ∃ y_:List (S36),y_=(x7_1++[(⟨t108,t109⟩:S36)]):=⟨_,rfl⟩
     replace H:(spec_l20Story.l0 k1 a1 (wrap64 (1+t101)) y113 (wrap64 (x8_1-1)) s0_0 t112)=some (r1,r2,r3):=by first|(rw [hy113];with_reducible exact H)|(have H2_:=(Option.bind_some _ _).symm.trans H;rw [hy113];with_reducible exact H2_)|(have H2_:=(Option.bind_some _ _).symm.trans H;with_reducible exact H2_)|with_reducible exact H|(rw [hy113];exact H)|exact H
     have Ny113:=mA hy113
     clear hy113
     have H':=mA H
     clear H
     go_wp2_with (first|((with_reducible refine gate_callee (f:=138) rfl ?_);refine goesL_ (some 24) rfl rfl Try.func138 (by kernel_rfl) rfl #[.pointer (some ⟨g,0,none⟩),.int .i64 (wrap64 (1+t101)),.int .i64 (wrap64 (a1*3))] rfl (by (try simp only [mT,mC,mN]);first|done|rfl|(simp only [lD,lT];rfl)) ?_;(with_reducible refine (spec_l20Claim.calls k1 g s0_0 x1001_1 (wrap64 (1+t101)) (wrap64 (a1*3)) t108 t109 t112 w0 _ ?side1 ?side2 A10.out).mono ?_);(case side1=>repeat (first|(with_reducible first|exact HI0.out|apply IsS113.alloc|apply IsS113.drewN|apply IsS113.drew|apply IsS113.set_1)|exact HI0.out));(case side2=>repeat (first|(with_reducible first|exact HB.out|apply bA|apply bN|apply bD|refine bS ?_ (IsS113.ge HI0.out))|exact HB.out));rintro e w12 ⟨v110,rfl,ho0,hi,hb,hk⟩;refine ⟨_,rfl,?_⟩;have n0_:=mA (Kd.S_mono (Kd.S_told (Kd.S_oldK (IsS113.apartS (show IsS113 w0 _ g s0_0 x1001_1 from by repeat (first|(with_reducible first|exact HI0.out|apply IsS113.alloc|apply IsS113.drewN|apply IsS113.drew|apply IsS113.set_1)|exact HI0.out)) (by (with_reducible repeat (first|apply Kd.S_alloc|apply Kd.S_drewN|apply Kd.S_drew));exact HO_7.out) (by decide)) hk) (Kd.R_base ho0)) (fun _ h_=>h_.1));have n1_:=mA (Kd.R_lower ho0 (keep_size (w:=w) (g:=g) (row:=none) (by repeat (first|(with_reducible first|exact HK.out|apply eS|apply eN|apply eD|apply eA)|exact HK.out))));have n2_:=mA (KeepBut.trans (by repeat (first|(with_reducible first|exact HK.out|apply eS|apply eN|apply eD|apply eA)|exact HK.out)) hk (.inl rfl));have n3_:=mA (hb);have n4_:=mA (hi);clear HO_7 HK HB HI0;have HO_7:=n0_;have HO111:=n1_;have HK:=n2_;have HB:=n3_;have HI0:=n4_;clear n0_ n1_ n2_ n3_ n4_;(try clear hb);(try clear hb2);(try clear hk);(try clear hi);(try clear ho0);obtain ⟨Ao14,co14,eo14⟩:=Kd.R_slice HO111.out;subst eo14)|((with_reducible refine gate_builtin (b:=.append) (xs:=#[.tmp 19,.tmp 25]) rfl ?_);at_builtin;refine Kd.S_append k36 w.heap.size rfl (.tmp 19) (.tmp 25) 23 36 (.agg #[(.int .i64 0),(.slice none 0 0)]) 32 rfl Try.underlying23 info36 rfl (by decide) (by omega) u7 x7_1 (⟨t108,t109⟩:S36) [.int .i64 t108,.slice Ao14 t109.length co14] (fun _=>True) (fun k_=>some k_=(.slice Ao14 t109.length co14:Value).ownBlock) rfl rfl ?aP (fun k_ hk_=>((rM (ok':=fun k_=>((fun _=>True)) k_∧some k_≠(u7:Value).ownBlock) (Kd.R_apart' (HO111.out) (Kd.S_typed HO_7.out) (by decide)) (fun k_ hk=>⟨trivial,hk.2⟩))).1 k_ hk_.symm) ?aF ?aO (Below.refl _ _) ?aS ?aL ?_;(case aP=>exact k36_mkM _ _ _ (⟨t108,t109⟩:S36) (rM (Kd.R_tight rfl (rM (ok':=fun k_=>((fun _=>True)) k_∧some k_≠(u7:Value).ownBlock) (Kd.R_apart' (HO111.out) (Kd.S_typed HO_7.out) (by decide)) (fun k_ hk=>⟨trivial,hk.2⟩))) (fun _ h_=>h_)));(case aF=>exact (fun _ _=>trivial));(case aO=>exact (by (with_reducible repeat (first|apply Kd.S_alloc|apply Kd.S_drewN|apply Kd.S_drew));exact Kd.S_mono HO_7.out (fun k_ hk=>⟨trivial,fun e_=>hk.2 e_⟩)));(case aS=>exact (keep_size (w:=w) (g:=g) (row:=none) (by repeat (first|(with_reducible first|exact HK.out|apply eS|apply eN|apply eD|apply eA)|exact HK.out))));(case aL=>have:=LMc11.out;omega);intro v114 w13 ho hb hg hat;rw [←Ny113.out] at ho;have n0_:=mA (IsS113.grown (by repeat (first|(with_reducible first|exact HI0.out|apply IsS113.alloc|apply IsS113.drewN|apply IsS113.drew|apply IsS113.set_1)|exact HI0.out)) hg (IsS113.own_neS HI0.out HO_7.out (by decide)));have n1_:=mA (below_weaken (by repeat (first|(with_reducible first|exact HB.out|apply bA|apply bN|apply bD|refine bS ?_ (IsS113.ge HI0.out))|exact HB.out)) HL.out hb);have n2_:=mA (KeepBut.trans (by repeat (first|(with_reducible first|exact HK.out|apply eS|apply eN|apply eD|apply eA)|exact HK.out)) (KeepBut.of_grown hg g) (Kd.S_base2 HO_7.out));have n3_:=mA (ho);clear HI0 HB HK HO_7 HO111;have HI0:=n0_;have HB:=n1_;have HK:=n2_;have HO115:=n3_;clear n0_ n1_ n2_ n3_ ho hb hg hat))
     go_roundg k1
     case measure=>have:=HK1.out;omega
     case rel=>exact ⟨(y113),(wrap64 (x8_1-1)),(t112),(by first|rfl|(simp;done)|(simp [*];done)),H',⟨by have:=HK1.out;omega⟩,⟨by (with_reducible repeat (first|apply Kd.S_alloc|apply Kd.S_drewN|apply Kd.S_drew));exact HO115.out⟩,⟨by repeat (first|(with_reducible first|exact HI0.out|apply IsS113.alloc|apply IsS113.drewN|apply IsS113.drew|apply IsS113.set_1)|exact HI0.out)⟩,⟨by repeat (first|(with_reducible first|exact HK.out|apply eS|apply eN|apply eD|apply eA)|exact HK.out)⟩,⟨by repeat (first|(with_reducible first|exact HB.out|apply bA|apply bN|apply bD|refine bS ?_ (IsS113.ge HI0.out))|exact HB.out)⟩⟩
    ·rw [if_neg c11] at H
     exact absurd H (by simp)
   ·rw [if_neg c9] at H
    have c9b0:decide (0<x8_1)=false:=decide_eq_false c9
    clear c9
    replace H:=Option.bind_eq_some_iff.mp H
    obtain ⟨⟨t116,t117⟩,A150,H⟩:=H
    replace H:(if t116=true then (spec_l20Story.l1 k1 (wrap64 (1+t101)) x7_1 s0_0 t117) else (some ((wrap64 (1+t101)),x7_1,t117)))=some (r1,r2,r3):=H
    have A15:=mA A150
    clear A150
    by_cases c16:t116=true
    ·subst c16
     have H1:(spec_l20Story.l1 k1 (wrap64 (1+t101)) x7_1 s0_0 t117)=some (r1,r2,r3):=by rw [if_pos rfl] at H;exact H
     clear H
     have H:=H1
     clear H1
     have H':=mA H
     clear H
     go_wp2_with (first|((with_reducible refine gate_callee (f:=139) rfl ?_);refine goesL_ (some 29) rfl rfl Try.func139 (by kernel_rfl) rfl #[.pointer (some ⟨g,0,none⟩),.int .i64 a1] rfl (by (try simp only [mT,mC,mN]);first|done|rfl|(simp only [lD,lT];rfl)) ?_;(with_reducible refine (spec_l20Rd_odd.calls k1 g s0_0 x1001_1 a1 true t117 w0 _ ?side1 ?side2 A15.out).mono ?_);(case side1=>repeat (first|(with_reducible first|exact HI0.out|apply IsS113.alloc|apply IsS113.drewN|apply IsS113.drew|apply IsS113.set_1)|exact HI0.out));(case side2=>repeat (first|(with_reducible first|exact HB.out|apply bA|apply bN|apply bD|refine bS ?_ (IsS113.ge HI0.out))|exact HB.out));rintro e w17 ⟨rfl,hi,hb,hk⟩;refine ⟨_,rfl,?_⟩;have n0_:=mA (Kd.S_mono (Kd.S_keep (IsS113.apartS (show IsS113 w0 _ g s0_0 x1001_1 from by repeat (first|(with_reducible first|exact HI0.out|apply IsS113.alloc|apply IsS113.drewN|apply IsS113.drew|apply IsS113.set_1)|exact HI0.out)) (by (with_reducible repeat (first|apply Kd.S_alloc|apply Kd.S_drewN|apply Kd.S_drew));exact HO_7.out) (by decide)) hk (fun _ h=>h.2)) (fun _ h=>h.1));have n1_:=mA (KeepBut.trans (by repeat (first|(with_reducible first|exact HK.out|apply eS|apply eN|apply eD|apply eA)|exact HK.out)) hk (.inl rfl));have n2_:=mA (hb);have n3_:=mA (hi);clear HO_7 HK HB HI0;have HO_7:=n0_;have HK:=n1_;have HB:=n2_;have HI0:=n3_;clear n0_ n1_ n2_ n3_;(try clear hb);(try clear hb2);(try clear hk);(try clear hi)))
     try simp only [Act.put,sA,sZ,sS]
     go_loopg [7] k1 (fun kq v7 w'=>∃ (x7_2:List (S36)),Aside0 (spec_l20Story.l1 kq (wrap64 (1+t101)) x7_2 s0_0 t117=some (r1,r2,r3))∧Aside0 (kq≤k1)∧Aside0 (Kd.S k36 36 w' w.heap.size (fun _=>True) v7 x7_2)∧Aside0 (IsS113 w0 w' g s0_0 t117)∧Aside0 (KeepBut w w' g none)∧Aside0 (Below w0.heap.size w0 w'))
     case atStart=>exact ⟨(x7_1),H',⟨Nat.le_refl _⟩,⟨by (with_reducible repeat (first|apply Kd.S_alloc|apply Kd.S_drewN|apply Kd.S_drew));exact HO_7.out⟩,⟨by repeat (first|(with_reducible first|exact HI0.out|apply IsS113.alloc|apply IsS113.drewN|apply IsS113.drew|apply IsS113.set_1)|exact HI0.out)⟩,⟨by repeat (first|(with_reducible first|exact HK.out|apply eS|apply eN|apply eD|apply eA)|exact HK.out)⟩,⟨by repeat (first|(with_reducible first|exact HB.out|apply bA|apply bN|apply bD|refine bS ?_ (IsS113.ge HI0.out))|exact HB.out)⟩⟩
     case round =>
      clear H'
      try clear c1
      try clear p2
      try clear p6
      try clear c9
      try clear c9b0
      try clear c10
      try clear c11
      try clear c13
      try clear c16
      try clear p2
      try clear p6
      obtain ⟨x7_2,HA,HK2,HO_7,HI0,HK,HB⟩:=hrel
      cases gk with
      | zero=>exact absurd HA.out (by simp [spec_l20Story.l1])
      | succ k2 =>
       have H:=HA.out
       clear HA
       simp only [spec_l20Story.l1] at H
       by_cases c18:(x7_2.length:Int)<7
       ·rw [if_pos c18] at H
        have c18b0:decide ((x7_2.length:Int)<7)=true:=decide_eq_true c18
        have c18b1:decide (x7_2.length<7)=true:=decide_eq_true (by omega)
        clear c18
        obtain ⟨y118,hy118⟩ : ∃ y_:List (S33),y_=(([(⟨0,0⟩:S33)]:List (S33))):=⟨_,rfl⟩
        replace H:(if x7_2.length<4398046511104 then (spec_l20Story.l1 k2 (wrap64 (1+t101)) (x7_2++[(⟨0,y118⟩:S36)]) s0_0 t117) else (none))=some (r1,r2,r3):=by first|(rw [hy118];with_reducible exact H)|(have H2_:=(Option.bind_some _ _).symm.trans H;rw [hy118];with_reducible exact H2_)|(have H2_:=(Option.bind_some _ _).symm.trans H;with_reducible exact H2_)|with_reducible exact H|(rw [hy118];exact H)|exact H
        have Ny118:=mA hy118
        clear hy118
        by_cases c19:x7_2.length<4398046511104
        ·rw [if_pos c19] at H
         have LMc19:=mA c19
         clear c19
         obtain ⟨y121,hy121⟩ : ∃ y_:List (S36),y_=(x7_2++[(⟨0,y118⟩:S36)]):=⟨_,rfl⟩
         replace H:(spec_l20Story.l1 k2 (wrap64 (1+t101)) y121 s0_0 t117)=some (r1,r2,r3):=by first|(rw [hy121];with_reducible exact H)|(have H2_:=(Option.bind_some _ _).symm.trans H;rw [hy121];with_reducible exact H2_)|(have H2_:=(Option.bind_some _ _).symm.trans H;with_reducible exact H2_)|with_reducible exact H|(rw [hy121];exact H)|exact H
         have Ny121:=mA hy121
         clear hy121
         have H':=mA H
         clear H
         obtain ⟨Ao20,co20,eo20⟩:=Kd.S_slice HO_7.out
         subst eo20
         go_wp2_with (first|((with_reducible refine gate_dst (N:=35) rfl ?_);refine Kd.R_lit k33 _ 33 ?hg (N:=35) ?hd (xs:=([(⟨0,0⟩:S33)]:List (S33))) (inner:=[.int .i64 0,.int .i64 0]) (ok:=fun _=>True) (okp:=fun _=>True) ?hr ?hp (fun _ hk=>hk) trivial (Below.refl _ _) (Nat.le_refl _) (by simp) ?_;(case hd=>rfl);(case hg=>rfl);(case hr=>first|(go_simp;done)|(go_simp;rfl));(case hp=>exact (Reps.c2 (show Kd.M k33 _ _ _ (⟨0,0⟩:S33) [.int .i64 0,.int .i64 0] from (k33_mkM _ _ _ (⟨0,0⟩:S33) )) (Reps.none _ _)));intro v119 w21 ho22 hb hg_ hnew_;clear hg_ hnew_;(first|rw [←Ny118.out] at ho22|(simp only [Int.reduceToNat] at ho22;rw [←Ny118.out] at ho22));have n0_:=mA (Kd.S_elder' (by (with_reducible repeat (first|apply Kd.S_alloc|apply Kd.S_drewN|apply Kd.S_drew));exact HO_7.out) (Kd.R_base ho22) hb);have n1_:=mA (Kd.R_lower ho22 (keep_size (w:=w) (g:=g) (row:=none) (by repeat (first|(with_reducible first|exact HK.out|apply eS|apply eN|apply eD|apply eA)|exact HK.out))));have n2_:=mA (IsS113.below (by repeat (first|(with_reducible first|exact HI0.out|apply IsS113.alloc|apply IsS113.drewN|apply IsS113.drew|apply IsS113.set_1)|exact HI0.out)) hb);have n3_:=mA (KeepBut.trans (by repeat (first|(with_reducible first|exact HK.out|apply eS|apply eN|apply eD|apply eA)|exact HK.out)) (KeepBut.of_below hb g none) (.inl rfl));have n4_:=mA (bT (by repeat (first|(with_reducible first|exact HB.out|apply bA|apply bN|apply bD|refine bS ?_ (IsS113.ge HI0.out))|exact HB.out)) hb);clear HO_7 HI0 HK HB;have HO_7:=n0_;have HO120:=n1_;have HI0:=n2_;have HK:=n3_;have HB:=n4_;clear n0_ n1_ n2_ n3_ n4_ hb ho22;obtain ⟨Ao23,co23,eo23⟩:=Kd.R_slice HO120.out;subst eo23)|((with_reducible refine gate_builtin (b:=.append) (xs:=#[.tmp 33,.tmp 37]) rfl ?_);at_builtin;refine Kd.S_append k36 w.heap.size rfl (.tmp 33) (.tmp 37) 23 36 (.agg #[(.int .i64 0),(.slice none 0 0)]) 32 rfl Try.underlying23 info36 rfl (by decide) (by omega) (.slice Ao20 x7_2.length co20) x7_2 (⟨0,y118⟩:S36) [.int .i64 0,.slice Ao23 y118.length co23] (fun _=>True) (fun k_=>some k_=(.slice Ao23 y118.length co23:Value).ownBlock) rfl rfl ?aP (fun k_ hk_=>((rM (ok':=fun k_=>((fun _=>True)) k_∧some k_≠(.slice Ao20 x7_2.length co20:Value).ownBlock) (Kd.R_apart' (HO120.out) (Kd.S_typed HO_7.out) (by decide)) (fun k_ hk=>⟨trivial,hk.2⟩))).1 k_ hk_.symm) ?aF ?aO (Below.refl _ _) ?aS ?aL ?_;(case aP=>exact k36_mkM _ _ _ (⟨0,y118⟩:S36) (rM (Kd.R_tight rfl (rM (ok':=fun k_=>((fun _=>True)) k_∧some k_≠(.slice Ao20 x7_2.length co20:Value).ownBlock) (Kd.R_apart' (HO120.out) (Kd.S_typed HO_7.out) (by decide)) (fun k_ hk=>⟨trivial,hk.2⟩))) (fun _ h_=>h_)));(case aF=>exact (fun _ _=>trivial));(case aO=>exact (by (with_reducible repeat (first|apply Kd.S_alloc|apply Kd.S_drewN|apply Kd.S_drew));exact Kd.S_mono HO_7.out (fun k_ hk=>⟨trivial,fun e_=>hk.2 e_⟩)));(case aS=>exact (keep_size (w:=w) (g:=g) (row:=none) (by repeat (first|(with_reducible first|exact HK.out|apply eS|apply eN|apply eD|apply eA)|exact HK.out))));(case aL=>have:=LMc19.out;omega);intro v122 w24 ho hb hg hat;rw [←Ny121.out] at ho;have n0_:=mA (IsS113.grown (by repeat (first|(with_reducible first|exact HI0.out|apply IsS113.alloc|apply IsS113.drewN|apply IsS113.drew|apply IsS113.set_1)|exact HI0.out)) hg (IsS113.own_neS HI0.out HO_7.out (by decide)));have n1_:=mA (below_weaken (by repeat (first|(with_reducible first|exact HB.out|apply bA|apply bN|apply bD|refine bS ?_ (IsS113.ge HI0.out))|exact HB.out)) HL.out hb);have n2_:=mA (KeepBut.trans (by repeat (first|(with_reducible first|exact HK.out|apply eS|apply eN|apply eD|apply eA)|exact HK.out)) (KeepBut.of_grown hg g) (Kd.S_base2 HO_7.out));have n3_:=mA (ho);clear HI0 HB HK HO_7 HO120;have HI0:=n0_;have HB:=n1_;have HK:=n2_;have HO123:=n3_;clear n0_ n1_ n2_ n3_ ho hb hg hat))
         go_roundg k2
         case measure=>have:=HK1.out;have:=HK2.out;omega
         case rel=>exact ⟨(y121),H',⟨by have:=HK1.out;have:=HK2.out;omega⟩,⟨by (with_reducible repeat (first|apply Kd.S_alloc|apply Kd.S_drewN|apply Kd.S_drew));exact HO123.out⟩,⟨by repeat (first|(with_reducible first|exact HI0.out|apply IsS113.alloc|apply IsS113.drewN|apply IsS113.drew|apply IsS113.set_1)|exact HI0.out)⟩,⟨by repeat (first|(with_reducible first|exact HK.out|apply eS|apply eN|apply eD|apply eA)|exact HK.out)⟩,⟨by repeat (first|(with_reducible first|exact HB.out|apply bA|apply bN|apply bD|refine bS ?_ (IsS113.ge HI0.out))|exact HB.out)⟩⟩
        ·rw [if_neg c19] at H
         exact absurd H (by simp)
       ·rw [if_neg c18] at H
        have c18b0:decide ((x7_2.length:Int)<7)=false:=decide_eq_false c18
        have c18b1:decide (x7_2.length<7)=false:=decide_eq_false (by omega)
        clear c18
        simp only [Option.some.injEq,Prod.mk.injEq] at H
        obtain ⟨rfl,rfl,rfl⟩:=H
        obtain ⟨Ao25,co25,eo25⟩:=Kd.S_slice HO_7.out
        subst eo25
        go_wp2
        go_ret2
        exact ⟨_,by first|rfl|(simp [errW_none,errW_some]<;>rfl)|(simp [*, errW_none,errW_some]<;>rfl),by (with_reducible repeat (first|apply Kd.S_alloc|apply Kd.S_drewN|apply Kd.S_drew));exact HO_7.out,by repeat (first|(with_reducible first|exact HI0.out|apply IsS113.alloc|apply IsS113.drewN|apply IsS113.drew|apply IsS113.set_1)|exact HI0.out),by repeat (first|(with_reducible first|exact HB.out|apply bA|apply bN|apply bD|refine bS ?_ (IsS113.ge HI0.out))|exact HB.out),by repeat (first|(with_reducible first|exact HK.out|apply eS|apply eN|apply eD|apply eA)|exact HK.out)⟩
    ·replace c16:=Bool.eq_false_iff.mpr c16
     subst c16
     have H1:(some ((wrap64 (1+t101)),x7_1,t117))=some (r1,r2,r3):=by rw [if_neg (show ¬ (false=true) by decide)] at H;exact H
     clear H
     have H:=H1
     clear H1
     simp only [Option.some.injEq,Prod.mk.injEq] at H
     obtain ⟨rfl,rfl,rfl⟩:=H
     go_wp2_with (first|((with_reducible refine gate_callee (f:=139) rfl ?_);refine goesL_ (some 29) rfl rfl Try.func139 (by kernel_rfl) rfl #[.pointer (some ⟨g,0,none⟩),.int .i64 a1] rfl (by (try simp only [mT,mC,mN]);first|done|rfl|(simp only [lD,lT];rfl)) ?_;(with_reducible refine (spec_l20Rd_odd.calls k1 g s0_0 x1001_1 a1 false t117 w0 _ ?side1 ?side2 A15.out).mono ?_);(case side1=>repeat (first|(with_reducible first|exact HI0.out|apply IsS113.alloc|apply IsS113.drewN|apply IsS113.drew|apply IsS113.set_1)|exact HI0.out));(case side2=>repeat (first|(with_reducible first|exact HB.out|apply bA|apply bN|apply bD|refine bS ?_ (IsS113.ge HI0.out))|exact HB.out));rintro e w26 ⟨rfl,hi,hb,hk⟩;refine ⟨_,rfl,?_⟩;have n0_:=mA (Kd.S_mono (Kd.S_keep (IsS113.apartS (show IsS113 w0 _ g s0_0 x1001_1 from by repeat (first|(with_reducible first|exact HI0.out|apply IsS113.alloc|apply IsS113.drewN|apply IsS113.drew|apply IsS113.set_1)|exact HI0.out)) (by (with_reducible repeat (first|apply Kd.S_alloc|apply Kd.S_drewN|apply Kd.S_drew));exact HO_7.out) (by decide)) hk (fun _ h=>h.2)) (fun _ h=>h.1));have n1_:=mA (KeepBut.trans (by repeat (first|(with_reducible first|exact HK.out|apply eS|apply eN|apply eD|apply eA)|exact HK.out)) hk (.inl rfl));have n2_:=mA (hb);have n3_:=mA (hi);clear HO_7 HK HB HI0;have HO_7:=n0_;have HK:=n1_;have HB:=n2_;have HI0:=n3_;clear n0_ n1_ n2_ n3_;(try clear hb);(try clear hb2);(try clear hk);(try clear hi)))
     go_ret2
     exact ⟨_,by first|rfl|(simp [errW_none,errW_some]<;>rfl)|(simp [*, errW_none,errW_some]<;>rfl),by (with_reducible repeat (first|apply Kd.S_alloc|apply Kd.S_drewN|apply Kd.S_drew));exact HO_7.out,by repeat (first|(with_reducible first|exact HI0.out|apply IsS113.alloc|apply IsS113.drewN|apply IsS113.drew|apply IsS113.set_1)|exact HI0.out),by repeat (first|(with_reducible first|exact HB.out|apply bA|apply bN|apply bD|refine bS ?_ (IsS113.ge HI0.out))|exact HB.out),by repeat (first|(with_reducible first|exact HK.out|apply eS|apply eN|apply eD|apply eA)|exact HK.out)⟩
/-! ### spec_DrawNeedlessClaims: function 84 -/
def spec_DrawNeedlessClaims.f (k:Nat) (l0:List Int):Option (Int×(List (S36))):=(spec_l20Open.f l0).bind fun bt101=>((spec_l20Story.f k bt101.1 bt101.2 12).bind fun bt104=>(some (bt104.1,bt104.2.1)))
theorem spec_DrawNeedlessClaims.mono : ∀ a0 k,LeO (spec_DrawNeedlessClaims.f k a0) (spec_DrawNeedlessClaims.f (k+1) a0):=by
 intro a0 k
 unfold spec_DrawNeedlessClaims.f
 repeat' first
   | (with_reducible exact spec_l20Story.mono _ _ _ _)
   | (with_reducible exact LeO.refl _)
   | (with_reducible exact LeO.none _)
   | (with_reducible refine LeO.ite ?_ ?_)
   | (with_reducible refine LeO.bind ?_ (fun _=>?_))
   | exact spec_l20Story.mono _ _ _ _
   | exact LeO.none _
   | refine LeO.ite ?_ ?_
   | refine LeO.bind ?_ (fun _=>?_)
set_option maxHeartbeats 8000000 in
set_option maxRecDepth 100000 in
theorem spec_DrawNeedlessClaims.calls (k:Nat) (A0:Option Addr) (c0:Nat) (l0:List Int) (r1:Int) (r2:List (S36)) (w:World) (hr0:Kd.C (Kd.int .u8) w A0 l0.length l0) (hc0:l0.length≤c0) (h:spec_DrawNeedlessClaims.f k l0=some (r1,r2)) :
  Calls Try.prog 84 #[.slice A0 l0.length c0] w fun e w'=>∃ v1_:Value,e = .returned (.tuple #[.int .i64 r1,v1_])∧Kd.S k36 36 w' w.heap.size (fun _=>True) v1_ r2∧Below w.heap.size w w':=by
 have HR0:=mA hr0
 have HC0:=mA hc0
 clear hr0 hc0
 have HB:=mA (Below.refl w.heap.size w)
 have H:((spec_l20Open.f l0).bind fun bt101=>((spec_l20Story.f k bt101.1 bt101.2 12).bind fun bt104=>(some (bt104.1,bt104.2.1))))=some (r1,r2):=h
 clear h
 replace H:=Option.bind_eq_some_iff.mp H
 obtain ⟨⟨t101,t102⟩,A20,H⟩:=H
 replace H:((spec_l20Story.f k t101 t102 12).bind fun bt104=>(some (bt104.1,bt104.2.1)))=some (r1,r2):=H
 have A2:=mA A20
 clear A20
 replace H:=Option.bind_eq_some_iff.mp H
 obtain ⟨⟨t104,t105,t108⟩,A30,H⟩:=H
 replace H:(some (t104,t105))=some (r1,r2):=H
 have A3:=mA A30
 clear A30
 simp only [Option.some.injEq,Prod.mk.injEq] at H
 obtain ⟨rfl,rfl⟩:=H
 go_enter Try.func84,Try.ntmps84
 go_wp2_with (first|((with_reducible refine gate_callee (f:=97) rfl ?_);refine goesL_ (some 5) rfl rfl Try.func97 (by kernel_rfl) rfl #[.slice A0 l0.length c0] rfl (by (try simp only [mT,mC,mN]);first|done|rfl|(simp only [lD,lT];rfl)) ?_;(with_reducible refine (spec_l20Open.calls _ _ l0 t101 t102 w _ ?side1 ?side2 ?side3 A2.out).mono ?_);(case side1=>repeat (first|(with_reducible first|exact HB.out|apply bA|apply bN|apply bD)|exact HB.out));(case side2=>exact HR0.out);(case side3=>exact HC0.out);rintro e w4 ⟨g103,rfl,hi,hb,hb2⟩;refine ⟨_,rfl,?_⟩;have n0_:=mA (hb);have n1_:=mA (hi);clear HB;have HB:=n0_;have HI103:=n1_;clear n0_ n1_;(try clear hb);(try clear hb2);(try clear hk);(try clear hi))|((with_reducible refine gate_callee (f:=96) rfl ?_);refine goesL_ (some 6) rfl rfl Try.func96 (by kernel_rfl) rfl #[.pointer (some ⟨g103,0,none⟩),.int .i64 12] rfl (by (try simp only [mT,mC,mN]);first|done|rfl|(simp only [lD,lT];rfl)) ?_;(with_reducible refine (spec_l20Story.calls k g103 t101 t102 12 t104 t105 t108 w _ ?side1 ?side2 A3.out).mono ?_);(case side1=>repeat (first|(with_reducible first|exact HI103.out|apply IsS113.alloc|apply IsS113.drewN|apply IsS113.drew|apply IsS113.set_1)|exact HI103.out));(case side2=>repeat (first|(with_reducible first|exact HB.out|apply bA|apply bN|apply bD|refine bS ?_ (IsS113.ge HI103.out))|exact HB.out));rintro e w5 ⟨v106,rfl,ho0,hi,hb,hk⟩;refine ⟨_,rfl,?_⟩;have n0_:=mA (Kd.S_lower ho0 (bZ (by repeat (first|(with_reducible first|exact HB.out|apply bA|apply bN|apply bD|refine bS ?_ (IsS113.ge HI103.out))|exact HB.out))));have n1_:=mA (hb);have n2_:=mA (hi);clear HB HI103;have HO107:=n0_;have HB:=n1_;have HI103:=n2_;clear n0_ n1_ n2_;(try clear hb);(try clear hb2);(try clear hk);(try clear hi);(try clear ho0)))
 go_ret2
 exact ⟨_,by first|rfl|(simp [errW_none,errW_some]<;>rfl)|(simp [*, errW_none,errW_some]<;>rfl),by (with_reducible repeat (first|apply Kd.S_alloc|apply Kd.S_drewN|apply Kd.S_drew));exact HO107.out,by repeat (first|(with_reducible first|exact HB.out|apply bA|apply bN|apply bD|refine bS ?_ (IsS113.ge HI103.out))|exact HB.out)⟩
/-! ### impl_Claim: function 147 -/
def impl_Claim.f (l0:List (S36)):Option ((List (S36))):=(some (([]:List (S36)):List (S36))).bind fun y101=>(if y101.length+l0.length<4398046511104 then (some (y101++l0)) else (none))
set_option maxHeartbeats 8000000 in
set_option maxRecDepth 100000 in
theorem impl_Claim.calls (P0_:Nat→Prop) (A0:Option Addr) (c0:Nat) (l0:List (S36)) (r:List (S36)) (w:World) (hs0:Kd.V k36 36 w w.heap.size (fun k_=>P0_ k_) (.slice A0 l0.length c0) l0) (h:impl_Claim.f l0=some r) :
  Calls Try.prog 147 #[.slice A0 l0.length c0] w fun e w'=>∃ v0_:Value,e = .returned (v0_)∧Kd.N k36 36 w' w.heap.size (fun k_=>(P0_ k_∨w.heap.size≤k_)) v0_ r∧Below w.heap.size w w':=by
 have HO0:=mA (show Kd.V k36 36 w w.heap.size (fun k_=>(P0_ k_∨w.heap.size≤k_)) (.slice A0 l0.length c0) l0 from Kd.V_mono hs0 (fun k_ hk=>.inl hk))
 have HB:=mA (Below.refl w.heap.size w)
 have H:((some (([]:List (S36)):List (S36))).bind fun y101=>(if y101.length+l0.length<4398046511104 then (some (y101++l0)) else (none)))=some r:=h
 clear h
 by_cases hA0_:A0=none
 ·subst hA0_
  have hl0_:l0.length=0:=(by obtain ⟨A_,c_,e_,_,hF_⟩:=HO0.out;injection e_ with e1_ _ _;have h1_:=Kd.F_now hF_;rw [←e1_] at h1_;exact reads_none h1_)
  have hl1_:l0=[]:=List.eq_nil_of_length_eq_zero hl0_
  subst hl1_
  have hr_:r=[]:=by simpa using H.symm
  subst hr_
  have hq_ : ∀ (w_:World) (n_:Nat),(binOp .eql 23 (.slice none n_ c0) (.slice none 0 0)).run Try.prog w_ = .ok (.bool true) w_:=fun w_ n_=>Lib.run_eql_slice_nil (P:=Try.prog) w_ 23 36 none n_ c0 0 0 Try.underlying23
  clear H hl0_
  go_enter Try.func147,Try.ntmps147
  go_wp2
  go_ret
  exact ⟨_,rfl,Kd.N_nil _ _ _ _ _,(by repeat (first|(with_reducible first|exact HB.out|apply bA|apply bN|apply bD)|exact HB.out))⟩
 ·obtain ⟨a0_,ha0_⟩ : ∃ a_,A0=some a_:=Option.ne_none_iff_exists'.mp hA0_
  subst ha0_
  have hq_ : ∀ (w_:World) (n_:Nat),(binOp .eql 23 (.slice (some a0_) n_ c0) (.slice none 0 0)).run Try.prog w_ = .ok (.bool false) w_:=fun w_ n_=>Lib.run_eql_slice_nil (P:=Try.prog) w_ 23 36 (some a0_) n_ c0 0 0 Try.underlying23
  clear hA0_
  obtain ⟨y101,hy101⟩ : ∃ y_:List (S36),y_=(([]:List (S36))):=⟨_,rfl⟩
  replace H:(if y101.length+l0.length<4398046511104 then (some (y101++l0)) else (none))=some r:=by first|(rw [hy101];with_reducible exact H)|(have H2_:=(Option.bind_some _ _).symm.trans H;rw [hy101];with_reducible exact H2_)|(have H2_:=(Option.bind_some _ _).symm.trans H;with_reducible exact H2_)|with_reducible exact H|(rw [hy101];exact H)|exact H
  have Ny101:=mA hy101
  clear hy101
  by_cases c2:y101.length+l0.length<4398046511104
  ·rw [if_pos c2] at H
   have LMc2:=mA c2
   clear c2
   obtain ⟨y104,hy104⟩ : ∃ y_:List (S36),y_=(y101++l0):=⟨_,rfl⟩
   replace H:(some y104)=some r:=by first|(rw [hy104];with_reducible exact H)|(have H2_:=(Option.bind_some _ _).symm.trans H;rw [hy104];with_reducible exact H2_)|(have H2_:=(Option.bind_some _ _).symm.trans H;with_reducible exact H2_)|with_reducible exact H|(rw [hy104];exact H)|exact H
   have Ny104:=mA hy104
   clear hy104
   obtain rfl:=Option.some.inj H
   go_enter Try.func147,Try.ntmps147
   go_wp2_with (first|((with_reducible refine gate_dst (N:=5) rfl ?_);refine Kd.N_lit k36 _ 36 ?hg (N':=5) ?hd (xs:=([]:List (S36))) (inner:=[]) (ok:=(fun k_=>(P0_ k_∨w.heap.size≤k_))) (okp:=(fun k_=>(P0_ k_∨w.heap.size≤k_))) ?hr ?hp (fun _ hk=>hk) ((show ∀ k_,w.heap.size≤k_→(fun k_=>(P0_ k_∨w.heap.size≤k_)) k_ from fun k_ hk=>(.inr (Nat.le_trans (bZ (by repeat (first|(with_reducible first|exact HB.out|apply bA|apply bN|apply bD)|exact HB.out))) hk))) _ (Nat.le_refl _)) (Below.refl _ _) (Nat.le_refl _) (by simp) ?_;(case hd=>rfl);(case hg=>rfl);(case hr=>first|(go_simp;done)|(go_simp;rfl));(case hp=>exact (Reps.none _ _));intro v102 w3 ho4 hb hg_ hnew_;clear hg_ hnew_;(first|rw [←Ny101.out] at ho4|(simp only [Int.reduceToNat] at ho4;rw [←Ny101.out] at ho4));have n0_:=mA (Kd.V_elder' (by (with_reducible repeat (first|apply Kd.V_alloc|apply Kd.V_drewN|apply Kd.V_drew));exact HO0.out) (Kd.N_base ho4) hb);have n1_:=mA (Kd.N_lower ho4 (bZ (by repeat (first|(with_reducible first|exact HB.out|apply bA|apply bN|apply bD)|exact HB.out))));have n2_:=mA (bT (by repeat (first|(with_reducible first|exact HB.out|apply bA|apply bN|apply bD)|exact HB.out)) hb);clear HO0 HB;have HO0:=n0_;have HO103:=n1_;have HB:=n2_;clear n0_ n1_ n2_ hb ho4)|((with_reducible refine gate_builtin (b:=.append) (xs:=#[.tmp 5,.tmp 6]) rfl ?_);at_builtin;refine Kd.N_append_rows k36 (w0:=w) w.heap.size rfl (.tmp 5) (.tmp 6) 23 36 (.agg #[(.int .i64 0),(.slice none 0 0)]) 32 rfl Try.underlying23 info36 rfl (by decide) (by omega) v102 y101 l0 _ _ _ (fun k_=>(P0_ k_∨w.heap.size≤k_)) (fun k_=>((fun k_=>(P0_ k_∨w.heap.size≤k_))) k_∧some k_≠(v102:Value).ownBlock) rfl rfl ?aO ?aR (fun _ hk=>hk) ?aF ?aB ?aS ?aL ?_;(case aR=>exact (by skip;exact Kd.V_F (Kd.V_mono (ok':=(fun k_=>((fun k_=>(P0_ k_∨w.heap.size≤k_))) k_∧some k_≠(v102:Value).ownBlock)) (HO0.out) (fun k_ hk=>⟨hk.1,hk.2⟩))));(case aB=>exact (by repeat (first|(with_reducible first|exact HB.out|apply bA|apply bN|apply bD)|exact HB.out)));(case aF=>exact (fun k_ hk=>(.inr (Nat.le_trans (bZ (by repeat (first|(with_reducible first|exact HB.out|apply bA|apply bN|apply bD)|exact HB.out))) hk))));(case aO=>exact (by (with_reducible repeat (first|apply nA|apply nN|apply nD));exact HO103.out));(case aS=>exact (bZ (by repeat (first|(with_reducible first|exact HB.out|apply bA|apply bN|apply bD)|exact HB.out))));(case aL=>have:=LMc2.out;omega);intro v105 w5 ho hb hg hat;rw [←Ny104.out] at ho;have n0_:=mA (Kd.V_afterv (ok:=(fun k_=>(P0_ k_∨w.heap.size≤k_))) (by (with_reducible repeat (first|apply Kd.V_alloc|apply Kd.V_drewN|apply Kd.V_drew));exact HO0.out) hg hat);have n1_:=mA (hb);have n2_:=mA (ho);clear HO0 HB HO103;have HO0:=n0_;have HB:=n1_;have HO106:=n2_;clear n0_ n1_ n2_ ho hb hg hat))
   go_ret
   exact ⟨_,by first|rfl|(simp [errW_none,errW_some]<;>rfl)|(simp [*, errW_none,errW_some]<;>rfl),by (with_reducible repeat (first|apply nA|apply nN|apply nD));exact HO106.out,by repeat (first|(with_reducible first|exact HB.out|apply bA|apply bN|apply bD)|exact HB.out)⟩
  ·rw [if_neg c2] at H
   exact absurd H (by simp)
/-! ### impl_without: function 135 -/
def impl_without.f (l0:List (S36)) (a1:Int):Option ((List (S36))):=if 0≤a1 then (if a1≤(l0.length:Int) then ((impl_Claim.f (l0.take (a1:Int).toNat)).bind fun t106=>(if 0≤(wrap64 (a1+1)) then (if (wrap64 (a1+1))≤(l0.length:Int) then ((some (l0.drop ((wrap64 (a1+1)):Int).toNat:List (S36))).bind fun y109=>(if t106.length+y109.length<4398046511104 then (some (t106++y109)) else (none))) else (none)) else (none))) else (none)) else (none)
def impl_without.T1:Bool×List (List Nat×List Nat):=(true,[([],[]),([],[]),([0,1],[0,1]),([2],[2]),([],[]),([],[]),([5],[5]),([4,6],[4,6]),([3,7,3],[3,7]),([8,8,0,1,2,3,4,5,6,7,8],[8])])
def impl_without.B1:List Nat:=[0,0,3,7,0,0,32,112,255,511]
theorem impl_without.tab1:rtab .any (opsOf Try.f135 1)=impl_without.T1:=by kernel_rfl
theorem impl_without.bits1:waitsOk impl_without.T1.2 impl_without.B1=true:=by kernel_rfl
set_option maxHeartbeats 8000000 in
set_option maxRecDepth 100000 in
theorem impl_without.calls (P0_:Nat→Prop) (A0:Option Addr) (c0:Nat) (l0:List (S36)) (a1:Int) (r:List (S36)) (w:World) (hs0:Kd.V k36 36 w w.heap.size (fun k_=>P0_ k_) (.slice A0 l0.length c0) l0) (h:impl_without.f l0 a1=some r) :
  Calls Try.prog 135 #[.slice A0 l0.length c0,.int .i64 a1] w fun e w'=>∃ v0_:Value,e = .returned (v0_)∧Kd.N k36 36 w' w.heap.size (fun k_=>(P0_ k_∨w.heap.size≤k_)) v0_ r∧Below w.heap.size w w':=by
 have HO0:=mA (show Kd.V k36 36 w w.heap.size (fun k_=>(P0_ k_∨w.heap.size≤k_)) (.slice A0 l0.length c0) l0 from Kd.V_mono hs0 (fun k_ hk=>.inl hk))
 have HB:=mA (Below.refl w.heap.size w)
 have H:(if 0≤a1 then (if a1≤(l0.length:Int) then ((impl_Claim.f (l0.take (a1:Int).toNat)).bind fun t106=>(if 0≤(wrap64 (a1+1)) then (if (wrap64 (a1+1))≤(l0.length:Int) then ((some (l0.drop ((wrap64 (a1+1)):Int).toNat:List (S36))).bind fun y109=>(if t106.length+y109.length<4398046511104 then (some (t106++y109)) else (none))) else (none)) else (none))) else (none)) else (none))=some r:=h
 clear h
 by_cases c3:0≤a1
 ·rw [if_pos c3] at H
  have c3b0:=eq_true c3
  have c3b1:decide (0≤a1)=true:=decide_eq_true c3
  clear c3
  by_cases c4:a1≤(l0.length:Int)
  ·rw [if_pos c4] at H
   have c4b0:=eq_true c4
   have c4b1:decide (a1≤(l0.length:Int))=true:=decide_eq_true c4
   clear c4
   obtain ⟨y101,hy101⟩ : ∃ y_:List (S36),y_=(l0.take (a1:Int).toNat):=⟨_,rfl⟩
   replace H:((impl_Claim.f y101).bind fun t106=>(if 0≤(wrap64 (a1+1)) then (if (wrap64 (a1+1))≤(l0.length:Int) then ((some (l0.drop ((wrap64 (a1+1)):Int).toNat:List (S36))).bind fun y109=>(if t106.length+y109.length<4398046511104 then (some (t106++y109)) else (none))) else (none)) else (none)))=some r:=by first|(rw [hy101];with_reducible exact H)|(have H2_:=(Option.bind_some _ _).symm.trans H;rw [hy101];with_reducible exact H2_)|(have H2_:=(Option.bind_some _ _).symm.trans H;with_reducible exact H2_)|with_reducible exact H|(rw [hy101];exact H)|exact H
   have Ny101:=mA hy101
   clear hy101
   replace H:=Option.bind_eq_some_iff.mp H
   obtain ⟨t106,A50,H⟩:=H
   replace H:(if 0≤(wrap64 (a1+1)) then (if (wrap64 (a1+1))≤(l0.length:Int) then ((some (l0.drop ((wrap64 (a1+1)):Int).toNat:List (S36))).bind fun y109=>(if t106.length+y109.length<4398046511104 then (some (t106++y109)) else (none))) else (none)) else (none))=some r:=H
   have A5:=mA A50
   clear A50
   obtain ⟨ji6,hji6⟩ : ∃ j_:Int,(wrap64 (a1+1))=j_:=⟨_,rfl⟩
   replace H:(if 0≤(ji6) then (if (ji6)≤(l0.length:Int) then ((some (l0.drop ((ji6):Int).toNat:List (S36))).bind fun y109=>(if t106.length+y109.length<4398046511104 then (some (t106++y109)) else (none))) else (none)) else (none))=some r:=by first|(rw [hji6] at H;exact H)|(simp only [hji6] at H ⊢;exact H)
   (try rw [hji6] at A5)
   have hji6w:(IntKind.i64.wrap (a1+1))=ji6:=(i64_w _).trans hji6
   by_cases c7:0≤(ji6)
   ·rw [if_pos c7] at H
    have c7b0:=eq_true c7
    have c7b1:decide (0≤(ji6))=true:=decide_eq_true c7
    clear c7
    by_cases c8:(ji6)≤(l0.length:Int)
    ·rw [if_pos c8] at H
     have c8b0:=eq_true c8
     have c8b1:decide ((ji6)≤(l0.length:Int))=true:=decide_eq_true c8
     clear c8
     obtain ⟨y109,hy109⟩ : ∃ y_:List (S36),y_=(l0.drop ((ji6):Int).toNat):=⟨_,rfl⟩
     replace H:(if t106.length+y109.length<4398046511104 then (some (t106++y109)) else (none))=some r:=by first|(rw [hy109];with_reducible exact H)|(have H2_:=(Option.bind_some _ _).symm.trans H;rw [hy109];with_reducible exact H2_)|(have H2_:=(Option.bind_some _ _).symm.trans H;with_reducible exact H2_)|with_reducible exact H|(rw [hy109];exact H)|exact H
     have Ny109:=mA hy109
     clear hy109
     by_cases c9:t106.length+y109.length<4398046511104
     ·rw [if_pos c9] at H
      have LMc9:=mA c9
      clear c9
      obtain ⟨y114,hy114⟩ : ∃ y_:List (S36),y_=(t106++y109):=⟨_,rfl⟩
      replace H:(some y114)=some r:=by first|(rw [hy114];with_reducible exact H)|(have H2_:=(Option.bind_some _ _).symm.trans H;rw [hy114];with_reducible exact H2_)|(have H2_:=(Option.bind_some _ _).symm.trans H;with_reducible exact H2_)|with_reducible exact H|(rw [hy114];exact H)|exact H
      have Ny114:=mA hy114
      clear hy114
      obtain rfl:=Option.some.inj H
      go_enter Try.func135,Try.ntmps135
      try go_wp2
      have n0_:=mA (Kd.V_drew HO0.out)
      have n1_:=mA (bD HB.out)
      clear HO0
      clear HB
      have HO0:=n0_
      have HB:=n1_
      clear n0_ n1_
      have q11:(a1:Int)≤((l0.length:Int):Int):=of_decide_eq_true (by first|(with_reducible assumption)|assumption)
      obtain ⟨i011,hi011,_,hsz11,_⟩:=info_parts info36
      have hroom11:l0.length≤c0:=(Kd.V_reads' HO0.out).2.1
      have hC11:Kd.F k36 _ _ A0 l0.length l0:=(Kd.V_at (base:=w.heap.size) HO0.out).2.2
      have hcut11:=cut_to (P:=Try.prog) 23 36 .i64 Try.underlying23 hi011 A0 l0.length c0 a1 (of_decide_eq_true (by first|(with_reducible assumption)|assumption)) q11 hroom11
      have hr11:=Kd.F_take (m:=(a1:Int).toNat) hC11 (by omega)
      have hy11:y101.length=(a1:Int).toNat:=(by rw [Ny101.out,lT];omega)
      rw [←Ny101.out] at hr11
      rw [←hy11] at hcut11
      have HO105:=mA (show Kd.V k36 36 _ w.heap.size _ (.slice A0 y101.length c0) y101 from Kd.V_mk (by omega) hr11)
      have HC105:=mA (show y101.length≤c0 from by omega)
      clear hr11 hC11 hroom11 hi011 hsz11
      have KY11:=mA hy11
      clear hy11
      replace q11:=eq_true q11
      have q12:((ji6):Int)≤((l0.length:Int):Int):=of_decide_eq_true (by first|(with_reducible assumption)|assumption)
      obtain ⟨i012,hi012,_,hsz12,_⟩:=info_parts info36
      have hroom12:l0.length≤c0:=(Kd.V_reads' HO0.out).2.1
      have hC12:Kd.F k36 _ _ A0 l0.length l0:=(Kd.V_at (base:=w.heap.size) HO0.out).2.2
      have q012:(0:Int)≤((ji6):Int):=of_decide_eq_true (by first|(with_reducible assumption)|assumption)
      have hcut12:=cut_from (P:=Try.prog) 23 36 .i64 Try.underlying23 hi012 2 hsz12 A0 l0.length c0 (ji6) q012 q12
      have hr12:=Kd.F_cut (m:=((ji6):Int).toNat) (c:=c0) hC12 (by omega) hroom12
      obtain ⟨A12,hA12⟩ : ∃ A1,A1=(if c0=((ji6):Int).toNat then A0 else (A0:Option Addr).map (·.add (((ji6):Int).toNat*2))):=⟨_,rfl⟩
      obtain ⟨c12,hc12⟩ : ∃ c1,c1=c0-((ji6):Int).toNat:=⟨_,rfl⟩
      have hy12:y109.length=l0.length-((ji6):Int).toNat:=(by rw [Ny109.out,lD]<;>omega)
      rw [show (l0).drop ((ji6):Int).toNat=y109 from Ny109.out.symm] at hr12
      replace hr12:Kd.F k36 _ _ A12 y109.length y109:=(by rw [hA12];exact hr12)
      rw [←hy12, ←hA12, ←hc12] at hcut12
      have HO113:=mA (show Kd.V k36 36 _ w.heap.size _ (.slice A12 y109.length c12) y109 from Kd.V_mk (by rw [hy12,hc12];exact Nat.sub_le_sub_right hroom12 _) hr12)
      have HC113:=mA (show y109.length≤c12 from by rw [hy12,hc12];exact Nat.sub_le_sub_right hroom12 _)
      clear hr12 hC12 hroom12 hi012 hsz12 hc12
      have KY12:=mA hy12
      have KA12:=mA hA12
      clear hy12 hA12
      replace q12:=eq_true q12
      refine start_ (n:=10) (S:=fun w'=>True) (ds:=[]) #[O,O,O,O,O,O,O,O,O,O] (by kernel_rfl) rfl rfl trivial (fun hHeld=>?_);refine with_tabW impl_without.tab1 impl_without.bits1 (fun HT_ HW_=>?_)
      generalize w.drew=w10 at HO0 HB HO105 HO113 hHeld ⊢
      refine pure_ (i:=0) (N:=some 5) (v:=?_) (a':=?_) #[I,O,O,O,O,O,O,O,O,O] rfl rfl (any_of HT_.out (by kernel_rfl)) (fun _ _ _ h=>h) (Or.inl ⟨by rfl,?_⟩) ?_ ?_
      rotate_left
      ·intro w'
       go_simp
       with_reducible rfl
      rotate_left
      ·simp only [Act.put,sA,sZ,sS,i64_w,i32_w]
       rfl
      refine pure_ (i:=1) (N:=some 6) (v:=?_) (a':=?_) #[I,I,O,O,O,O,O,O,O,O] rfl rfl (any_of HT_.out (by kernel_rfl)) (fun _ _ _ h=>h) (Or.inl ⟨by rfl,?_⟩) ?_ ?_
      rotate_left
      ·intro w'
       go_simp
       with_reducible rfl
      rotate_left
      ·simp only [Act.put,sA,sZ,sS,i64_w,i32_w]
       rfl
      refine pure_ (i:=2) (N:=some 7) (v:=?_) (a':=?_) #[I,I,I,O,O,O,O,O,O,O] rfl rfl (any_of HT_.out (by kernel_rfl)) (fun _ _ _ h=>h) (Or.inl ⟨by rfl,?_⟩) ?_ ?_
      rotate_left
      ·intro w'
       go_simp
       with_reducible rfl
      rotate_left
      ·simp only [Act.put,sA,sZ,sS,i64_w,i32_w]
       rfl
      refine pure_ (i:=4) (N:=some 9) (v:=?_) (a':=?_) #[I,I,I,O,I,O,O,O,O,O] rfl rfl (any_of HT_.out (by kernel_rfl)) (fun _ _ _ h=>h) (Or.inl ⟨by rfl,?_⟩) ?_ ?_
      rotate_left
      ·intro w'
       go_simp
       with_reducible rfl
      rotate_left
      ·simp only [Act.put,sA,sZ,sS,i64_w,i32_w]
       rfl
      refine pure_ (i:=5) (N:=some 10) (v:=?_) (a':=?_) #[I,I,I,O,I,I,O,O,O,O] rfl rfl (any_of HT_.out (by kernel_rfl)) (fun _ _ _ h=>h) (Or.inl ⟨by rfl,?_⟩) ?_ ?_
      rotate_left
      ·intro w'
       go_simp
       with_reducible rfl
      rotate_left
      ·simp only [Act.put,sA,sZ,sS,i64_w,i32_w]
       rfl
      refine pure_ (i:=6) (N:=some 11) (v:=?_) (a':=?_) #[I,I,I,O,I,I,I,O,O,O] rfl rfl (any_of HT_.out (by kernel_rfl)) (fun _ _ _ h=>h) (Or.inl ⟨by rfl,?_⟩) ?_ ?_
      rotate_left
      ·intro w'
       go_simp
       with_reducible rfl
      rotate_left
      ·simp only [Act.put,sA,sZ,sS,i64_w,i32_w]
       rfl
      refine pure_ (i:=7) (N:=some 12) (v:=?_) (a':=?_) #[I,I,I,O,I,I,I,I,O,O] rfl rfl (any_of HT_.out (by kernel_rfl)) (fun _ _ _ h=>h) (Or.inl ⟨by rfl,?_⟩) ?_ ?_
      rotate_left
      ·intro w'
       go_simp
       with_reducible rfl
      rotate_left
      ·simp only [Act.put,sA,sZ,sS,i64_w,i32_w]
       rfl
      refine one_ (i:=3) (N:=some 8) #[I,I,I,I,I,I,I,I,O,O] rfl rfl (one_of HT_.out (by kernel_rfl)) (by decide) (fun K hK=>?_)
      refine goes_ Try.func147 (by kernel_rfl) rfl #[.slice A0 y101.length c0] (by rfl) rfl rfl (by (try simp only [mT,mC,mN]);first|done|rfl|(simp only [lD,lT];rfl)) ?_
      with_reducible refine (impl_Claim.calls (fun k_=>(P0_ k_∨w.heap.size≤k_)) _ _ y101 t106 _ ?side1 A5.out).mono ?_
      (case side1=>exact HO105.out)
      rintro e w13 ⟨v107,rfl,ho0,hb⟩
      refine ⟨_,rfl,?_⟩
      have n0_:=mA (Kd.V_elder' (by (with_reducible repeat (first|apply Kd.V_alloc|apply Kd.V_drewN|apply Kd.V_drew));exact HO0.out) (Kd.N_base ho0) hb)
      have n1_:=mA (Kd.V_elder' (by (with_reducible repeat (first|apply Kd.V_alloc|apply Kd.V_drewN|apply Kd.V_drew));exact HO105.out) (Kd.N_base ho0) hb)
      have n2_:=mA (Kd.V_elder' (by (with_reducible repeat (first|apply Kd.V_alloc|apply Kd.V_drewN|apply Kd.V_drew));exact HO113.out) (Kd.N_base ho0) hb)
      have n3_:=mA (Kd.N_lower (Kd.N_mono (ok':=fun k_=>(P0_ k_∨w.heap.size≤k_)) ho0 (fun k_ hk_=>Or.elim hk_ (fun hs_=>hs_) (fun hn_=>(.inr (Nat.le_trans (bZ (by repeat (first|(with_reducible first|exact HB.out|apply bA|apply bN|apply bD)|exact HB.out))) hn_))))) (bZ (by repeat (first|(with_reducible first|exact HB.out|apply bA|apply bN|apply bD)|exact HB.out))))
      have n4_:=mA (bT (by repeat (first|(with_reducible first|exact HB.out|apply bA|apply bN|apply bD)|exact HB.out)) hb)
      clear HO0
      clear HO105
      clear HO113
      clear HB
      have HO0:=n0_
      have HO105:=n1_
      have HO113:=n2_
      have HO108:=n3_
      have HB:=n4_
      clear n0_ n1_ n2_ n3_ n4_
      (try clear hb)
      (try clear hb2)
      (try clear hk)
      (try clear hi)
      (try clear ho0)
      refine hK.out _ _ trivial (fun hHeld=>?_)
      clear hK K
      refine norm_ (a':=?_) ?_ ?_
      rotate_left
      ·show Act.put _ (some 8) _=_
       simp only [Act.put,sA,sZ,sS,i64_w,i32_w]
       rfl
      refine one_ (i:=8) (N:=some 13) #[I,I,I,I,I,I,I,I,I,O] rfl rfl (one_of HT_.out (by kernel_rfl)) (by decide) (fun K hK=>?_)
      refine Kd.N_append_rows_step k36 (w0:=w) w.heap.size (by rfl) (.tmp 8) (.tmp 12) 23 36 (.agg #[(.int .i64 0),(.slice none 0 0)]) 32 rfl Try.underlying23 info36 rfl (by decide) (by omega) v107 t106 y109 _ _ _ (fun k_=>(P0_ k_∨w.heap.size≤k_)) (fun k_=>((fun k_=>(P0_ k_∨w.heap.size≤k_))) k_∧some k_≠(v107:Value).ownBlock) rfl rfl ?aO ?aR (fun _ hk=>hk) ?aF ?aB ?aS ?aL ?_
      (case aR=>exact (by skip;exact Kd.V_F (Kd.V_mono (ok':=(fun k_=>((fun k_=>(P0_ k_∨w.heap.size≤k_))) k_∧some k_≠(v107:Value).ownBlock)) (HO113.out) (fun k_ hk=>⟨hk.1,hk.2⟩))))
      (case aB=>exact (by repeat (first|(with_reducible first|exact HB.out|apply bA|apply bN|apply bD)|exact HB.out)))
      (case aF=>exact (fun k_ hk=>(.inr (Nat.le_trans (bZ (by repeat (first|(with_reducible first|exact HB.out|apply bA|apply bN|apply bD)|exact HB.out))) hk))))
      (case aO=>exact (by (with_reducible repeat (first|apply nA|apply nN|apply nD));exact HO108.out))
      (case aS=>exact (bZ (by repeat (first|(with_reducible first|exact HB.out|apply bA|apply bN|apply bD)|exact HB.out))))
      (case aL=>have:=LMc9.out;omega)
      intro v115 w14 ho hb hg hat
      rw [←Ny114.out] at ho
      have n0_:=mA (Kd.V_afterv (ok:=(fun k_=>(P0_ k_∨w.heap.size≤k_))) (by (with_reducible repeat (first|apply Kd.V_alloc|apply Kd.V_drewN|apply Kd.V_drew));exact HO0.out) hg hat)
      have n1_:=mA (Kd.V_afterv (ok:=(fun k_=>(P0_ k_∨w.heap.size≤k_))) (by (with_reducible repeat (first|apply Kd.V_alloc|apply Kd.V_drewN|apply Kd.V_drew));exact HO105.out) hg hat)
      have n2_:=mA (Kd.V_afterv (ok:=(fun k_=>(P0_ k_∨w.heap.size≤k_))) (by (with_reducible repeat (first|apply Kd.V_alloc|apply Kd.V_drewN|apply Kd.V_drew));exact HO113.out) hg hat)
      have n3_:=mA (hb)
      have n4_:=mA (ho)
      clear HO0
      clear HO105
      clear HO113
      clear HB
      clear HO108
      have HO0:=n0_
      have HO105:=n1_
      have HO113:=n2_
      have HB:=n3_
      have HO116:=n4_
      clear n0_ n1_ n2_ n3_ n4_
      clear ho hb hg hat
      refine hK.out _ _ trivial (fun hHeld=>?_)
      clear hK K
      refine norm_ (a':=?_) ?_ ?_
      rotate_left
      ·show Act.put _ (some 13) _=_
       simp only [Act.put,sA,sZ,sS,i64_w,i32_w]
       rfl
      refine pure_ (i:=9) (N:=some 4) (v:=?_) (a':=?_) #[I,I,I,I,I,I,I,I,I,I] rfl rfl (any_of HT_.out (by kernel_rfl)) (fun _ _ _ h=>h) (Or.inl ⟨by rfl,?_⟩) ?_ ?_
      rotate_left
      ·intro w'
       go_simp
       with_reducible rfl
      rotate_left
      ·simp only [Act.put,sA,sZ,sS,i64_w,i32_w]
       rfl
      refine done_ (done_of HT_.out (by kernel_rfl)) ?_
      try go_wp2
      go_ret
      exact ⟨_,by first|rfl|(simp [errW_none,errW_some]<;>rfl)|(simp only [←hji6];first|rfl|(simp [errW_none,errW_some]<;>rfl))|(simp [*, errW_none,errW_some]<;>rfl),by (with_reducible repeat (first|apply nA|apply nN|apply nD));exact HO116.out,by repeat (first|(with_reducible first|exact HB.out|apply bA|apply bN|apply bD)|exact HB.out)⟩
     ·rw [if_neg c9] at H
      exact absurd H (by simp)
    ·rw [if_neg c8] at H
     exact absurd H (by simp)
   ·rw [if_neg c7] at H
    exact absurd H (by simp)
  ·rw [if_neg c4] at H
   exact absurd H (by simp)
 ·rw [if_neg c3] at H
  exact absurd H (by simp)
/-! ### impl_NeedlessClaims: function 85 -/
def impl_NeedlessClaims.l0:Nat→Int→List (S36)→List Int→Int→Int→Option (List Int)
 | 0,_,_,_,_,_=>none
 | k+1,x0,x1,x5,x13,x14=>if x14<x13 then ((impl_without.f x1 x14).bind fun t105=>((impl_storyTable.f k x0 t105).bind fun t108=>((impl_storyTable.f k x0 x1).bind fun t109=>(if t108=t109 then (if x5.length<17592186044416 then (impl_NeedlessClaims.l0 k x0 x1 (x5++[x14]) x13 (wrap64 (x14+1))) else (none)) else (impl_NeedlessClaims.l0 k x0 x1 x5 x13 (wrap64 (x14+1))))))) else (some x5)
def impl_NeedlessClaims.f (k:Nat) (a0:Int) (l1:List (S36)):Option (List Int):=(impl_StoryOk.f k a0 l1).bind fun t101=>(if t101=true then (impl_NeedlessClaims.l0 k a0 l1 (([]:List Int)) (l1.length:Int) 0) else (some ([]:List Int)))
theorem impl_NeedlessClaims.mono_l : ∀ k,(∀ y0 y1 y2 y3 y4,LeO (impl_NeedlessClaims.l0 k y0 y1 y2 y3 y4) (impl_NeedlessClaims.l0 (k+1) y0 y1 y2 y3 y4))
 | 0=>fun _ _ _ _ _ r h=>by simp [impl_NeedlessClaims.l0] at h
 | k+1=>by
  have ih0:=impl_NeedlessClaims.mono_l k
  ·intro y0 y1 y2 y3 y4
   unfold impl_NeedlessClaims.l0
   repeat' first
   | (with_reducible exact ih0 _ _ _ _ _)
   | (with_reducible exact impl_StoryOk.mono _ _ _)
   | (with_reducible exact impl_storyTable.mono _ _ _)
   | (with_reducible exact LeO.refl _)
   | (with_reducible exact LeO.none _)
   | (with_reducible refine LeO.ite ?_ ?_)
   | (with_reducible refine LeO.bind ?_ (fun _=>?_))
   | exact ih0 _ _ _ _ _
   | exact impl_StoryOk.mono _ _ _
   | exact impl_storyTable.mono _ _ _
   | exact LeO.none _
   | refine LeO.ite ?_ ?_
   | refine LeO.bind ?_ (fun _=>?_)
theorem impl_NeedlessClaims.mono : ∀ a0 a1 k,LeO (impl_NeedlessClaims.f k a0 a1) (impl_NeedlessClaims.f (k+1) a0 a1):=by
 intro a0 a1 k
 have ih0:=impl_NeedlessClaims.mono_l k
 unfold impl_NeedlessClaims.f
 repeat' first
   | (with_reducible exact ih0 _ _ _ _ _)
   | (with_reducible exact impl_StoryOk.mono _ _ _)
   | (with_reducible exact impl_storyTable.mono _ _ _)
   | (with_reducible exact LeO.refl _)
   | (with_reducible exact LeO.none _)
   | (with_reducible refine LeO.ite ?_ ?_)
   | (with_reducible refine LeO.bind ?_ (fun _=>?_))
   | exact ih0 _ _ _ _ _
   | exact impl_StoryOk.mono _ _ _
   | exact impl_storyTable.mono _ _ _
   | exact LeO.none _
   | refine LeO.ite ?_ ?_
   | refine LeO.bind ?_ (fun _=>?_)
set_option maxHeartbeats 8000000 in
set_option maxRecDepth 100000 in
theorem impl_NeedlessClaims.calls (k:Nat) (a0:Int) (A1:Option Addr) (c1:Nat) (l1:List (S36)) (r:List Int) (w:World) (hr1:Kd.C k36 w A1 l1.length l1) (hc1:l1.length≤c1) (h:impl_NeedlessClaims.f k a0 l1=some r) :
  Calls Try.prog 85 #[.int .i64 a0,.slice A1 l1.length c1] w fun e w'=>∃ v0_:Value,e = .returned (v0_)∧Kd.R (Kd.int .i64) 3 w' w.heap.size (fun _=>True) v0_ r∧Below w.heap.size w w':=by
 have HR1:=mA hr1
 have HC1:=mA hc1
 clear hr1 hc1
 have HB:=mA (Below.refl w.heap.size w)
 have H:((impl_StoryOk.f k a0 l1).bind fun t101=>(if t101=true then (impl_NeedlessClaims.l0 k a0 l1 (([]:List Int)) (l1.length:Int) 0) else (some ([]:List Int))))=some r:=h
 clear h
 replace H:=Option.bind_eq_some_iff.mp H
 obtain ⟨t101,A30,H⟩:=H
 replace H:(if t101=true then (impl_NeedlessClaims.l0 k a0 l1 (([]:List Int)) (l1.length:Int) 0) else (some ([]:List Int)))=some r:=H
 have A3:=mA A30
 clear A30
 by_cases c4:t101=true
 ·subst c4
  have H1:(impl_NeedlessClaims.l0 k a0 l1 (([]:List Int)) (l1.length:Int) 0)=some r:=by rw [if_pos rfl] at H;exact H
  clear H
  have H:=H1
  clear H1
  obtain ⟨y102,hy102⟩ : ∃ y_:List Int,y_=(([]:List Int)):=⟨_,rfl⟩
  replace H:(impl_NeedlessClaims.l0 k a0 l1 y102 (l1.length:Int) 0)=some r:=by first|(rw [hy102];with_reducible exact H)|(have H2_:=(Option.bind_some _ _).symm.trans H;rw [hy102];with_reducible exact H2_)|(have H2_:=(Option.bind_some _ _).symm.trans H;with_reducible exact H2_)|with_reducible exact H|(rw [hy102];exact H)|exact H
  have Ny102:=mA hy102
  clear hy102
  have H':=mA H
  clear H
  go_enter Try.func85,Try.ntmps85
  go_wp2_with (first|((with_reducible refine gate_callee (f:=61) rfl ?_);refine goesL_ (some 9) rfl rfl Try.func61 (by kernel_rfl) rfl #[.int .i64 a0,.slice A1 l1.length c1] rfl (by (try simp only [mT,mC,mN]);first|done|rfl|(simp only [lD,lT];rfl)) ?_;(with_reducible refine (impl_StoryOk.calls k a0 _ _ l1 true _ ?side1 ?side2 A3.out).mono ?_);(case side1=>repeat (first|exact HR1.out|(with_reducible refine cA ?_ _)|(with_reducible refine cN ?_ _)|(with_reducible refine cD ?_)));(case side2=>exact HC1.out);rintro e w5 ⟨rfl,hb⟩;refine ⟨_,rfl,?_⟩;have n0_:=mA (bT (by repeat (first|(with_reducible first|exact HB.out|apply bA|apply bN|apply bD)|exact HB.out)) hb);clear HB;have HB:=n0_;clear n0_;(try clear hb);(try clear hb2);(try clear hk);(try clear hi))|((with_reducible refine gate_dst (N:=11) rfl ?_);refine Kd.R_lit (Kd.int .i64) _ 3 ?hg (N:=11) ?hd (xs:=([]:List Int)) (inner:=[]) (ok:=fun _=>True) (okp:=fun _=>True) ?hr ?hp (fun _ hk=>hk) trivial (Below.refl _ _) (Nat.le_refl _) (by simp) ?_;(case hd=>rfl);(case hg=>rfl);(case hr=>first|(go_simp;done)|(go_simp;rfl));(case hp=>exact (Reps.none _ _));intro v103 w6 ho7 hb hg_ hnew_;clear hg_ hnew_;(first|rw [←Ny102.out] at ho7|(simp only [Int.reduceToNat] at ho7;rw [←Ny102.out] at ho7));have n0_:=mA (Kd.R_lower ho7 (bZ (by repeat (first|(with_reducible first|exact HB.out|apply bA|apply bN|apply bD)|exact HB.out))));have n1_:=mA (bT (by repeat (first|(with_reducible first|exact HB.out|apply bA|apply bN|apply bD)|exact HB.out)) hb);clear HB;have HO104:=n0_;have HB:=n1_;clear n0_ n1_ hb ho7))
  go_loopg [5,14] k (fun kq v5 v14 w'=>∃ (x5_1:List Int) (x14_1:Int),v14 = .int .i64 x14_1∧Aside0 (impl_NeedlessClaims.l0 kq a0 l1 x5_1 (l1.length:Int) x14_1=some r)∧Aside0 (kq≤k)∧Aside0 (Kd.R (Kd.int .i64) 3 w' w.heap.size (fun _=>True) v5 x5_1)∧Aside0 (Below w.heap.size w w'))
  case atStart=>exact ⟨(y102),(0),(by first|rfl|(simp;done)|(simp [*];done)),H',⟨Nat.le_refl _⟩,⟨by (with_reducible repeat (first|apply rA|apply rN|apply rD));exact HO104.out⟩,⟨by repeat (first|(with_reducible first|exact HB.out|apply bA|apply bN|apply bD)|exact HB.out)⟩⟩
  case round =>
   clear H'
   try clear c1
   try clear p2
   try clear c4
   try clear c6
   obtain ⟨x5_1,x14_1,rfl,HA,HK1,HO_5,HB⟩:=hrel
   cases gk with
   | zero=>exact absurd HA.out (by simp [impl_NeedlessClaims.l0])
   | succ k1 =>
    have H:=HA.out
    clear HA
    simp only [impl_NeedlessClaims.l0] at H
    by_cases c8:x14_1<(l1.length:Int)
    ·rw [if_pos c8] at H
     have c8b0:decide (x14_1<(l1.length:Int))=true:=decide_eq_true c8
     clear c8
     replace H:=Option.bind_eq_some_iff.mp H
     obtain ⟨t105,A90,H⟩:=H
     replace H:((impl_storyTable.f k1 a0 t105).bind fun t108=>((impl_storyTable.f k1 a0 l1).bind fun t109=>(if t108=t109 then (if x5_1.length<17592186044416 then (impl_NeedlessClaims.l0 k1 a0 l1 (x5_1++[x14_1]) (l1.length:Int) (wrap64 (x14_1+1))) else (none)) else (impl_NeedlessClaims.l0 k1 a0 l1 x5_1 (l1.length:Int) (wrap64 (x14_1+1))))))=some r:=H
     have A9:=mA A90
     clear A90
     replace H:=Option.bind_eq_some_iff.mp H
     obtain ⟨t108,A100,H⟩:=H
     replace H:((impl_storyTable.f k1 a0 l1).bind fun t109=>(if t108=t109 then (if x5_1.length<17592186044416 then (impl_NeedlessClaims.l0 k1 a0 l1 (x5_1++[x14_1]) (l1.length:Int) (wrap64 (x14_1+1))) else (none)) else (impl_NeedlessClaims.l0 k1 a0 l1 x5_1 (l1.length:Int) (wrap64 (x14_1+1)))))=some r:=H
     have A10:=mA A100
     clear A100
     replace H:=Option.bind_eq_some_iff.mp H
     obtain ⟨t109,A110,H⟩:=H
     replace H:(if t108=t109 then (if x5_1.length<17592186044416 then (impl_NeedlessClaims.l0 k1 a0 l1 (x5_1++[x14_1]) (l1.length:Int) (wrap64 (x14_1+1))) else (none)) else (impl_NeedlessClaims.l0 k1 a0 l1 x5_1 (l1.length:Int) (wrap64 (x14_1+1))))=some r:=H
     have A11:=mA A110
     clear A110
     by_cases c12:t108=t109
     ·rw [if_pos c12] at H
      have c12b0:(t108==t109)=true:=beq_iff_eq.mpr c12
      have c12b1:(t108 != t109)=false:=bne_eq_false_iff_eq.mpr c12
      clear c12
      by_cases c13:x5_1.length<17592186044416
      ·rw [if_pos c13] at H
       have LMc13:=mA c13
       clear c13
       obtain ⟨y110,hy110⟩ : ∃ y_:List Int,y_=(x5_1++[x14_1]):=⟨_,rfl⟩
       replace H:(impl_NeedlessClaims.l0 k1 a0 l1 y110 (l1.length:Int) (wrap64 (x14_1+1)))=some r:=by first|(rw [hy110];with_reducible exact H)|(have H2_:=(Option.bind_some _ _).symm.trans H;rw [hy110];with_reducible exact H2_)|(have H2_:=(Option.bind_some _ _).symm.trans H;with_reducible exact H2_)|with_reducible exact H|(rw [hy110];exact H)|exact H
       have Ny110:=mA hy110
       clear hy110
       have H':=mA H
       clear H
       go_wp2_with (first|((with_reducible refine gate_callee (f:=135) rfl ?_);refine goesL_ (some 20) rfl rfl Try.func135 (by kernel_rfl) rfl #[.slice A1 l1.length c1,.int .i64 x14_1] rfl (by (try simp only [mT,mC,mN]);first|done|rfl|(simp only [lD,lT];rfl)) ?_;(with_reducible refine (impl_without.calls (fun k_=>k_<w.heap.size) _ _ l1 x14_1 t105 _ ?side1 A9.out).mono ?_);(case side1=>exact Kd.V_mk HC1.out (Kd.F_below (Kd.C_F k36_heap HR1.out) (by repeat (first|(with_reducible first|exact HB.out|apply bA|apply bN|apply bD)|exact HB.out))));rintro e w14 ⟨v106,rfl,ho0,hb⟩;refine ⟨_,rfl,?_⟩;have n0_:=mA (rB (by (with_reducible repeat (first|apply rA|apply rN|apply rD));exact HO_5.out) hb);have n1_:=mA (Kd.N_lower (Kd.N_mono (ok':=fun k_=>some k_≠(u5:Value).ownBlock) ho0 (fun k_ hk_=>Or.elim hk_ (fun hs_=>fun e_=>Nat.not_le.2 hs_ (Kd.R_base HO_5.out k_ e_.symm)) (fun hn_=>(Kd.fresh' (rL (by (with_reducible repeat (first|apply rA|apply rN|apply rD));exact HO_5.out)) k_ hn_)))) (bZ (by repeat (first|(with_reducible first|exact HB.out|apply bA|apply bN|apply bD)|exact HB.out))));have n2_:=mA (bT (by repeat (first|(with_reducible first|exact HB.out|apply bA|apply bN|apply bD)|exact HB.out)) hb);clear HO_5 HB;have HO_5:=n0_;have HO107:=n1_;have HB:=n2_;clear n0_ n1_ n2_;(try clear hb);(try clear hb2);(try clear hk);(try clear hi);(try clear ho0);obtain ⟨Ao15,co15,eo15⟩:=Kd.N_slice HO107.out;subst eo15)|((with_reducible refine gate_callee (f:=126) rfl ?_);refine goesL_ (some 21) rfl rfl Try.func126 (by kernel_rfl) rfl #[.int .i64 a0,.slice Ao15 t105.length co15] rfl (by (try simp only [mT,mC,mN]);first|done|rfl|(simp only [lD,lT];rfl)) ?_;(with_reducible refine (impl_storyTable.calls k1 a0 _ _ t105 t108 _ ?side1 ?side2 A10.out).mono ?_);(case side1=>repeat (first|exact (Kd.N_reads' HO107.out).2.2|(with_reducible refine cA ?_ _)|(with_reducible refine cN ?_ _)|(with_reducible refine cD ?_)));(case side2=>exact (Kd.N_reads' HO107.out).2.1);rintro e w16 ⟨rfl,hb⟩;refine ⟨_,rfl,?_⟩;have n0_:=mA (rB (by (with_reducible repeat (first|apply rA|apply rN|apply rD));exact HO_5.out) hb);have n1_:=mA (Kd.N_below (by (with_reducible repeat (first|apply nA|apply nN|apply nD));exact HO107.out) hb);have n2_:=mA (bT (by repeat (first|(with_reducible first|exact HB.out|apply bA|apply bN|apply bD)|exact HB.out)) hb);clear HO_5 HO107 HB;have HO_5:=n0_;have HO107:=n1_;have HB:=n2_;clear n0_ n1_ n2_;(try clear hb);(try clear hb2);(try clear hk);(try clear hi))|((with_reducible refine gate_callee (f:=126) rfl ?_);refine goesL_ (some 24) rfl rfl Try.func126 (by kernel_rfl) rfl #[.int .i64 a0,.slice A1 l1.length c1] rfl (by (try simp only [mT,mC,mN]);first|done|rfl|(simp only [lD,lT];rfl)) ?_;(with_reducible refine (impl_storyTable.calls k1 a0 _ _ l1 t109 _ ?side1 ?side2 A11.out).mono ?_);(case side1=>repeat (first|exact (Kd.C_below HR1.out HB.out)|(with_reducible refine cA ?_ _)|(with_reducible refine cN ?_ _)|(with_reducible refine cD ?_)));(case side2=>exact HC1.out);rintro e w17 ⟨rfl,hb⟩;refine ⟨_,rfl,?_⟩;have n0_:=mA (rB (by (with_reducible repeat (first|apply rA|apply rN|apply rD));exact HO_5.out) hb);have n1_:=mA (Kd.N_below (by (with_reducible repeat (first|apply nA|apply nN|apply nD));exact HO107.out) hb);have n2_:=mA (bT (by repeat (first|(with_reducible first|exact HB.out|apply bA|apply bN|apply bD)|exact HB.out)) hb);clear HO_5 HO107 HB;have HO_5:=n0_;have HO107:=n1_;have HB:=n2_;clear n0_ n1_ n2_;(try clear hb);(try clear hb2);(try clear hk);(try clear hi))|((with_reducible refine gate_builtin (b:=.append) (xs:=#[.tmp 26,.tmp 28]) rfl ?_);at_builtin;refine Kd.R_append (Kd.int .i64) (w0:=w) w.heap.size rfl (.tmp 26) (.tmp 28) 26 3 (.int .i64 0) 8 rfl Try.underlying26 info3 rfl (by decide) (by omega) u5 x5_1 x14_1 [.int .i64 x14_1] (fun _=>True) (fun _=>False) rfl rfl ?aP (fun _ hk=>hk.elim) ?aF ?aO ?aB ?aS ?aL ?_;(case aP=>exact rfl);(case aB=>exact (by repeat (first|(with_reducible first|exact HB.out|apply bA|apply bN|apply bD)|exact HB.out)));(case aF=>exact (fun _ _=>trivial));(case aO=>exact (by (with_reducible repeat (first|apply rA|apply rN|apply rD));exact HO_5.out));(case aS=>exact (bZ (by repeat (first|(with_reducible first|exact HB.out|apply bA|apply bN|apply bD)|exact HB.out))));(case aL=>have:=LMc13.out;omega);intro v111 w18 ho hb hg hat;rw [←Ny110.out] at ho;have n0_:=mA (Kd.N_afterv (ok:=(fun _=>True)) (by (with_reducible repeat (first|apply nA|apply nN|apply nD));exact Kd.N_mono HO107.out (fun _ hk=>⟨trivial,hk⟩)) hg hat);have n1_:=mA (hb);have n2_:=mA (ho);clear HO107 HB HO_5;have HO107:=n0_;have HB:=n1_;have HO112:=n2_;clear n0_ n1_ n2_ ho hb hg hat))
       go_roundg k1
       case measure=>have:=HK1.out;omega
       case rel=>exact ⟨(y110),(wrap64 (x14_1+1)),(by first|rfl|(simp;done)|(simp [*];done)),H',⟨by have:=HK1.out;omega⟩,⟨by (with_reducible repeat (first|apply rA|apply rN|apply rD));exact HO112.out⟩,⟨by repeat (first|(with_reducible first|exact HB.out|apply bA|apply bN|apply bD)|exact HB.out)⟩⟩
      ·rw [if_neg c13] at H
       exact absurd H (by simp)
     ·rw [if_neg c12] at H
      have c12b0:(t108==t109)=false:=beq_eq_false_iff_ne.mpr c12
      have c12b1:(t108 != t109)=true:=bne_iff_ne.mpr c12
      have H':=mA H
      clear H
      go_wp2_with (first|((with_reducible refine gate_callee (f:=135) rfl ?_);refine goesL_ (some 20) rfl rfl Try.func135 (by kernel_rfl) rfl #[.slice A1 l1.length c1,.int .i64 x14_1] rfl (by (try simp only [mT,mC,mN]);first|done|rfl|(simp only [lD,lT];rfl)) ?_;(with_reducible refine (impl_without.calls (fun k_=>k_<w.heap.size) _ _ l1 x14_1 t105 _ ?side1 A9.out).mono ?_);(case side1=>exact Kd.V_mk HC1.out (Kd.F_below (Kd.C_F k36_heap HR1.out) (by repeat (first|(with_reducible first|exact HB.out|apply bA|apply bN|apply bD)|exact HB.out))));rintro e w19 ⟨v106,rfl,ho0,hb⟩;refine ⟨_,rfl,?_⟩;have n0_:=mA (rB (by (with_reducible repeat (first|apply rA|apply rN|apply rD));exact HO_5.out) hb);have n1_:=mA (Kd.N_lower (Kd.N_mono (ok':=fun k_=>some k_≠(u5:Value).ownBlock) ho0 (fun k_ hk_=>Or.elim hk_ (fun hs_=>fun e_=>Nat.not_le.2 hs_ (Kd.R_base HO_5.out k_ e_.symm)) (fun hn_=>(Kd.fresh' (rL (by (with_reducible repeat (first|apply rA|apply rN|apply rD));exact HO_5.out)) k_ hn_)))) (bZ (by repeat (first|(with_reducible first|exact HB.out|apply bA|apply bN|apply bD)|exact HB.out))));have n2_:=mA (bT (by repeat (first|(with_reducible first|exact HB.out|apply bA|apply bN|apply bD)|exact HB.out)) hb);clear HO_5 HB;have HO_5:=n0_;have HO107:=n1_;have HB:=n2_;clear n0_ n1_ n2_;(try clear hb);(try clear hb2);(try clear hk);(try clear hi);(try clear ho0);obtain ⟨Ao20,co20,eo20⟩:=Kd.N_slice HO107.out;subst eo20)|((with_reducible refine gate_callee (f:=126) rfl ?_);refine goesL_ (some 21) rfl rfl Try.func126 (by kernel_rfl) rfl #[.int .i64 a0,.slice Ao20 t105.length co20] rfl (by (try simp only [mT,mC,mN]);first|done|rfl|(simp only [lD,lT];rfl)) ?_;(with_reducible refine (impl_storyTable.calls k1 a0 _ _ t105 t108 _ ?side1 ?side2 A10.out).mono ?_);(case side1=>repeat (first|exact (Kd.N_reads' HO107.out).2.2|(with_reducible refine cA ?_ _)|(with_reducible refine cN ?_ _)|(with_reducible refine cD ?_)));(case side2=>exact (Kd.N_reads' HO107.out).2.1);rintro e w21 ⟨rfl,hb⟩;refine ⟨_,rfl,?_⟩;have n0_:=mA (rB (by (with_reducible repeat (first|apply rA|apply rN|apply rD));exact HO_5.out) hb);have n1_:=mA (Kd.N_below (by (with_reducible repeat (first|apply nA|apply nN|apply nD));exact HO107.out) hb);have n2_:=mA (bT (by repeat (first|(with_reducible first|exact HB.out|apply bA|apply bN|apply bD)|exact HB.out)) hb);clear HO_5 HO107 HB;have HO_5:=n0_;have HO107:=n1_;have HB:=n2_;clear n0_ n1_ n2_;(try clear hb);(try clear hb2);(try clear hk);(try clear hi))|((with_reducible refine gate_callee (f:=126) rfl ?_);refine goesL_ (some 24) rfl rfl Try.func126 (by kernel_rfl) rfl #[.int .i64 a0,.slice A1 l1.length c1] rfl (by (try simp only [mT,mC,mN]);first|done|rfl|(simp only [lD,lT];rfl)) ?_;(with_reducible refine (impl_storyTable.calls k1 a0 _ _ l1 t109 _ ?side1 ?side2 A11.out).mono ?_);(case side1=>repeat (first|exact (Kd.C_below HR1.out HB.out)|(with_reducible refine cA ?_ _)|(with_reducible refine cN ?_ _)|(with_reducible refine cD ?_)));(case side2=>exact HC1.out);rintro e w22 ⟨rfl,hb⟩;refine ⟨_,rfl,?_⟩;have n0_:=mA (rB (by (with_reducible repeat (first|apply rA|apply rN|apply rD));exact HO_5.out) hb);have n1_:=mA (Kd.N_below (by (with_reducible repeat (first|apply nA|apply nN|apply nD));exact HO107.out) hb);have n2_:=mA (bT (by repeat (first|(with_reducible first|exact HB.out|apply bA|apply bN|apply bD)|exact HB.out)) hb);clear HO_5 HO107 HB;have HO_5:=n0_;have HO107:=n1_;have HB:=n2_;clear n0_ n1_ n2_;(try clear hb);(try clear hb2);(try clear hk);(try clear hi)))
      go_roundg k1
      case measure=>have:=HK1.out;omega
      case rel=>exact ⟨(x5_1),(wrap64 (x14_1+1)),(by first|rfl|(simp;done)|(simp [*];done)),H',⟨by have:=HK1.out;omega⟩,⟨by (with_reducible repeat (first|apply rA|apply rN|apply rD));exact HO_5.out⟩,⟨by repeat (first|(with_reducible first|exact HB.out|apply bA|apply bN|apply bD)|exact HB.out)⟩⟩
    ·rw [if_neg c8] at H
     have c8b0:decide (x14_1<(l1.length:Int))=false:=decide_eq_false c8
     clear c8
     obtain rfl:=Option.some.inj H
     go_wp2
     go_ret
     exact ⟨_,by first|rfl|(simp [errW_none,errW_some]<;>rfl)|(simp [*, errW_none,errW_some]<;>rfl),by (with_reducible repeat (first|apply rA|apply rN|apply rD));exact HO_5.out,by repeat (first|(with_reducible first|exact HB.out|apply bA|apply bN|apply bD)|exact HB.out)⟩
 ·replace c4:=Bool.eq_false_iff.mpr c4
  subst c4
  have H1:(some ([]:List Int))=some r:=by rw [if_neg (show ¬ (false=true) by decide)] at H;exact H
  clear H
  have H:=H1
  clear H1
  obtain rfl:=Option.some.inj H
  go_enter Try.func85,Try.ntmps85
  go_wp2_with (first|((with_reducible refine gate_callee (f:=61) rfl ?_);refine goesL_ (some 9) rfl rfl Try.func61 (by kernel_rfl) rfl #[.int .i64 a0,.slice A1 l1.length c1] rfl (by (try simp only [mT,mC,mN]);first|done|rfl|(simp only [lD,lT];rfl)) ?_;(with_reducible refine (impl_StoryOk.calls k a0 _ _ l1 false _ ?side1 ?side2 A3.out).mono ?_);(case side1=>repeat (first|exact HR1.out|(with_reducible refine cA ?_ _)|(with_reducible refine cN ?_ _)|(with_reducible refine cD ?_)));(case side2=>exact HC1.out);rintro e w23 ⟨rfl,hb⟩;refine ⟨_,rfl,?_⟩;have n0_:=mA (bT (by repeat (first|(with_reducible first|exact HB.out|apply bA|apply bN|apply bD)|exact HB.out)) hb);clear HB;have HB:=n0_;clear n0_;(try clear hb);(try clear hb2);(try clear hk);(try clear hi)))
  go_ret
  exact ⟨_,by first|rfl|(simp [errW_none,errW_some]<;>rfl)|(simp [*, errW_none,errW_some]<;>rfl),by first|exact Kd.R_nil _ _ _ _ _|exact Kd.N_nil _ _ _ _ _|exact Kd.V_nil _ _ _ _ _|exact Kd.Q_nil _ _ _ _ _|exact Kd.S_nil _ _ _ _ _,by repeat (first|(with_reducible first|exact HB.out|apply bA|apply bN|apply bD)|exact HB.out)⟩
/-! ### laws_sameInts: function 86 -/
def laws_sameInts.l0:Nat→List Int→List Int→Int→Option (Bool)
 | 0,_,_,_=>none
 | k+1,x0,x1,x5=>if x5<(x0.length:Int) then (if 0≤x5 then (if x5<(x1.length:Int) then (if (rd x0 x5)=(rd x1 x5) then (laws_sameInts.l0 k x0 x1 (wrap64 (x5+1))) else (some false)) else (none)) else (none)) else (some true)
def laws_sameInts.f (k:Nat) (l0:List Int) (l1:List Int):Option (Bool):=if (l0.length:Int)=(l1.length:Int) then (laws_sameInts.l0 k l0 l1 0) else (some false)
theorem laws_sameInts.mono_l : ∀ k,(∀ y0 y1 y2,LeO (laws_sameInts.l0 k y0 y1 y2) (laws_sameInts.l0 (k+1) y0 y1 y2))
 | 0=>fun _ _ _ r h=>by simp [laws_sameInts.l0] at h
 | k+1=>by
  have ih0:=laws_sameInts.mono_l k
  ·intro y0 y1 y2
   unfold laws_sameInts.l0
   repeat' first
   | (with_reducible exact ih0 _ _ _)
   | (with_reducible exact LeO.refl _)
   | (with_reducible exact LeO.none _)
   | (with_reducible refine LeO.ite ?_ ?_)
   | (with_reducible refine LeO.bind ?_ (fun _=>?_))
   | exact ih0 _ _ _
   | exact LeO.none _
   | refine LeO.ite ?_ ?_
   | refine LeO.bind ?_ (fun _=>?_)
theorem laws_sameInts.mono : ∀ a0 a1 k,LeO (laws_sameInts.f k a0 a1) (laws_sameInts.f (k+1) a0 a1):=by
 intro a0 a1 k
 have ih0:=laws_sameInts.mono_l k
 unfold laws_sameInts.f
 repeat' first
   | (with_reducible exact ih0 _ _ _)
   | (with_reducible exact LeO.refl _)
   | (with_reducible exact LeO.none _)
   | (with_reducible refine LeO.ite ?_ ?_)
   | (with_reducible refine LeO.bind ?_ (fun _=>?_))
   | exact ih0 _ _ _
   | exact LeO.none _
   | refine LeO.ite ?_ ?_
   | refine LeO.bind ?_ (fun _=>?_)
set_option maxHeartbeats 8000000 in
set_option maxRecDepth 100000 in
theorem laws_sameInts.calls (k:Nat) (A0:Option Addr) (c0:Nat) (l0:List Int) (A1:Option Addr) (c1:Nat) (l1:List Int) (r:Bool) (w:World) (hr0:Kd.C (Kd.int .i64) w A0 l0.length l0) (hc0:l0.length≤c0) (hr1:Kd.C (Kd.int .i64) w A1 l1.length l1) (hc1:l1.length≤c1) (h:laws_sameInts.f k l0 l1=some r) :
  Calls Try.prog 86 #[.slice A0 l0.length c0,.slice A1 l1.length c1] w fun e w'=>e = .returned (.bool r)∧Drawn0 w w':=by
 have HR0:=mA hr0
 have HC0:=mA hc0
 clear hr0 hc0
 have HR1:=mA hr1
 have HC1:=mA hc1
 clear hr1 hc1
 have H:(if (l0.length:Int)=(l1.length:Int) then (laws_sameInts.l0 k l0 l1 0) else (some false))=some r:=h
 clear h
 by_cases c3:(l0.length:Int)=(l1.length:Int)
 ·rw [if_pos c3] at H
  have c3b0:((l0.length:Int)==(l1.length:Int))=true:=beq_iff_eq.mpr c3
  have c3b1:((l0.length:Int) != (l1.length:Int))=false:=bne_eq_false_iff_eq.mpr c3
  have c3b2:(l0.length==l1.length)=true:=by first|simpa using c3|(simp at c3 ⊢;omega)
  clear c3
  have H':=mA H
  clear H
  go_enter Try.func86,Try.ntmps86
  go_wp2
  repeat (go_quiet (fail);try go_wp2)
  go_loopg [5] k (fun kq v5 w'=>∃ (x5_1:Int),v5 = .int .i64 x5_1∧Aside0 (laws_sameInts.l0 kq l0 l1 x5_1=some r)∧Aside0 (kq≤k)∧Drawn0 w w')
  case atStart=>exact ⟨(0),(by first|rfl|(simp;done)|(simp [*];done)),H',⟨Nat.le_refl _⟩,by repeat (first|exact Drawn0.refl _|apply Drawn0.step)⟩
  case round =>
   clear H'
   try clear c1
   try clear p2
   try clear c3
   try clear c3b0
   try clear c3b1
   try clear c3b2
   obtain ⟨x5_1,rfl,HA,HK1,⟨m1,rfl⟩⟩:=hrel
   cases gk with
   | zero=>exact absurd HA.out (by simp [laws_sameInts.l0])
   | succ k1 =>
    have H:=HA.out
    clear HA
    simp only [laws_sameInts.l0] at H
    by_cases c4:x5_1<(l0.length:Int)
    ·rw [if_pos c4] at H
     have c4b0:decide (x5_1<(l0.length:Int))=true:=decide_eq_true c4
     clear c4
     by_cases c5:0≤x5_1
     ·rw [if_pos c5] at H
      have c5b0:decide (0≤x5_1)=true:=decide_eq_true c5
      clear c5
      by_cases c6:x5_1<(l1.length:Int)
      ·rw [if_pos c6] at H
       have c6b0:decide (x5_1<(l1.length:Int))=true:=decide_eq_true c6
       clear c6
       by_cases c7:(rd l0 x5_1)=(rd l1 x5_1)
       ·rw [if_pos c7] at H
        have c7b0:((rd l0 x5_1)==(rd l1 x5_1))=true:=beq_iff_eq.mpr c7
        have c7b1:((rd l0 x5_1) != (rd l1 x5_1))=false:=bne_eq_false_iff_eq.mpr c7
        clear c7
        have H':=mA H
        clear H
        have p101:0≤(x5_1:Int):=of_decide_eq_true (by first|(with_reducible assumption)|assumption)
        have q101:x5_1<(l0.length:Int):=of_decide_eq_true (by first|(with_reducible assumption)|assumption)
        obtain ⟨ad101,e101,hx101_0⟩:=Kd.at_int HR0.out x5_1 p101 q101
        cases e101
        replace p101:=eq_true p101
        replace q101:=eq_true q101
        have p102:0≤(x5_1:Int):=of_decide_eq_true (by first|(with_reducible assumption)|assumption)
        have q102:x5_1<(l1.length:Int):=of_decide_eq_true (by first|(with_reducible assumption)|assumption)
        obtain ⟨ad102,e102,hx102_0⟩:=Kd.at_int HR1.out x5_1 p102 q102
        cases e102
        replace p102:=eq_true p102
        replace q102:=eq_true q102
        go_wp2
        repeat (go_quiet (fail);try go_wp2)
        go_roundg k1
        case measure=>have:=HK1.out;omega
        case rel=>exact ⟨(wrap64 (x5_1+1)),(by first|rfl|(simp;done)|(simp [*];done)),H',⟨by have:=HK1.out;omega⟩,by repeat (first|exact Drawn0.refl _|apply Drawn0.step)⟩
       ·rw [if_neg c7] at H
        have c7b0:((rd l0 x5_1)==(rd l1 x5_1))=false:=beq_eq_false_iff_ne.mpr c7
        have c7b1:((rd l0 x5_1) != (rd l1 x5_1))=true:=bne_iff_ne.mpr c7
        obtain rfl:=Option.some.inj H
        have p101:0≤(x5_1:Int):=of_decide_eq_true (by first|(with_reducible assumption)|assumption)
        have q101:x5_1<(l0.length:Int):=of_decide_eq_true (by first|(with_reducible assumption)|assumption)
        obtain ⟨ad101,e101,hx101_0⟩:=Kd.at_int HR0.out x5_1 p101 q101
        cases e101
        replace p101:=eq_true p101
        replace q101:=eq_true q101
        have p102:0≤(x5_1:Int):=of_decide_eq_true (by first|(with_reducible assumption)|assumption)
        have q102:x5_1<(l1.length:Int):=of_decide_eq_true (by first|(with_reducible assumption)|assumption)
        obtain ⟨ad102,e102,hx102_0⟩:=Kd.at_int HR1.out x5_1 p102 q102
        cases e102
        replace p102:=eq_true p102
        replace q102:=eq_true q102
        go_wp2
        repeat (go_quiet (fail);try go_wp2)
        go_ret
        exact ⟨by first|rfl|(simp;done)|(simp [*];done),by repeat (first|exact Drawn0.refl _|apply Drawn0.step)⟩
      ·rw [if_neg c6] at H
       exact absurd H (by simp)
     ·rw [if_neg c5] at H
      exact absurd H (by simp)
    ·rw [if_neg c4] at H
     have c4b0:decide (x5_1<(l0.length:Int))=false:=decide_eq_false c4
     clear c4
     obtain rfl:=Option.some.inj H
     go_wp2
     repeat (go_quiet (fail);try go_wp2)
     go_ret
     exact ⟨by first|rfl|(simp;done)|(simp [*];done),by repeat (first|exact Drawn0.refl _|apply Drawn0.step)⟩
 ·rw [if_neg c3] at H
  have c3b0:((l0.length:Int)==(l1.length:Int))=false:=beq_eq_false_iff_ne.mpr c3
  have c3b1:((l0.length:Int) != (l1.length:Int))=true:=bne_iff_ne.mpr c3
  have c3b2:(l0.length==l1.length)=false:=by first|simpa using c3|(simp at c3 ⊢;omega)
  obtain rfl:=Option.some.inj H
  go_enter Try.func86,Try.ntmps86
  go_wp2
  repeat (go_quiet (fail);try go_wp2)
  go_ret
  exact ⟨by first|rfl|(simp;done)|(simp [*];done),by repeat (first|exact Drawn0.refl _|apply Drawn0.step)⟩
end Go.Proofs.Ytpampekijfjlkab.X
