/- Joined by a program of this session's: X110, X111, X39, X67, X112, X59, X60, X113, X74, X114. -/
import Derived.Test.YtpampekijfjlkabGa4ed4a3048
import Derived.Test.YtpampekijfjlkabGe4d161c943
import Derived.Test.YtpampekijfjlkabG37845066d4
import Derived.Test.YtpampekijfjlkabG852afbd604
import Derived.Test.YtpampekijfjlkabG3a33d92e63
import Derived.Test.YtpampekijfjlkabGa49f039eca
import Derived.Test.YtpampekijfjlkabGbdacb0fde4
import Derived.Test.YtpampekijfjlkabGabc7714095
import Derived.Test.YtpampekijfjlkabG2dda78d225

namespace Go.Proofs.Ytpampekijfjlkab.X
open Go.RowKit Go.Proofs.YtpampekijfjlkabW.PrintWords Go.Proofs.YtpampekijfjlkabW.PrintLast Go.Proofs.YtpampekijfjlkabW.PrintMore
open Go.Proofs.YtpampekijfjlkabW.PrintWords renaming Aside0.mk → mA, pw_below_drewN → bN, below_drew1 → bD, below_alloc → bA, below_set → bS, blk_alloc → kA, blk_drewN → kN, blk_drew → kD, blk_cell → kC, blk_frozen → kF, below_size → bZ, below_step → bT, Kd.R_alloc → rA, Kd.R_drewN → rN, Kd.R_drew → rD, Kd.R_mono → rM, Kd.R_reads' → rR, Kd.R_far → rF, Kd.R_lt → rL, Kd.R_below → rB, Kd.R_elder' → rE, Kd.R_lower → rW, Kd.R_new' → rQ, Kd.R_types → rY, blk_put → kP, blk_far → kZ, blk_below → kB, blk_lt → kL, Kd.C_alloc → cA, Kd.C_drewN → cN, Kd.C_drew → cD
open Go.Proofs.Ytpampekijfjlkab.X renaming IsS113.alloc → iA, IsS113.drewN → iN, IsS113.drew → iD, IsS113.set_1 → iS, IsS113.far → iF, IsS113.ge → iG
open Option renaming bind_some → oS, bind_eq_some_iff → oB
open List renaming setIfInBounds_toArray → sA, set_cons_zero → sZ, set_cons_succ → sS, length_take → lT, length_drop → lD, map_toArray → mT, map_cons → mC, map_nil → mN
open Bool renaming true → I, false → O
attribute [local go_sem] max2_int min2_int max_two min_two max_three min_three max_four min_four   -- for this text's walks alone
set_option linter.unusedVariables false
set_option linter.unusedSimpArgs false
set_option maxHeartbeats 8000000 in
set_option maxRecDepth 100000 in
theorem spec_l20Odd.calls (k:Nat) (g:Nat) (s0_0:List Int) (s0_1:Int) (r1:Int) (r2:Int) (r3:List (S33)) (r4:Int) (w0 w:World) (hI:IsS113 w0 w g s0_0 s0_1) (hB:Below w0.heap.size w0 w) (h:spec_l20Odd.f k s0_0 s0_1=some (r1,r2,r3,r4)) :
  Calls Try.prog 132 #[.pointer (some ⟨g,0,none⟩)] w fun e w'=>∃ v2_:Value,e = .returned (.tuple #[.int .i64 r1,.agg #[.int .i64 r2,v2_]])∧Kd.R k33 33 w' w.heap.size (fun _=>True) v2_ r3∧IsS113 w0 w' g s0_0 r4∧Below w0.heap.size w0 w'∧KeepBut w w' g none:=by
 have hu36:=Try.underlying36
 have hu33:=Try.underlying33
 have HI0:=mA hI
 have HK:=mA (KeepBut.refl w g none)
 have HL:=mA hB.size
 clear hI
 have HW0:=mA hB.size
 have HB:=mA hB
 clear hB
 have H:((spec_l20Claimed.f k s0_0 s0_1 12).bind fun bt102=>((spec_l20Rd_pick.f k s0_0 bt102.2.2.2 4).bind fun bt109=>(if bt109.1=0 then ((spec_l20Rd_pick.f k s0_0 bt109.2 2).bind fun bt111=>((spec_KindClaim.f k bt102.1 bt102.2.1 bt102.2.1 (bt111.1==0)).bind fun bt113=>(if bt113.2.2=true then (some (bt102.1,bt113.1,bt113.2.1,bt111.2)) else (some (bt102.1,bt102.2.1,bt102.2.2.1,bt111.2))))) else (if bt109.1=1 then ((some (([]:List (S33)):List (S33))).bind fun y119=>(if y119.length+bt102.2.2.1.length<8796093022208 then ((some (y119++bt102.2.2.1:List (S33))).bind fun y122=>((some (([(⟨0,bt102.2.1⟩:S33),(⟨5,0⟩:S33)]:List (S33)):List (S33))).bind fun y125=>(if y122.length+y125.length<8796093022208 then ((some (y122++y125:List (S33))).bind fun y128=>((spec_ClaimOk.f k bt102.1 bt102.2.1 y128).bind fun t132=>(if t132=true then (some (bt102.1,bt102.2.1,y128,bt109.2)) else (some (bt102.1,bt102.2.1,bt102.2.2.1,bt109.2))))) else (none)))) else (none))) else (some (bt102.1,bt102.2.1,bt102.2.2.1,bt109.2))))))=some (r1,r2,r3,r4):=h
 clear h
 replace H:=oB.mp H
 obtain ⟨⟨t102,t103,t104,t107⟩,A20,H⟩:=H
 replace H:((spec_l20Rd_pick.f k s0_0 t107 4).bind fun bt109=>(if bt109.1=0 then ((spec_l20Rd_pick.f k s0_0 bt109.2 2).bind fun bt111=>((spec_KindClaim.f k t102 t103 t103 (bt111.1==0)).bind fun bt113=>(if bt113.2.2=true then (some (t102,bt113.1,bt113.2.1,bt111.2)) else (some (t102,t103,t104,bt111.2))))) else (if bt109.1=1 then ((some (([]:List (S33)):List (S33))).bind fun y119=>(if y119.length+t104.length<8796093022208 then ((some (y119++t104:List (S33))).bind fun y122=>((some (([(⟨0,t103⟩:S33),(⟨5,0⟩:S33)]:List (S33)):List (S33))).bind fun y125=>(if y122.length+y125.length<8796093022208 then ((some (y122++y125:List (S33))).bind fun y128=>((spec_ClaimOk.f k t102 t103 y128).bind fun t132=>(if t132=true then (some (t102,t103,y128,bt109.2)) else (some (t102,t103,t104,bt109.2))))) else (none)))) else (none))) else (some (t102,t103,t104,bt109.2)))))=some (r1,r2,r3,r4):=H
 have A2:=mA A20
 clear A20
 replace H:=oB.mp H
 obtain ⟨⟨t109,t110⟩,A30,H⟩:=H
 replace H:(if t109=0 then ((spec_l20Rd_pick.f k s0_0 t110 2).bind fun bt111=>((spec_KindClaim.f k t102 t103 t103 (bt111.1==0)).bind fun bt113=>(if bt113.2.2=true then (some (t102,bt113.1,bt113.2.1,bt111.2)) else (some (t102,t103,t104,bt111.2))))) else (if t109=1 then ((some (([]:List (S33)):List (S33))).bind fun y119=>(if y119.length+t104.length<8796093022208 then ((some (y119++t104:List (S33))).bind fun y122=>((some (([(⟨0,t103⟩:S33),(⟨5,0⟩:S33)]:List (S33)):List (S33))).bind fun y125=>(if y122.length+y125.length<8796093022208 then ((some (y122++y125:List (S33))).bind fun y128=>((spec_ClaimOk.f k t102 t103 y128).bind fun t132=>(if t132=true then (some (t102,t103,y128,t110)) else (some (t102,t103,t104,t110))))) else (none)))) else (none))) else (some (t102,t103,t104,t110))))=some (r1,r2,r3,r4):=H
 have A3:=mA A30
 clear A30
 by_cases c4:t109=0
 ·rw [if_pos c4] at H
  have c4b0:(t109==0)=true:=beq_iff_eq.mpr c4
  have c4b1:(t109 != 0)=false:=bne_eq_false_iff_eq.mpr c4
  clear c4
  replace H:=oB.mp H
  obtain ⟨⟨t111,t112⟩,A50,H⟩:=H
  replace H:((spec_KindClaim.f k t102 t103 t103 (t111==0)).bind fun bt113=>(if bt113.2.2=true then (some (t102,bt113.1,bt113.2.1,t112)) else (some (t102,t103,t104,t112))))=some (r1,r2,r3,r4):=H
  have A5:=mA A50
  clear A50
  replace H:=oB.mp H
  obtain ⟨⟨t113,t114,t117⟩,A60,H⟩:=H
  replace H:(if t117=true then (some (t102,t113,t114,t112)) else (some (t102,t103,t104,t112)))=some (r1,r2,r3,r4):=H
  have A6:=mA A60
  clear A60
  by_cases c7:t117=true
  ·subst c7
   have H1:(some (t102,t113,t114,t112))=some (r1,r2,r3,r4):=by rw [if_pos rfl] at H;exact H
   clear H
   have H:=H1
   clear H1
   simp only [Option.some.injEq,Prod.mk.injEq] at H
   obtain ⟨rfl,rfl,rfl,rfl⟩:=H
   exact spec_l20Odd.way12 k g s0_0 s0_1 t102 t103 t104 t107 t109 t110 t111 t112 t113 t114 true t113 t114 w0 w HI0.out HB.out A2.out A3.out (beq_iff_eq.mp c4b0) A5.out A6.out (if_pos rfl) (if_pos rfl)
  replace c7:=Bool.eq_false_iff.mpr c7
  subst c7
  have H1:(some (t102,t103,t104,t112))=some (r1,r2,r3,r4):=by rw [if_neg (show ¬ (false=true) by decide)] at H;exact H
  clear H
  have H:=H1
  clear H1
  simp only [Option.some.injEq,Prod.mk.injEq] at H
  obtain ⟨rfl,rfl,rfl,rfl⟩:=H
  exact spec_l20Odd.way12 k g s0_0 s0_1 t102 t103 t104 t107 t109 t110 t111 t112 t113 t114 false t103 t104 w0 w HI0.out HB.out A2.out A3.out (beq_iff_eq.mp c4b0) A5.out A6.out (if_neg (by decide)) (if_neg (by decide))
 rw [if_neg c4] at H
 have c4b0:(t109==0)=false:=beq_eq_false_iff_ne.mpr c4
 have c4b1:(t109 != 0)=true:=bne_iff_ne.mpr c4
 by_cases c48:t109=1
 ·rw [if_pos c48] at H
  have c48b0:(t109==1)=true:=beq_iff_eq.mpr c48
  have c48b1:(t109 != 1)=false:=bne_eq_false_iff_eq.mpr c48
  clear c48
  obtain ⟨y119,hy119⟩ : ∃ y_:List (S33),y_=(([]:List (S33))):=⟨_,rfl⟩
  replace H:(if y119.length+t104.length<8796093022208 then ((some (y119++t104:List (S33))).bind fun y122=>((some (([(⟨0,t103⟩:S33),(⟨5,0⟩:S33)]:List (S33)):List (S33))).bind fun y125=>(if y122.length+y125.length<8796093022208 then ((some (y122++y125:List (S33))).bind fun y128=>((spec_ClaimOk.f k t102 t103 y128).bind fun t132=>(if t132=true then (some (t102,t103,y128,t110)) else (some (t102,t103,t104,t110))))) else (none)))) else (none))=some (r1,r2,r3,r4):=by first|(rw [hy119];with_reducible exact H)|(have H2_:=(oS _ _).symm.trans H;rw [hy119];with_reducible exact H2_)|(have H2_:=(oS _ _).symm.trans H;with_reducible exact H2_)|with_reducible exact H|(rw [hy119];exact H)|exact H
  have Ny119:=mA hy119
  clear hy119
  by_cases c49:y119.length+t104.length<8796093022208
  ·rw [if_pos c49] at H
   have LMc49:=mA c49
   clear c49
   obtain ⟨y122,hy122⟩ : ∃ y_:List (S33),y_=(y119++t104):=⟨_,rfl⟩
   replace H:((some (([(⟨0,t103⟩:S33),(⟨5,0⟩:S33)]:List (S33)):List (S33))).bind fun y125=>(if y122.length+y125.length<8796093022208 then ((some (y122++y125:List (S33))).bind fun y128=>((spec_ClaimOk.f k t102 t103 y128).bind fun t132=>(if t132=true then (some (t102,t103,y128,t110)) else (some (t102,t103,t104,t110))))) else (none)))=some (r1,r2,r3,r4):=by first|(rw [hy122];with_reducible exact H)|(have H2_:=(oS _ _).symm.trans H;rw [hy122];with_reducible exact H2_)|(have H2_:=(oS _ _).symm.trans H;with_reducible exact H2_)|with_reducible exact H|(rw [hy122];exact H)|exact H
   have Ny122:=mA hy122
   clear hy122
   obtain ⟨y125,hy125⟩ : ∃ y_:List (S33),y_=(([(⟨0,t103⟩:S33),(⟨5,0⟩:S33)]:List (S33))):=⟨_,rfl⟩
   replace H:(if y122.length+y125.length<8796093022208 then ((some (y122++y125:List (S33))).bind fun y128=>((spec_ClaimOk.f k t102 t103 y128).bind fun t132=>(if t132=true then (some (t102,t103,y128,t110)) else (some (t102,t103,t104,t110))))) else (none))=some (r1,r2,r3,r4):=by first|(rw [hy125];with_reducible exact H)|(have H2_:=(oS _ _).symm.trans H;rw [hy125];with_reducible exact H2_)|(have H2_:=(oS _ _).symm.trans H;with_reducible exact H2_)|with_reducible exact H|(rw [hy125];exact H)|exact H
   have Ny125:=mA hy125
   clear hy125
   by_cases c50:y122.length+y125.length<8796093022208
   ·rw [if_pos c50] at H
    have LMc50:=mA c50
    clear c50
    obtain ⟨y128,hy128⟩ : ∃ y_:List (S33),y_=(y122++y125):=⟨_,rfl⟩
    replace H:((spec_ClaimOk.f k t102 t103 y128).bind fun t132=>(if t132=true then (some (t102,t103,y128,t110)) else (some (t102,t103,t104,t110))))=some (r1,r2,r3,r4):=by first|(rw [hy128];with_reducible exact H)|(have H2_:=(oS _ _).symm.trans H;rw [hy128];with_reducible exact H2_)|(have H2_:=(oS _ _).symm.trans H;with_reducible exact H2_)|with_reducible exact H|(rw [hy128];exact H)|exact H
    have Ny128:=mA hy128
    clear hy128
    replace H:=oB.mp H
    obtain ⟨t132,A510,H⟩:=H
    replace H:(if t132=true then (some (t102,t103,y128,t110)) else (some (t102,t103,t104,t110)))=some (r1,r2,r3,r4):=H
    have A51:=mA A510
    clear A510
    by_cases c52:t132=true
    ·subst c52
     have H1:(some (t102,t103,y128,t110))=some (r1,r2,r3,r4):=by rw [if_pos rfl] at H;exact H
     clear H
     have H:=H1
     clear H1
     simp only [Option.some.injEq,Prod.mk.injEq] at H
     obtain ⟨rfl,rfl,rfl,rfl⟩:=H
     exact spec_l20Odd.way34 k g s0_0 s0_1 t102 t103 t104 t107 t109 t110 y119 y122 y125 y128 true t103 y128 w0 w HI0.out HB.out A2.out A3.out c4 (beq_iff_eq.mp c48b0) Ny119.out Ny122.out Ny125.out Ny128.out LMc49.out LMc50.out A51.out (if_pos rfl) (if_pos rfl)
    replace c52:=Bool.eq_false_iff.mpr c52
    subst c52
    have H1:(some (t102,t103,t104,t110))=some (r1,r2,r3,r4):=by rw [if_neg (show ¬ (false=true) by decide)] at H;exact H
    clear H
    have H:=H1
    clear H1
    simp only [Option.some.injEq,Prod.mk.injEq] at H
    obtain ⟨rfl,rfl,rfl,rfl⟩:=H
    exact spec_l20Odd.way34 k g s0_0 s0_1 t102 t103 t104 t107 t109 t110 y119 y122 y125 y128 false t103 t104 w0 w HI0.out HB.out A2.out A3.out c4 (beq_iff_eq.mp c48b0) Ny119.out Ny122.out Ny125.out Ny128.out LMc49.out LMc50.out A51.out (if_neg (by decide)) (if_neg (by decide))
   rw [if_neg c50] at H
   exact absurd H (by simp)
  rw [if_neg c49] at H
  exact absurd H (by simp)
 rw [if_neg c48] at H
 have c48b0:(t109==1)=false:=beq_eq_false_iff_ne.mpr c48
 have c48b1:(t109 != 1)=true:=bne_iff_ne.mpr c48
 simp only [Option.some.injEq,Prod.mk.injEq] at H
 obtain ⟨rfl,rfl,rfl,rfl⟩:=H
 exact spec_l20Odd.way5 k g s0_0 s0_1 t102 t103 t104 t107 t109 t110 w0 w HI0.out HB.out A2.out A3.out c4 c48
/-! ### spec_DrawAlwaysSaid: function 74 -/
def spec_DrawAlwaysSaid.f (k:Nat) (l0:List Int):Option (Int×Int×(List (S33))):=(spec_l20Open.f l0).bind fun bt102=>((spec_l20Odd.f k bt102.1 bt102.2).bind fun bt105=>(some (bt105.1,bt105.2.1,bt105.2.2.1)))
theorem spec_DrawAlwaysSaid.mono : ∀ a0 k,LeO (spec_DrawAlwaysSaid.f k a0) (spec_DrawAlwaysSaid.f (k+1) a0):=by
 intro a0 k
 unfold spec_DrawAlwaysSaid.f
 repeat' first
   | (with_reducible exact spec_l20Odd.mono _ _ _)
   | (with_reducible exact LeO.refl _)
   | (with_reducible exact LeO.none _)
   | (with_reducible refine LeO.ite ?_ ?_)
   | (with_reducible refine LeO.bind ?_ (fun _=>?_))
   | exact spec_l20Odd.mono _ _ _
   | exact LeO.none _
   | refine LeO.ite ?_ ?_
   | refine LeO.bind ?_ (fun _=>?_)
set_option maxHeartbeats 8000000 in
set_option maxRecDepth 100000 in
theorem spec_DrawAlwaysSaid.calls (k:Nat) (A0:Option Addr) (c0:Nat) (l0:List Int) (r1:Int) (r2:Int) (r3:List (S33)) (w:World) (hr0:Kd.C (Kd.int .u8) w A0 l0.length l0) (hc0:l0.length≤c0) (h:spec_DrawAlwaysSaid.f k l0=some (r1,r2,r3)) :
  Calls Try.prog 74 #[.slice A0 l0.length c0] w fun e w'=>∃ v2_:Value,e = .returned (.tuple #[.int .i64 r1,.agg #[.int .i64 r2,v2_]])∧Kd.R k33 33 w' w.heap.size (fun _=>True) v2_ r3∧Below w.heap.size w w':=by
 have hu36:=Try.underlying36
 have HR0:=mA hr0
 have HC0:=mA hc0
 clear hr0 hc0
 have HB:=mA (Below.refl w.heap.size w)
 have H:((spec_l20Open.f l0).bind fun bt102=>((spec_l20Odd.f k bt102.1 bt102.2).bind fun bt105=>(some (bt105.1,bt105.2.1,bt105.2.2.1))))=some (r1,r2,r3):=h
 clear h
 replace H:=oB.mp H
 obtain ⟨⟨t102,t103⟩,A20,H⟩:=H
 replace H:((spec_l20Odd.f k t102 t103).bind fun bt105=>(some (bt105.1,bt105.2.1,bt105.2.2.1)))=some (r1,r2,r3):=H
 have A2:=mA A20
 clear A20
 replace H:=oB.mp H
 obtain ⟨⟨t105,t106,t107,t110⟩,A30,H⟩:=H
 replace H:(some (t105,t106,t107))=some (r1,r2,r3):=H
 have A3:=mA A30
 clear A30
 simp only [Option.some.injEq,Prod.mk.injEq] at H
 obtain ⟨rfl,rfl,rfl⟩:=H
 go_enter Try.func74,Try.ntmps74
 go_wp2_with (first|((with_reducible refine gate_dst (N:=3) rfl ?_);refine box_event ?hg (N:=3) ?hd (cs:=#[.int .i64 0,.slice none 0 0]) (t:=36) ?hr ?_;(case hd=>rfl);(case hg=>rfl);(case hr=>first|(go_simp;done)|(go_simp;rfl));intro gb101 hg w4 hbox hb;have n0_:=mA (bT (by repeat first|(with_reducible first|exact HB.out|apply bA|apply bN|apply bD)|exact HB.out) hb);have n1_:=mA (hbox);have n2_:=mA ((by rw [hg];exact (bZ (by repeat first|(with_reducible first|exact HB.out|apply bA|apply bN|apply bD)|exact HB.out)):w.heap.size≤gb101));have n3_:=mA ((by rw [hg];exact (bZ (by repeat first|(with_reducible first|exact HB.out|apply bA|apply bN|apply bD)|exact HB.out)):w.heap.size≤gb101));clear HB;have HB:=n0_;have BK101:=n1_;have GW101:=n2_;have GE101:=n3_;clear n0_ n1_ n2_ n3_ hb hbox hg)|((with_reducible refine gate_callee (f:=97) rfl ?_);refine goesL_ (some 5) rfl rfl Try.func97 (by kernel_rfl) rfl #[.slice A0 l0.length c0] rfl (by (try simp only [mT,mC,mN]);first|done|rfl|(simp only [lD,lT];rfl)) ?_;(with_reducible refine (spec_l20Open.calls _ _ l0 t102 t103 w _ ?side1 ?side2 ?side3 A2.out).mono ?_);(case side1=>repeat first|(with_reducible first|exact HB.out|apply bA|apply bN|apply bD|refine bS ?_ GE101.out)|exact HB.out);(case side2=>exact HR0.out);(case side3=>exact HC0.out);rintro e w5 ⟨g104,rfl,hi,hb,hb2⟩;refine ⟨_,rfl,?_⟩;have n0_:=mA (kB (g:=gb101) (o:=.cells #[.int .i64 0,.slice none 0 0] 36 (0,0)) (by (with_reducible repeat first|refine kN ?_ _|refine kD ?_|refine kA ?_ _);exact BK101.out) hb2);have n1_:=mA (hb);have n2_:=mA (hi);have n3_:=mA (IsS113.ne_blk hi (kB (g:=gb101) (o:=.cells #[.int .i64 0,.slice none 0 0] 36 (0,0)) (by (with_reducible repeat first|refine kN ?_ _|refine kD ?_|refine kA ?_ _);exact BK101.out) hb2) (by decide));have n4_:=mA (Ne.symm (IsS113.ne_blk hi (kB (g:=gb101) (o:=.cells #[.int .i64 0,.slice none 0 0] 36 (0,0)) (by (with_reducible repeat first|refine kN ?_ _|refine kD ?_|refine kA ?_ _);exact BK101.out) hb2) (by decide)));clear BK101 HB;have BK101:=n0_;have HB:=n1_;have HI104:=n2_;have NB104_101:=n3_;have NB101_104:=n4_;clear n0_ n1_ n2_ n3_ n4_;(try clear hb);(try clear hb2);(try clear hk);(try clear hi))|((with_reducible refine gate_callee (f:=132) rfl ?_);refine goesL_ (some 6) rfl rfl Try.func132 (by kernel_rfl) rfl #[.pointer (some ⟨g104,0,none⟩)] rfl (by (try simp only [mT,mC,mN]);first|done|rfl|(simp only [lD,lT];rfl)) ?_;(with_reducible refine (spec_l20Odd.calls k g104 t102 t103 t105 t106 t107 t110 w _ ?side1 ?side2 A3.out).mono ?_);(case side1=>repeat first|(with_reducible first|exact HI104.out|apply iA|apply iN|apply iD|apply iS|refine iF ?_ NB104_101.out _)|exact HI104.out);(case side2=>repeat first|(with_reducible first|exact HB.out|apply bA|apply bN|apply bD|refine bS ?_ (iG HI104.out)|refine bS ?_ GE101.out)|exact HB.out);rintro e w6 ⟨v108,rfl,ho0,hi,hb,hk⟩;refine ⟨_,rfl,?_⟩;have n0_:=mA (KeepBut.blk hk (g':=gb101) (o:=.cells #[.int .i64 0,.slice none 0 0] 36 (0,0)) (by (with_reducible repeat first|refine kN ?_ _|refine kD ?_|refine kA ?_ _);exact BK101.out) NB101_104.out (by simp));have n1_:=mA (rW ho0 (bZ (by repeat first|(with_reducible first|exact HB.out|apply bA|apply bN|apply bD|refine bS ?_ (iG HI104.out)|refine bS ?_ GE101.out)|exact HB.out)));have n2_:=mA (hb);have n3_:=mA (hi);clear BK101 HB HI104;have BK101:=n0_;have HO109:=n1_;have HB:=n2_;have HI104:=n3_;clear n0_ n1_ n2_ n3_;(try clear hb);(try clear hb2);(try clear hk);(try clear hi);(try clear ho0);have hnb7:=NB101_104.out;have hnc7:=NB104_101.out;have hcz8_0:w6.cell? ⟨gb101,0,none⟩=some (.int .i64 0):=(kC BK101.out 0).trans rfl;have hcz8_1:w6.cell? ⟨gb101,1,none⟩=some (.slice none 0 0):=(kC BK101.out 1).trans rfl;have hfz8_0:=kF BK101.out 0;have hfz8_1:=kF BK101.out 1;obtain ⟨Ao9,co9,eo9⟩:=Kd.R_slice HO109.out;subst eo9))
 refine bodyPost_ret (results_tc rfl _ _ gb101 36 #[.int .i64 t106,.slice Ao9 t107.length co9] (0,0) _ rfl (by (with_reducible repeat first|refine kN ?_ _|refine kD ?_|refine kA ?_ _);refine kP (cs:=#[.int .i64 t106,.slice none 0 0]) ?_ 1 _ rfl;(with_reducible repeat first|refine kN ?_ _|refine kD ?_|refine kA ?_ _);refine kP (cs:=#[.int .i64 0,.slice none 0 0]) ?_ 0 _ rfl;(with_reducible repeat first|refine kN ?_ _|refine kD ?_|refine kA ?_ _);exact BK101.out) Try.underlying36 rfl (by kernel_rfl)) rfl ?_
 exact ⟨_,by first|rfl|(simp [errW_none,errW_some]<;>rfl)|(simp [*, errW_none,errW_some]<;>rfl),by (with_reducible repeat first|apply rA|apply rN|apply rD);exact rM (rF (p:=⟨gb101,1,none⟩) (rF (p:=⟨gb101,0,none⟩) (rY HO109.out BK101.out (by decide)) (fun _ hk=>hk.2) (.int .i64 t106)) (fun _ hk=>hk.2) (.slice Ao9 t107.length co9)) (fun _ hk=>trivial),by repeat (first|(with_reducible first|exact HB.out|apply bA|apply bN|apply bD|refine bS ?_ (iG HI104.out)|refine bS ?_ GE101.out)|exact HB.out)⟩
/-! ### spec_l4May: function 101 -/
def spec_l4May.f (k:Nat) (a0_0:Int) (l0_1:List (S33)) (a1:Int):Option (Bool):=if 0≤a0_0 then ((spec_l3Holds.f k l0_1 a1).bind fun t102=>(some (((Int.tmod (shr .i64 a1 a0_0) 2)==1)==t102))) else (none)
theorem spec_l4May.mono : ∀ a0 a1 a2 k,LeO (spec_l4May.f k a0 a1 a2) (spec_l4May.f (k+1) a0 a1 a2):=by
 intro a0 a1 a2 k
 unfold spec_l4May.f
 repeat' first
   | (with_reducible exact spec_l3Holds.mono _ _ _)
   | (with_reducible exact LeO.refl _)
   | (with_reducible exact LeO.none _)
   | (with_reducible refine LeO.ite ?_ ?_)
   | (with_reducible refine LeO.bind ?_ (fun _=>?_))
   | exact spec_l3Holds.mono _ _ _
   | exact LeO.none _
   | refine LeO.ite ?_ ?_
   | refine LeO.bind ?_ (fun _=>?_)
set_option maxHeartbeats 8000000 in
set_option maxRecDepth 100000 in
theorem spec_l4May.calls (k:Nat) (a0_0:Int) (A0_1:Option Addr) (c0_1:Nat) (l0_1:List (S33)) (a1:Int) (r:Bool) (w:World) (hr0_1:Kd.C k33 w A0_1 l0_1.length l0_1) (hc0_1:l0_1.length≤c0_1) (h:spec_l4May.f k a0_0 l0_1 a1=some r) :
  Calls Try.prog 101 #[.agg #[.int .i64 a0_0,.slice A0_1 l0_1.length c0_1],.int .i64 a1] w fun e w'=>e = .returned (.bool r)∧Below w.heap.size w w':=by
 have hu36:=Try.underlying36
 have HR0_1:=mA hr0_1
 have HC0_1:=mA hc0_1
 clear hr0_1 hc0_1
 have HB:=mA (Below.refl w.heap.size w)
 have H:(if 0≤a0_0 then ((spec_l3Holds.f k l0_1 a1).bind fun t102=>(some (((Int.tmod (shr .i64 a1 a0_0) 2)==1)==t102))) else (none))=some r:=h
 clear h
 by_cases c3:0≤a0_0
 ·rw [if_pos c3] at H
  have c3b0:=eq_true c3
  have c3b1:decide (0≤a0_0)=true:=decide_eq_true c3
  clear c3
  obtain ⟨ji4,hji4⟩ : ∃ j_:Int,(shr .i64 a1 a0_0)=j_:=⟨_,rfl⟩
  replace H:((spec_l3Holds.f k l0_1 a1).bind fun t102=>(some (((Int.tmod (ji4) 2)==1)==t102)))=some r:=by first|(rw [hji4] at H;exact H)|(simp only [hji4] at H ⊢;exact H)
  have hji4_:(a1 / 2^min a0_0.toNat 64)=ji4:=hji4
  have hji4z:a0_0≤64→(a1 / 2^a0_0.toNat)=ji4:=shr_small hji4
  replace H:=oB.mp H
  obtain ⟨t102,A50,H⟩:=H
  replace H:(some (((Int.tmod (ji4) 2)==1)==t102))=some r:=H
  have A5:=mA A50
  clear A50
  obtain rfl:=Option.some.inj H
  go_enter Try.func101,Try.ntmps101
  go_wp2_with (first|((with_reducible refine gate_dst (N:=2) rfl ?_);refine box_event ?hg (N:=2) ?hd (cs:=#[.int .i64 a0_0,.slice A0_1 l0_1.length c0_1]) (t:=36) ?hr ?_;(case hd=>rfl);(case hg=>rfl);(case hr=>first|(go_simp;done)|(go_simp;rfl));intro gb101 hg w6 hbox hb;have n0_:=mA (bT (by repeat first|(with_reducible first|exact HB.out|apply bA|apply bN|apply bD)|exact HB.out) hb);have n1_:=mA (hbox);have n2_:=mA ((by rw [hg];exact (bZ (by repeat first|(with_reducible first|exact HB.out|apply bA|apply bN|apply bD)|exact HB.out)):w.heap.size≤gb101));have n3_:=mA ((by rw [hg];exact (bZ (by repeat first|(with_reducible first|exact HB.out|apply bA|apply bN|apply bD)|exact HB.out)):w.heap.size≤gb101));clear HB;have HB:=n0_;have BK101:=n1_;have GW101:=n2_;have GE101:=n3_;clear n0_ n1_ n2_ n3_ hb hbox hg;have hcz7_0:w6.cell? ⟨gb101,0,none⟩=some (.int .i64 a0_0):=(kC BK101.out 0).trans rfl;have hcz7_1:w6.cell? ⟨gb101,1,none⟩=some (.slice A0_1 l0_1.length c0_1):=(kC BK101.out 1).trans rfl;have hfz7_0:=kF BK101.out 0;have hfz7_1:=kF BK101.out 1)|(go_at_call 140;(with_reducible refine (spec_l3Holds.calls k _ _ l0_1 a1 t102 _ ?side1 ?side2 A5.out).mono ?_);(case side1=>repeat first|exact (Kd.C_below HR0_1.out HB.out)|(with_reducible refine cA ?_ _)|(with_reducible refine cN ?_ _)|(with_reducible refine cD ?_));(case side2=>exact HC0_1.out);rintro e w' ⟨rfl,⟨nd,rfl⟩⟩;(try first|exact ⟨rfl,_,World.drewN_drewN _ _ _⟩|exact ⟨rfl,_,Eq.trans (World.drewN_drewN _ _ _) (congrArg (World.drewN _) (Nat.add_assoc _ _ _))⟩)))
  repeat (go_quiet (first|((with_reducible refine gate_dst (N:=2) rfl ?_);refine box_event ?hg (N:=2) ?hd (cs:=#[.int .i64 a0_0,.slice A0_1 l0_1.length c0_1]) (t:=36) ?hr ?_;(case hd=>rfl);(case hg=>rfl);(case hr=>first|(go_simp;done)|(go_simp;rfl));intro gb101 hg w6 hbox hb;have n0_:=mA (bT (by repeat first|(with_reducible first|exact HB.out|apply bA|apply bN|apply bD)|exact HB.out) hb);have n1_:=mA (hbox);have n2_:=mA ((by rw [hg];exact (bZ (by repeat first|(with_reducible first|exact HB.out|apply bA|apply bN|apply bD)|exact HB.out)):w.heap.size≤gb101));have n3_:=mA ((by rw [hg];exact (bZ (by repeat first|(with_reducible first|exact HB.out|apply bA|apply bN|apply bD)|exact HB.out)):w.heap.size≤gb101));clear HB;have HB:=n0_;have BK101:=n1_;have GW101:=n2_;have GE101:=n3_;clear n0_ n1_ n2_ n3_ hb hbox hg;have hcz7_0:w6.cell? ⟨gb101,0,none⟩=some (.int .i64 a0_0):=(kC BK101.out 0).trans rfl;have hcz7_1:w6.cell? ⟨gb101,1,none⟩=some (.slice A0_1 l0_1.length c0_1):=(kC BK101.out 1).trans rfl;have hfz7_0:=kF BK101.out 0;have hfz7_1:=kF BK101.out 1)|(go_at_call 140;(with_reducible refine (spec_l3Holds.calls k _ _ l0_1 a1 t102 _ ?side1 ?side2 A5.out).mono ?_);(case side1=>repeat first|exact (Kd.C_below HR0_1.out HB.out)|(with_reducible refine cA ?_ _)|(with_reducible refine cN ?_ _)|(with_reducible refine cD ?_));(case side2=>exact HC0_1.out);rintro e w' ⟨rfl,⟨nd,rfl⟩⟩;(try first|exact ⟨rfl,_,World.drewN_drewN _ _ _⟩|exact ⟨rfl,_,Eq.trans (World.drewN_drewN _ _ _) (congrArg (World.drewN _) (Nat.add_assoc _ _ _))⟩)));try go_wp2_with (first|((with_reducible refine gate_dst (N:=2) rfl ?_);refine box_event ?hg (N:=2) ?hd (cs:=#[.int .i64 a0_0,.slice A0_1 l0_1.length c0_1]) (t:=36) ?hr ?_;(case hd=>rfl);(case hg=>rfl);(case hr=>first|(go_simp;done)|(go_simp;rfl));intro gb101 hg w6 hbox hb;have n0_:=mA (bT (by repeat first|(with_reducible first|exact HB.out|apply bA|apply bN|apply bD)|exact HB.out) hb);have n1_:=mA (hbox);have n2_:=mA ((by rw [hg];exact (bZ (by repeat first|(with_reducible first|exact HB.out|apply bA|apply bN|apply bD)|exact HB.out)):w.heap.size≤gb101));have n3_:=mA ((by rw [hg];exact (bZ (by repeat first|(with_reducible first|exact HB.out|apply bA|apply bN|apply bD)|exact HB.out)):w.heap.size≤gb101));clear HB;have HB:=n0_;have BK101:=n1_;have GW101:=n2_;have GE101:=n3_;clear n0_ n1_ n2_ n3_ hb hbox hg;have hcz7_0:w6.cell? ⟨gb101,0,none⟩=some (.int .i64 a0_0):=(kC BK101.out 0).trans rfl;have hcz7_1:w6.cell? ⟨gb101,1,none⟩=some (.slice A0_1 l0_1.length c0_1):=(kC BK101.out 1).trans rfl;have hfz7_0:=kF BK101.out 0;have hfz7_1:=kF BK101.out 1)|(go_at_call 140;(with_reducible refine (spec_l3Holds.calls k _ _ l0_1 a1 t102 _ ?side1 ?side2 A5.out).mono ?_);(case side1=>repeat first|exact (Kd.C_below HR0_1.out HB.out)|(with_reducible refine cA ?_ _)|(with_reducible refine cN ?_ _)|(with_reducible refine cD ?_));(case side2=>exact HC0_1.out);rintro e w' ⟨rfl,⟨nd,rfl⟩⟩;(try first|exact ⟨rfl,_,World.drewN_drewN _ _ _⟩|exact ⟨rfl,_,Eq.trans (World.drewN_drewN _ _ _) (congrArg (World.drewN _) (Nat.add_assoc _ _ _))⟩))))
  go_ret
  exact ⟨by first|rfl|(simp [errW_none,errW_some]<;>rfl)|(simp only [←hji4];first|rfl|(simp [errW_none,errW_some]<;>rfl))|(simp [*, errW_none,errW_some]<;>rfl),by repeat (first|(with_reducible first|exact HB.out|apply bA|apply bN|apply bD|refine bS ?_ GE101.out)|exact HB.out)⟩
 rw [if_neg c3] at H
 exact absurd H (by simp)
/-! ### spec_l4Table: function 114 -/
def spec_l4Table.l0:Nat→Int→Int→Int→Int→List (S33)→Option (Int)
 | 0,_,_,_,_,_=>none
 | k+1,x0,x5,x6,x102000,x102001=>if 0≤x0 then (if x6<(shl .i64 1 x0) then ((spec_l4May.f k x102000 x102001 x6).bind fun t102=>(if t102=true then (if 0≤x6 then (spec_l4Table.l0 k x0 (Go.bits .or .i64 x5 (shl .i64 1 x6)) (wrap64 (x6+1)) x102000 x102001) else (none)) else (spec_l4Table.l0 k x0 x5 (wrap64 (x6+1)) x102000 x102001))) else (some x5)) else (none)
def spec_l4Table.f (k:Nat) (a0:Int) (a1_0:Int) (l1_1:List (S33)):Option (Int):=spec_l4Table.l0 k a0 0 0 a1_0 l1_1
theorem spec_l4Table.mono_l : ∀ k,(∀ y0 y1 y2 y3 y4,LeO (spec_l4Table.l0 k y0 y1 y2 y3 y4) (spec_l4Table.l0 (k+1) y0 y1 y2 y3 y4))
 | 0=>fun _ _ _ _ _ r h=>by simp [spec_l4Table.l0] at h
 | k+1=>by
  have ih0:=spec_l4Table.mono_l k
  intro y0 y1 y2 y3 y4
  unfold spec_l4Table.l0
  repeat' first
  | (with_reducible exact ih0 _ _ _ _ _)
  | (with_reducible exact spec_l4May.mono _ _ _ _)
  | (with_reducible exact LeO.refl _)
  | (with_reducible exact LeO.none _)
  | (with_reducible refine LeO.ite ?_ ?_)
  | (with_reducible refine LeO.bind ?_ (fun _=>?_))
  | exact ih0 _ _ _ _ _
  | exact spec_l4May.mono _ _ _ _
  | exact LeO.none _
  | refine LeO.ite ?_ ?_
  | refine LeO.bind ?_ (fun _=>?_)
theorem spec_l4Table.mono : ∀ a0 a1 a2 k,LeO (spec_l4Table.f k a0 a1 a2) (spec_l4Table.f (k+1) a0 a1 a2):=by
 intro a0 a1 a2 k
 have ih0:=spec_l4Table.mono_l k
 unfold spec_l4Table.f
 repeat' first
   | (with_reducible exact ih0 _ _ _ _ _)
   | (with_reducible exact spec_l4May.mono _ _ _ _)
   | (with_reducible exact LeO.refl _)
   | (with_reducible exact LeO.none _)
   | (with_reducible refine LeO.ite ?_ ?_)
   | (with_reducible refine LeO.bind ?_ (fun _=>?_))
   | exact ih0 _ _ _ _ _
   | exact spec_l4May.mono _ _ _ _
   | exact LeO.none _
   | refine LeO.ite ?_ ?_
   | refine LeO.bind ?_ (fun _=>?_)
set_option maxHeartbeats 8000000 in
set_option maxRecDepth 100000 in
theorem spec_l4Table.calls (k:Nat) (a0:Int) (a1_0:Int) (A1_1:Option Addr) (c1_1:Nat) (l1_1:List (S33)) (r:Int) (w:World) (hr1_1:Kd.C k33 w A1_1 l1_1.length l1_1) (hc1_1:l1_1.length≤c1_1) (h:spec_l4Table.f k a0 a1_0 l1_1=some r) :
  Calls Try.prog 114 #[.int .i64 a0,.agg #[.int .i64 a1_0,.slice A1_1 l1_1.length c1_1]] w fun e w'=>e = .returned (.int .i64 r)∧Below w.heap.size w w':=by
 have hu36:=Try.underlying36
 have HR1_1:=mA hr1_1
 have HC1_1:=mA hc1_1
 clear hr1_1 hc1_1
 have HB:=mA (Below.refl w.heap.size w)
 have H:(spec_l4Table.l0 k a0 0 0 a1_0 l1_1)=some r:=h
 clear h
 have H':=mA H
 clear H
 go_enter Try.func114,Try.ntmps114
 go_wp2_with (first|((with_reducible refine gate_dst (N:=3) rfl ?_);refine box_event ?hg (N:=3) ?hd (cs:=#[.int .i64 a1_0,.slice A1_1 l1_1.length c1_1]) (t:=36) ?hr ?_;(case hd=>rfl);(case hg=>rfl);(case hr=>first|(go_simp;done)|(go_simp;rfl));intro gb101 hg w3 hbox hb;have n0_:=mA (bT (by repeat first|(with_reducible first|exact HB.out|apply bA|apply bN|apply bD)|exact HB.out) hb);have n1_:=mA (hbox);have n2_:=mA ((by rw [hg];exact (bZ (by repeat first|(with_reducible first|exact HB.out|apply bA|apply bN|apply bD)|exact HB.out)):w.heap.size≤gb101));have n3_:=mA ((by rw [hg];exact (bZ (by repeat first|(with_reducible first|exact HB.out|apply bA|apply bN|apply bD)|exact HB.out)):w.heap.size≤gb101));clear HB;have HB:=n0_;have BK101:=n1_;have GW101:=n2_;have GE101:=n3_;clear n0_ n1_ n2_ n3_ hb hbox hg))
 go_loopg [5,6] k (fun kq v5 v6 w'=>∃ (x5_1:Int) (x6_1:Int),v5 = .int .i64 x5_1∧v6 = .int .i64 x6_1∧Aside0 (spec_l4Table.l0 kq a0 x5_1 x6_1 a1_0 l1_1=some r)∧Aside0 (kq≤k)∧Aside0 (w'.heap[gb101]?=some (.cells #[.int .i64 a1_0,(.slice A1_1 l1_1.length c1_1)] 36 (0,0)))∧Aside0 (Below w.heap.size w w'))
 case atStart=>exact ⟨(0),(0),(by first|rfl|(simp;done)|(simp [*];done)),(by first|rfl|(simp;done)|(simp [*];done)),H',⟨Nat.le_refl _⟩,⟨by (with_reducible repeat first|refine kN ?_ _|refine kD ?_|refine kA ?_ _);exact BK101.out⟩,⟨by repeat (first|(with_reducible first|exact HB.out|apply bA|apply bN|apply bD|refine bS ?_ GE101.out)|exact HB.out)⟩⟩
 case round =>
  clear H'
  try clear c1
  try clear p2
  obtain ⟨x5_1,x6_1,rfl,rfl,HA,HK1,BK101,HB⟩:=hrel
  cases gk with
  | zero=>exact absurd HA.out (by simp [spec_l4Table.l0])
  | succ k1 =>
   have H:=HA.out
   clear HA
   simp only [spec_l4Table.l0] at H
   by_cases c4:0≤a0
   ·rw [if_pos c4] at H
    have c4b0:=eq_true c4
    have c4b1:decide (0≤a0)=true:=decide_eq_true c4
    clear c4
    obtain ⟨ji5,hji5⟩ : ∃ j_:Int,(shl .i64 1 a0)=j_:=⟨_,rfl⟩
    replace H:(if x6_1<(ji5) then ((spec_l4May.f k1 a1_0 l1_1 x6_1).bind fun t102=>(if t102=true then (if 0≤x6_1 then (spec_l4Table.l0 k1 a0 (Go.bits .or .i64 x5_1 (shl .i64 1 x6_1)) (wrap64 (x6_1+1)) a1_0 l1_1) else (none)) else (spec_l4Table.l0 k1 a0 x5_1 (wrap64 (x6_1+1)) a1_0 l1_1))) else (some x5_1))=some r:=by first|(rw [hji5] at H;exact H)|(simp only [hji5] at H ⊢;exact H)
    have hji5_:(IntKind.i64.wrap (1*2^min a0.toNat 64))=ji5:=hji5
    have hji5z:a0≤64→(IntKind.i64.wrap (1*2^a0.toNat))=ji5:=shl_small hji5
    have hji5u:(IntKind.i64.wrap (2^min a0.toNat 64))=ji5:=by have h_:=hji5_;rw [Int.one_mul] at h_;exact h_
    have hji5v:a0≤64→(IntKind.i64.wrap (2^a0.toNat))=ji5:=fun hle_=>by have h_:=hji5z hle_;rw [Int.one_mul] at h_;exact h_
    have hji5y:(wrap64 (1*2^min a0.toNat 64))=ji5:=(i64_w _).symm.trans hji5_
    have hji5x:a0≤64→(wrap64 (1*2^a0.toNat))=ji5:=fun h_=>(i64_w _).symm.trans (hji5z h_)
    by_cases c6:x6_1<(ji5)
    ·rw [if_pos c6] at H
     have c6b0:decide (x6_1<(ji5))=true:=decide_eq_true c6
     clear c6
     replace H:=oB.mp H
     obtain ⟨t102,A70,H⟩:=H
     replace H:(if t102=true then (if 0≤x6_1 then (spec_l4Table.l0 k1 a0 (Go.bits .or .i64 x5_1 (shl .i64 1 x6_1)) (wrap64 (x6_1+1)) a1_0 l1_1) else (none)) else (spec_l4Table.l0 k1 a0 x5_1 (wrap64 (x6_1+1)) a1_0 l1_1))=some r:=H
     have A7:=mA A70
     clear A70
     by_cases c8:t102=true
     ·subst c8
      have H1:(if 0≤x6_1 then (spec_l4Table.l0 k1 a0 (Go.bits .or .i64 x5_1 (shl .i64 1 x6_1)) (wrap64 (x6_1+1)) a1_0 l1_1) else (none))=some r:=by rw [if_pos rfl] at H;exact H
      clear H
      have H:=H1
      clear H1
      by_cases c9:0≤x6_1
      ·rw [if_pos c9] at H
       have c9b0:=eq_true c9
       have c9b1:decide (0≤x6_1)=true:=decide_eq_true c9
       clear c9
       obtain ⟨ji10,hji10⟩ : ∃ j_:Int,(shl .i64 1 x6_1)=j_:=⟨_,rfl⟩
       replace H:(spec_l4Table.l0 k1 a0 (Go.bits .or .i64 x5_1 (ji10)) (wrap64 (x6_1+1)) a1_0 l1_1)=some r:=by first|(rw [hji10] at H;exact H)|(simp only [hji10] at H ⊢;exact H)
       (try rw [hji10] at A7)
       have hji10_:(IntKind.i64.wrap (1*2^min x6_1.toNat 64))=ji10:=hji10
       have hji10z:x6_1≤64→(IntKind.i64.wrap (1*2^x6_1.toNat))=ji10:=shl_small hji10
       have hji10u:(IntKind.i64.wrap (2^min x6_1.toNat 64))=ji10:=by have h_:=hji10_;rw [Int.one_mul] at h_;exact h_
       have hji10v:x6_1≤64→(IntKind.i64.wrap (2^x6_1.toNat))=ji10:=fun hle_=>by have h_:=hji10z hle_;rw [Int.one_mul] at h_;exact h_
       have hji10y:(wrap64 (1*2^min x6_1.toNat 64))=ji10:=(i64_w _).symm.trans hji10_
       have hji10x:x6_1≤64→(wrap64 (1*2^x6_1.toNat))=ji10:=fun h_=>(i64_w _).symm.trans (hji10z h_)
       have H':=mA H
       clear H
       have hcz11_0:wr.cell? ⟨gb101,0,none⟩=some (.int .i64 a1_0):=(kC BK101.out 0).trans rfl
       have hcz11_1:wr.cell? ⟨gb101,1,none⟩=some (.slice A1_1 l1_1.length c1_1):=(kC BK101.out 1).trans rfl
       have hfz11_0:=kF BK101.out 0
       have hfz11_1:=kF BK101.out 1
       go_wp2_with (first|((with_reducible refine gate_callee (f:=101) rfl ?_);refine goesL_ (some 15) rfl rfl Try.func101 (by kernel_rfl) rfl #[.agg #[.int .i64 a1_0,.slice A1_1 l1_1.length c1_1],.int .i64 x6_1] rfl (by (try simp only [mT,mC,mN]);first|done|rfl|(simp only [lD,lT];rfl)) ?_;(with_reducible refine (spec_l4May.calls k1 a1_0 _ _ l1_1 x6_1 true _ ?side1 ?side2 A7.out).mono ?_);(case side1=>repeat first|exact (Kd.C_below HR1_1.out HB.out)|(with_reducible refine cA ?_ _)|(with_reducible refine cN ?_ _)|(with_reducible refine cD ?_));(case side2=>exact HC1_1.out);rintro e w12 ⟨rfl,hb⟩;refine ⟨_,rfl,?_⟩;have n0_:=mA (kB (g:=gb101) (o:=.cells #[.int .i64 a1_0,.slice A1_1 l1_1.length c1_1] 36 (0,0)) (by (with_reducible repeat first|refine kN ?_ _|refine kD ?_|refine kA ?_ _);exact BK101.out) hb);have n1_:=mA (bT (by repeat first|(with_reducible first|exact HB.out|apply bA|apply bN|apply bD|refine bS ?_ GE101.out)|exact HB.out) hb);clear BK101 HB;have BK101:=n0_;have HB:=n1_;clear n0_ n1_;(try clear hb);(try clear hb2);(try clear hk);(try clear hi)))
       go_roundg k1
       case measure=>have:=HK1.out;omega
       case rel=>exact ⟨(Go.bits .or .i64 x5_1 (ji10)),(wrap64 (x6_1+1)),(by first|rfl|(simp;done)|(simp only [←hji10]<;>(first|rfl|simp))|(simp [*];done)),(by first|rfl|(simp;done)|(simp [*];done)),H',⟨by have:=HK1.out;omega⟩,⟨by (with_reducible repeat first|refine kN ?_ _|refine kD ?_|refine kA ?_ _);exact BK101.out⟩,⟨by repeat (first|(with_reducible first|exact HB.out|apply bA|apply bN|apply bD|refine bS ?_ GE101.out)|exact HB.out)⟩⟩
      rw [if_neg c9] at H
      exact absurd H (by simp)
     replace c8:=Bool.eq_false_iff.mpr c8
     subst c8
     have H1:(spec_l4Table.l0 k1 a0 x5_1 (wrap64 (x6_1+1)) a1_0 l1_1)=some r:=by rw [if_neg (show ¬ (false=true) by decide)] at H;exact H
     clear H
     have H:=H1
     clear H1
     have H':=mA H
     clear H
     have hcz13_0:wr.cell? ⟨gb101,0,none⟩=some (.int .i64 a1_0):=(kC BK101.out 0).trans rfl
     have hcz13_1:wr.cell? ⟨gb101,1,none⟩=some (.slice A1_1 l1_1.length c1_1):=(kC BK101.out 1).trans rfl
     have hfz13_0:=kF BK101.out 0
     have hfz13_1:=kF BK101.out 1
     go_wp2_with (first|((with_reducible refine gate_callee (f:=101) rfl ?_);refine goesL_ (some 15) rfl rfl Try.func101 (by kernel_rfl) rfl #[.agg #[.int .i64 a1_0,.slice A1_1 l1_1.length c1_1],.int .i64 x6_1] rfl (by (try simp only [mT,mC,mN]);first|done|rfl|(simp only [lD,lT];rfl)) ?_;(with_reducible refine (spec_l4May.calls k1 a1_0 _ _ l1_1 x6_1 false _ ?side1 ?side2 A7.out).mono ?_);(case side1=>repeat first|exact (Kd.C_below HR1_1.out HB.out)|(with_reducible refine cA ?_ _)|(with_reducible refine cN ?_ _)|(with_reducible refine cD ?_));(case side2=>exact HC1_1.out);rintro e w14 ⟨rfl,hb⟩;refine ⟨_,rfl,?_⟩;have n0_:=mA (kB (g:=gb101) (o:=.cells #[.int .i64 a1_0,.slice A1_1 l1_1.length c1_1] 36 (0,0)) (by (with_reducible repeat first|refine kN ?_ _|refine kD ?_|refine kA ?_ _);exact BK101.out) hb);have n1_:=mA (bT (by repeat first|(with_reducible first|exact HB.out|apply bA|apply bN|apply bD|refine bS ?_ GE101.out)|exact HB.out) hb);clear BK101 HB;have BK101:=n0_;have HB:=n1_;clear n0_ n1_;(try clear hb);(try clear hb2);(try clear hk);(try clear hi)))
     go_roundg k1
     case measure=>have:=HK1.out;omega
     case rel=>exact ⟨(x5_1),(wrap64 (x6_1+1)),(by first|rfl|(simp;done)|(simp [*];done)),(by first|rfl|(simp;done)|(simp [*];done)),H',⟨by have:=HK1.out;omega⟩,⟨by (with_reducible repeat first|refine kN ?_ _|refine kD ?_|refine kA ?_ _);exact BK101.out⟩,⟨by repeat (first|(with_reducible first|exact HB.out|apply bA|apply bN|apply bD|refine bS ?_ GE101.out)|exact HB.out)⟩⟩
    rw [if_neg c6] at H
    have c6b0:decide (x6_1<(ji5))=false:=decide_eq_false c6
    clear c6
    obtain rfl:=Option.some.inj H
    go_wp2
    go_ret
    exact ⟨by first|rfl|(simp [errW_none,errW_some]<;>rfl)|(simp only [←hji5];first|rfl|(simp [errW_none,errW_some]<;>rfl))|(simp [*, errW_none,errW_some]<;>rfl),by repeat (first|(with_reducible first|exact HB.out|apply bA|apply bN|apply bD|refine bS ?_ GE101.out)|exact HB.out)⟩
   rw [if_neg c4] at H
   exact absurd H (by simp)
/-! ### spec_AlwaysSaid: function 75 -/
def spec_AlwaysSaid.f (k:Nat) (a0:Int) (a1_0:Int) (l1_1:List (S33)):Option (Bool):=(spec_ClaimOk.f k a0 a1_0 l1_1).bind fun t102=>(if t102=true then ((spec_l4Table.f k a0 a1_0 l1_1).bind fun t103=>(if 0≤a0 then (some (t103==(wrap64 ((shl .i64 1 (shl .u64 1 a0))-1)))) else (none))) else (some false))
theorem spec_AlwaysSaid.mono : ∀ a0 a1 a2 k,LeO (spec_AlwaysSaid.f k a0 a1 a2) (spec_AlwaysSaid.f (k+1) a0 a1 a2):=by
 intro a0 a1 a2 k
 unfold spec_AlwaysSaid.f
 repeat' first
   | (with_reducible exact spec_ClaimOk.mono _ _ _ _)
   | (with_reducible exact spec_l4Table.mono _ _ _ _)
   | (with_reducible exact LeO.refl _)
   | (with_reducible exact LeO.none _)
   | (with_reducible refine LeO.ite ?_ ?_)
   | (with_reducible refine LeO.bind ?_ (fun _=>?_))
   | exact spec_ClaimOk.mono _ _ _ _
   | exact spec_l4Table.mono _ _ _ _
   | exact LeO.none _
   | refine LeO.ite ?_ ?_
   | refine LeO.bind ?_ (fun _=>?_)
def spec_AlwaysSaid.T1:Bool×List (List Nat×List Nat):=(true,[([],[]),([],[]),([0,1],[0,1]),([2,2],[2]),([3],[3]),([3],[3]),([4,5,3,3],[3,4,5]),([3],[3]),([7,3],[3,7]),([8,3],[3,8]),([9,3],[3,9]),([6,10,3],[3,6,10]),([3,11],[3,11]),([12,6,0,1,2,3,4,5,6,7,8,9,10,11,12],[12])])
def spec_AlwaysSaid.B1:List Nat:=[0,0,3,7,15,15,63,15,143,399,911,2047,4095,8191]
theorem spec_AlwaysSaid.tab1:rtab .any (opsOf Try.f75 1)=spec_AlwaysSaid.T1:=by kernel_rfl
theorem spec_AlwaysSaid.bits1:waitsOk spec_AlwaysSaid.T1.2 spec_AlwaysSaid.B1=true:=by kernel_rfl
set_option maxHeartbeats 8000000 in
set_option maxRecDepth 100000 in
theorem spec_AlwaysSaid.calls (k:Nat) (a0:Int) (a1_0:Int) (A1_1:Option Addr) (c1_1:Nat) (l1_1:List (S33)) (r:Bool) (w:World) (hr1_1:Kd.C k33 w A1_1 l1_1.length l1_1) (hc1_1:l1_1.length≤c1_1) (h:spec_AlwaysSaid.f k a0 a1_0 l1_1=some r) :
  Calls Try.prog 75 #[.int .i64 a0,.agg #[.int .i64 a1_0,.slice A1_1 l1_1.length c1_1]] w fun e w'=>e = .returned (.bool r)∧Below w.heap.size w w':=by
 have hu36:=Try.underlying36
 have HR1_1:=mA hr1_1
 have HC1_1:=mA hc1_1
 clear hr1_1 hc1_1
 have HB:=mA (Below.refl w.heap.size w)
 have H:((spec_ClaimOk.f k a0 a1_0 l1_1).bind fun t102=>(if t102=true then ((spec_l4Table.f k a0 a1_0 l1_1).bind fun t103=>(if 0≤a0 then (some (t103==(wrap64 ((shl .i64 1 (shl .u64 1 a0))-1)))) else (none))) else (some false)))=some r:=h
 clear h
 replace H:=oB.mp H
 obtain ⟨t102,A30,H⟩:=H
 replace H:(if t102=true then ((spec_l4Table.f k a0 a1_0 l1_1).bind fun t103=>(if 0≤a0 then (some (t103==(wrap64 ((shl .i64 1 (shl .u64 1 a0))-1)))) else (none))) else (some false))=some r:=H
 have A3:=mA A30
 clear A30
 by_cases c4:t102=true
 ·subst c4
  have H1:((spec_l4Table.f k a0 a1_0 l1_1).bind fun t103=>(if 0≤a0 then (some (t103==(wrap64 ((shl .i64 1 (shl .u64 1 a0))-1)))) else (none)))=some r:=by rw [if_pos rfl] at H;exact H
  clear H
  have H:=H1
  clear H1
  replace H:=oB.mp H
  obtain ⟨t103,A50,H⟩:=H
  replace H:(if 0≤a0 then (some (t103==(wrap64 ((shl .i64 1 (shl .u64 1 a0))-1)))) else (none))=some r:=H
  have A5:=mA A50
  clear A50
  by_cases c6:0≤a0
  ·rw [if_pos c6] at H
   have c6b0:=eq_true c6
   have c6b1:decide (0≤a0)=true:=decide_eq_true c6
   clear c6
   obtain ⟨ji7,hji7⟩ : ∃ j_:Int,(shl .u64 1 a0)=j_:=⟨_,rfl⟩
   have hji7_n:(0≤ji7)=True:=eq_true (by rw [←hji7];exact shl_u64_nonneg _ _)
   replace H:(some (t103==(wrap64 ((shl .i64 1 (ji7))-1))))=some r:=by first|(rw [hji7] at H;exact H)|(simp only [hji7] at H ⊢;exact H)
   (try rw [hji7] at A3)
   (try rw [hji7] at A5)
   have hji7_:(IntKind.u64.wrap (1*2^min a0.toNat 64))=ji7:=hji7
   have hji7z:a0≤64→(IntKind.u64.wrap (1*2^a0.toNat))=ji7:=shl_small hji7
   have hji7u:(IntKind.u64.wrap (2^min a0.toNat 64))=ji7:=by have h_:=hji7_;rw [Int.one_mul] at h_;exact h_
   have hji7v:a0≤64→(IntKind.u64.wrap (2^a0.toNat))=ji7:=fun hle_=>by have h_:=hji7z hle_;rw [Int.one_mul] at h_;exact h_
   obtain ⟨ji8,hji8⟩ : ∃ j_:Int,(shl .i64 1 (ji7))=j_:=⟨_,rfl⟩
   replace H:(some (t103==(wrap64 ((ji8)-1))))=some r:=by first|(rw [hji8] at H;exact H)|(simp only [hji8] at H ⊢;exact H)
   (try rw [hji8] at A3)
   (try rw [hji8] at A5)
   have hji8_:(IntKind.i64.wrap (1*2^min (ji7).toNat 64))=ji8:=hji8
   have hji8z:(ji7)≤64→(IntKind.i64.wrap (1*2^(ji7).toNat))=ji8:=shl_small hji8
   have hji8u:(IntKind.i64.wrap (2^min (ji7).toNat 64))=ji8:=by have h_:=hji8_;rw [Int.one_mul] at h_;exact h_
   have hji8v:(ji7)≤64→(IntKind.i64.wrap (2^(ji7).toNat))=ji8:=fun hle_=>by have h_:=hji8z hle_;rw [Int.one_mul] at h_;exact h_
   have hji8y:(wrap64 (1*2^min (ji7).toNat 64))=ji8:=(i64_w _).symm.trans hji8_
   have hji8x:(ji7)≤64→(wrap64 (1*2^(ji7).toNat))=ji8:=fun h_=>(i64_w _).symm.trans (hji8z h_)
   obtain rfl:=Option.some.inj H
   go_enter Try.func75,Try.ntmps75
   try go_wp2_with (first|((with_reducible refine gate_dst (N:=3) rfl ?_);refine box_event ?hg (N:=3) ?hd (cs:=#[.int .i64 a1_0,.slice A1_1 l1_1.length c1_1]) (t:=36) ?hr ?_;(case hd=>rfl);(case hg=>rfl);(case hr=>first|(go_simp;done)|(go_simp;rfl));intro gb101 hg w9 hbox hb;have n0_:=mA (bT (by repeat first|(with_reducible first|exact HB.out|apply bA|apply bN|apply bD)|exact HB.out) hb);have n1_:=mA (hbox);have n2_:=mA ((by rw [hg];exact (bZ (by repeat first|(with_reducible first|exact HB.out|apply bA|apply bN|apply bD)|exact HB.out)):w.heap.size≤gb101));have n3_:=mA ((by rw [hg];exact (bZ (by repeat first|(with_reducible first|exact HB.out|apply bA|apply bN|apply bD)|exact HB.out)):w.heap.size≤gb101));clear HB;have HB:=n0_;have BK101:=n1_;have GW101:=n2_;have GE101:=n3_;clear n0_ n1_ n2_ n3_ hb hbox hg))
   have n0_:=mA (kD BK101.out)
   have n1_:=mA (bD HB.out)
   clear BK101 HB
   have BK101:=n0_;have HB:=n1_
   clear n0_ n1_
   refine start_ (n:=14) (S:=fun w'=>w'.cell? ⟨gb101,0,none⟩=some (.int .i64 a1_0)∧w'.cell? ⟨gb101,1,none⟩=some (.slice A1_1 l1_1.length c1_1)) (ds:=[]) #[O,O,O,O,O,O,O,O,O,O,O,O,O,O] (by kernel_rfl) rfl rfl ⟨(kC BK101.out 0).trans rfl,(kC BK101.out 1).trans rfl⟩ (fun hHeld=>?_);refine with_tabW spec_AlwaysSaid.tab1 spec_AlwaysSaid.bits1 (fun HT_ HW_=>?_)
   generalize w9.drew=w10 at BK101 HB hHeld ⊢
   refine pure_ (i:=0) (N:=some 5) (v:=?_) (a':=?_) #[I,O,O,O,O,O,O,O,O,O,O,O,O,O] rfl rfl (any_of HT_.out (by kernel_rfl)) (fun _ _ _ h=>h) (Or.inl ⟨by rfl,?_⟩) ?_ ?_
   rotate_left
   ·intro w'
    go_simp
    with_reducible rfl
   rotate_left
   ·simp only [Act.put,sA,sZ,sS,i64_w,i32_w]
    rfl
   refine take_ (i:=1) (N:=some 6) (v:=?_) (a':=?_) #[I,I,O,O,O,O,O,O,O,O,O,O,O,O] rfl rfl (take_ofW HT_.out HW_.out (by kernel_rfl)) (fun _ _ _ h=>h) (Or.inl ⟨by rfl,?_⟩) hHeld ?_ ?_
   rotate_left
   ·rintro w' ⟨s0,s1⟩
    go_simp
    with_reducible rfl
   rotate_left
   ·simp only [Act.put,sA,sZ,sS,i64_w,i32_w]
    rfl
   refine one_ (i:=2) (N:=some 7) #[I,I,I,O,O,O,O,O,O,O,O,O,O,O] rfl rfl (one_of HT_.out (by kernel_rfl)) (by decide) (fun K hK=>?_)
   refine goes_ Try.func37 (by kernel_rfl) rfl #[.int .i64 a0,.agg #[.int .i64 a1_0,.slice A1_1 l1_1.length c1_1]] (by rfl) rfl rfl (by (try simp only [mT,mC,mN]);first|done|rfl|(simp only [lD,lT];rfl)) ?_
   with_reducible refine (spec_ClaimOk.calls k a0 a1_0 _ _ l1_1 true _ ?side1 ?side2 A3.out).mono ?_
   (case side1=>repeat first|exact (Kd.C_below HR1_1.out HB.out)|(with_reducible refine cA ?_ _)|(with_reducible refine cN ?_ _)|(with_reducible refine cD ?_))
   (case side2=>exact HC1_1.out)
   rintro e w11 ⟨rfl,hb⟩
   refine ⟨_,rfl,?_⟩
   have n0_:=mA (kB (g:=gb101) (o:=.cells #[.int .i64 a1_0,.slice A1_1 l1_1.length c1_1] 36 (0,0)) (by (with_reducible repeat first|refine kN ?_ _|refine kD ?_|refine kA ?_ _);exact BK101.out) hb)
   have n1_:=mA (bT (by repeat first|(with_reducible first|exact HB.out|apply bA|apply bN|apply bD|refine bS ?_ GE101.out)|exact HB.out) hb)
   clear BK101 HB
   have BK101:=n0_;have HB:=n1_
   clear n0_ n1_
   (try clear hb);(try clear hb2);(try clear hk);(try clear hi)
   refine hK.out _ _ ⟨(kC BK101.out 0).trans rfl,(kC BK101.out 1).trans rfl⟩ (fun hHeld=>?_)
   clear hK K
   refine norm_ (a':=?_) ?_ ?_
   rotate_left
   ·show Act.put _ (some 7) _=_
    simp only [Act.put,sA,sZ,sS,i64_w,i32_w]
    rfl
   refine pure_ (i:=3) (N:=some 8) (v:=?_) (a':=?_) #[I,I,I,I,O,O,O,O,O,O,O,O,O,O] rfl rfl (any_of HT_.out (by kernel_rfl)) (fun _ _ _ h=>h) (Or.inl ⟨by rfl,?_⟩) ?_ ?_
   rotate_left
   ·intro w'
    go_simp
    with_reducible rfl
   rotate_left
   ·simp only [Act.put,sA,sZ,sS,i64_w,i32_w]
    rfl
   refine pure_ (i:=4) (N:=some 9) (v:=?_) (a':=?_) #[I,I,I,I,I,O,O,O,O,O,O,O,O,O] rfl rfl (any_of HT_.out (by kernel_rfl)) (fun _ _ _ h=>h) (Or.inl ⟨by rfl,?_⟩) ?_ ?_
   rotate_left
   ·intro w'
    go_simp
    with_reducible rfl
   rotate_left
   ·simp only [Act.put,sA,sZ,sS,i64_w,i32_w]
    rfl
   refine pure_ (i:=7) (N:=some 12) (v:=?_) (a':=?_) #[I,I,I,I,I,O,O,I,O,O,O,O,O,O] rfl rfl (any_of HT_.out (by kernel_rfl)) (fun _ _ _ h=>h) (Or.inl ⟨by rfl,?_⟩) ?_ ?_
   rotate_left
   ·intro w'
    go_simp
    with_reducible rfl
   rotate_left
   ·simp only [Act.put,sA,sZ,sS,i64_w,i32_w]
    rfl
   refine pure_ (i:=8) (N:=some 13) (v:=?_) (a':=?_) #[I,I,I,I,I,O,O,I,I,O,O,O,O,O] rfl rfl (any_of HT_.out (by kernel_rfl)) (fun _ _ _ h=>h) (Or.inl ⟨by rfl,?_⟩) ?_ ?_
   rotate_left
   ·intro w'
    go_simp
    with_reducible rfl
   rotate_left
   ·simp only [Act.put,sA,sZ,sS,i64_w,i32_w]
    rfl
   refine pure_ (i:=9) (N:=some 14) (v:=?_) (a':=?_) #[I,I,I,I,I,O,O,I,I,I,O,O,O,O] rfl rfl (any_of HT_.out (by kernel_rfl)) (fun _ _ _ h=>h) (Or.inl ⟨by rfl,?_⟩) ?_ ?_
   rotate_left
   ·intro w'
    go_simp
    with_reducible rfl
   rotate_left
   ·simp only [Act.put,sA,sZ,sS,i64_w,i32_w]
    rfl
   refine pure_ (i:=10) (N:=some 15) (v:=?_) (a':=?_) #[I,I,I,I,I,O,O,I,I,I,I,O,O,O] rfl rfl (any_of HT_.out (by kernel_rfl)) (fun _ _ _ h=>h) (Or.inl ⟨by rfl,?_⟩) ?_ ?_
   rotate_left
   ·intro w'
    go_simp
    with_reducible rfl
   rotate_left
   ·simp only [Act.put,sA,sZ,sS,i64_w,i32_w]
    rfl
   refine take_ (i:=5) (N:=some 10) (v:=?_) (a':=?_) #[I,I,I,I,I,I,O,I,I,I,I,O,O,O] rfl rfl (take_ofW HT_.out HW_.out (by kernel_rfl)) (fun _ _ _ h=>h) (Or.inl ⟨by rfl,?_⟩) hHeld ?_ ?_
   rotate_left
   ·rintro w' ⟨s0,s1⟩
    go_simp
    with_reducible rfl
   rotate_left
   ·simp only [Act.put,sA,sZ,sS,i64_w,i32_w]
    rfl
   refine one_ (i:=6) (N:=some 11) #[I,I,I,I,I,I,I,I,I,I,I,O,O,O] rfl rfl (one_of HT_.out (by kernel_rfl)) (by decide) (fun K hK=>?_)
   refine goes_ Try.func114 (by kernel_rfl) rfl #[.int .i64 a0,.agg #[.int .i64 a1_0,.slice A1_1 l1_1.length c1_1]] (by rfl) rfl rfl (by (try simp only [mT,mC,mN]);first|done|rfl|(simp only [lD,lT];rfl)) ?_
   with_reducible refine (spec_l4Table.calls k a0 a1_0 _ _ l1_1 t103 _ ?side1 ?side2 A5.out).mono ?_
   (case side1=>repeat first|exact (Kd.C_below HR1_1.out HB.out)|(with_reducible refine cA ?_ _)|(with_reducible refine cN ?_ _)|(with_reducible refine cD ?_))
   (case side2=>exact HC1_1.out)
   rintro e w12 ⟨rfl,hb⟩
   refine ⟨_,rfl,?_⟩
   have n0_:=mA (kB (g:=gb101) (o:=.cells #[.int .i64 a1_0,.slice A1_1 l1_1.length c1_1] 36 (0,0)) (by (with_reducible repeat first|refine kN ?_ _|refine kD ?_|refine kA ?_ _);exact BK101.out) hb)
   have n1_:=mA (bT (by repeat first|(with_reducible first|exact HB.out|apply bA|apply bN|apply bD|refine bS ?_ GE101.out)|exact HB.out) hb)
   clear BK101 HB
   have BK101:=n0_;have HB:=n1_
   clear n0_ n1_
   (try clear hb);(try clear hb2);(try clear hk);(try clear hi)
   refine hK.out _ _ ⟨(kC BK101.out 0).trans rfl,(kC BK101.out 1).trans rfl⟩ (fun hHeld=>?_)
   clear hK K
   refine norm_ (a':=?_) ?_ ?_
   rotate_left
   ·show Act.put _ (some 11) _=_
    simp only [Act.put,sA,sZ,sS,i64_w,i32_w]
    rfl
   refine pure_ (i:=11) (N:=some 16) (v:=?_) (a':=?_) #[I,I,I,I,I,I,I,I,I,I,I,I,O,O] rfl rfl (any_of HT_.out (by kernel_rfl)) (fun _ _ _ h=>h) (Or.inl ⟨by rfl,?_⟩) ?_ ?_
   rotate_left
   ·intro w'
    go_simp
    with_reducible rfl
   rotate_left
   ·simp only [Act.put,sA,sZ,sS,i64_w,i32_w]
    rfl
   refine pure_ (i:=12) (N:=some 17) (v:=?_) (a':=?_) #[I,I,I,I,I,I,I,I,I,I,I,I,I,O] rfl rfl (any_of HT_.out (by kernel_rfl)) (fun _ _ _ h=>h) (Or.inl ⟨by rfl,?_⟩) ?_ ?_
   rotate_left
   ·intro w'
    go_simp
    with_reducible rfl
   rotate_left
   ·simp only [Act.put,sA,sZ,sS,i64_w,i32_w]
    rfl
   refine pure_ (i:=13) (N:=some 4) (v:=?_) (a':=?_) #[I,I,I,I,I,I,I,I,I,I,I,I,I,I] rfl rfl (any_of HT_.out (by kernel_rfl)) (fun _ _ _ h=>h) (Or.inl ⟨by rfl,?_⟩) ?_ ?_
   rotate_left
   ·intro w'
    go_simp
    with_reducible rfl
   rotate_left
   ·simp only [Act.put,sA,sZ,sS,i64_w,i32_w]
    rfl
   refine done_ (done_of HT_.out (by kernel_rfl)) ?_
   try go_wp2
   go_ret
   exact ⟨by first|rfl|(simp [errW_none,errW_some]<;>rfl)|(simp only [←hji7, ←hji8];first|rfl|(simp [errW_none,errW_some]<;>rfl))|(simp [*, errW_none,errW_some]<;>rfl),by repeat (first|(with_reducible first|exact HB.out|apply bA|apply bN|apply bD|refine bS ?_ GE101.out)|exact HB.out)⟩
  rw [if_neg c6] at H
  exact absurd H (by simp)
 replace c4:=Bool.eq_false_iff.mpr c4
 subst c4
 have H1:(some false)=some r:=by rw [if_neg (show ¬ (false=true) by decide)] at H;exact H
 clear H
 have H:=H1
 clear H1
 obtain rfl:=Option.some.inj H
 go_enter Try.func75,Try.ntmps75
 try go_wp2_with (first|((with_reducible refine gate_dst (N:=3) rfl ?_);refine box_event ?hg (N:=3) ?hd (cs:=#[.int .i64 a1_0,.slice A1_1 l1_1.length c1_1]) (t:=36) ?hr ?_;(case hd=>rfl);(case hg=>rfl);(case hr=>first|(go_simp;done)|(go_simp;rfl));intro gb101 hg w13 hbox hb;have n0_:=mA (bT (by repeat first|(with_reducible first|exact HB.out|apply bA|apply bN|apply bD)|exact HB.out) hb);have n1_:=mA (hbox);have n2_:=mA ((by rw [hg];exact (bZ (by repeat first|(with_reducible first|exact HB.out|apply bA|apply bN|apply bD)|exact HB.out)):w.heap.size≤gb101));have n3_:=mA ((by rw [hg];exact (bZ (by repeat first|(with_reducible first|exact HB.out|apply bA|apply bN|apply bD)|exact HB.out)):w.heap.size≤gb101));clear HB;have HB:=n0_;have BK101:=n1_;have GW101:=n2_;have GE101:=n3_;clear n0_ n1_ n2_ n3_ hb hbox hg))
 have n0_:=mA (kD BK101.out)
 have n1_:=mA (bD HB.out)
 clear BK101 HB
 have BK101:=n0_;have HB:=n1_
 clear n0_ n1_
 refine start_ (n:=14) (S:=fun w'=>w'.cell? ⟨gb101,0,none⟩=some (.int .i64 a1_0)∧w'.cell? ⟨gb101,1,none⟩=some (.slice A1_1 l1_1.length c1_1)) (ds:=[]) #[O,O,O,O,O,O,O,O,O,O,O,O,O,O] (by kernel_rfl) rfl rfl ⟨(kC BK101.out 0).trans rfl,(kC BK101.out 1).trans rfl⟩ (fun hHeld=>?_);refine with_tabW spec_AlwaysSaid.tab1 spec_AlwaysSaid.bits1 (fun HT_ HW_=>?_)
 generalize w13.drew=w14 at BK101 HB hHeld ⊢
 refine pure_ (i:=0) (N:=some 5) (v:=?_) (a':=?_) #[I,O,O,O,O,O,O,O,O,O,O,O,O,O] rfl rfl (any_of HT_.out (by kernel_rfl)) (fun _ _ _ h=>h) (Or.inl ⟨by rfl,?_⟩) ?_ ?_
 rotate_left
 ·intro w'
  go_simp
  with_reducible rfl
 rotate_left
 ·simp only [Act.put,sA,sZ,sS,i64_w,i32_w]
  rfl
 refine take_ (i:=1) (N:=some 6) (v:=?_) (a':=?_) #[I,I,O,O,O,O,O,O,O,O,O,O,O,O] rfl rfl (take_ofW HT_.out HW_.out (by kernel_rfl)) (fun _ _ _ h=>h) (Or.inl ⟨by rfl,?_⟩) hHeld ?_ ?_
 rotate_left
 ·rintro w' ⟨s0,s1⟩
  go_simp
  with_reducible rfl
 rotate_left
 ·simp only [Act.put,sA,sZ,sS,i64_w,i32_w]
  rfl
 refine one_ (i:=2) (N:=some 7) #[I,I,I,O,O,O,O,O,O,O,O,O,O,O] rfl rfl (one_of HT_.out (by kernel_rfl)) (by decide) (fun K hK=>?_)
 refine goes_ Try.func37 (by kernel_rfl) rfl #[.int .i64 a0,.agg #[.int .i64 a1_0,.slice A1_1 l1_1.length c1_1]] (by rfl) rfl rfl (by (try simp only [mT,mC,mN]);first|done|rfl|(simp only [lD,lT];rfl)) ?_
 with_reducible refine (spec_ClaimOk.calls k a0 a1_0 _ _ l1_1 false _ ?side1 ?side2 A3.out).mono ?_
 (case side1=>repeat first|exact (Kd.C_below HR1_1.out HB.out)|(with_reducible refine cA ?_ _)|(with_reducible refine cN ?_ _)|(with_reducible refine cD ?_))
 (case side2=>exact HC1_1.out)
 rintro e w15 ⟨rfl,hb⟩
 refine ⟨_,rfl,?_⟩
 have n0_:=mA (kB (g:=gb101) (o:=.cells #[.int .i64 a1_0,.slice A1_1 l1_1.length c1_1] 36 (0,0)) (by (with_reducible repeat first|refine kN ?_ _|refine kD ?_|refine kA ?_ _);exact BK101.out) hb)
 have n1_:=mA (bT (by repeat first|(with_reducible first|exact HB.out|apply bA|apply bN|apply bD|refine bS ?_ GE101.out)|exact HB.out) hb)
 clear BK101 HB
 have BK101:=n0_;have HB:=n1_
 clear n0_ n1_
 (try clear hb);(try clear hb2);(try clear hk);(try clear hi)
 refine hK.out _ _ ⟨(kC BK101.out 0).trans rfl,(kC BK101.out 1).trans rfl⟩ (fun hHeld=>?_)
 clear hK K
 refine norm_ (a':=?_) ?_ ?_
 rotate_left
 ·show Act.put _ (some 7) _=_
  simp only [Act.put,sA,sZ,sS,i64_w,i32_w]
  rfl
 refine pure_ (i:=3) (N:=some 8) (v:=?_) (a':=?_) #[I,I,I,I,O,O,O,O,O,O,O,O,O,O] rfl rfl (any_of HT_.out (by kernel_rfl)) (fun _ _ _ h=>h) (Or.inl ⟨by rfl,?_⟩) ?_ ?_
 rotate_left
 ·intro w'
  go_simp
  with_reducible rfl
 rotate_left
 ·simp only [Act.put,sA,sZ,sS,i64_w,i32_w]
  rfl
 refine pure_ (i:=4) (N:=some 9) (v:=undef) (a':=?_) #[I,I,I,I,I,O,O,O,O,O,O,O,O,O] rfl rfl (any_of HT_.out (by kernel_rfl)) (fun _ _ _ h=>h) (Or.inr ⟨by rfl,rfl⟩) ?_ ?_
 rotate_left
 ·simp only [Act.put,sA,sZ,sS,i64_w,i32_w]
  rfl
 refine pure_ (i:=5) (N:=some 10) (v:=undef) (a':=?_) #[I,I,I,I,I,I,O,O,O,O,O,O,O,O] rfl rfl (any_of HT_.out (by kernel_rfl)) (fun _ _ _ h=>h) (Or.inr ⟨by rfl,rfl⟩) ?_ ?_
 rotate_left
 ·simp only [Act.put,sA,sZ,sS,i64_w,i32_w]
  rfl
 refine pure_ (i:=6) (N:=some 11) (v:=undef) (a':=?_) #[I,I,I,I,I,I,I,O,O,O,O,O,O,O] rfl rfl (any_of HT_.out (by kernel_rfl)) (fun _ _ _ h=>h) (Or.inr ⟨by rfl,rfl⟩) ?_ ?_
 rotate_left
 ·simp only [Act.put,sA,sZ,sS,i64_w,i32_w]
  rfl
 refine pure_ (i:=7) (N:=some 12) (v:=undef) (a':=?_) #[I,I,I,I,I,I,I,I,O,O,O,O,O,O] rfl rfl (any_of HT_.out (by kernel_rfl)) (fun _ _ _ h=>h) (Or.inr ⟨by rfl,rfl⟩) ?_ ?_
 rotate_left
 ·simp only [Act.put,sA,sZ,sS,i64_w,i32_w]
  rfl
 refine pure_ (i:=8) (N:=some 13) (v:=undef) (a':=?_) #[I,I,I,I,I,I,I,I,I,O,O,O,O,O] rfl rfl (any_of HT_.out (by kernel_rfl)) (fun _ _ _ h=>h) (Or.inr ⟨by rfl,rfl⟩) ?_ ?_
 rotate_left
 ·simp only [Act.put,sA,sZ,sS,i64_w,i32_w]
  rfl
 refine pure_ (i:=9) (N:=some 14) (v:=undef) (a':=?_) #[I,I,I,I,I,I,I,I,I,I,O,O,O,O] rfl rfl (any_of HT_.out (by kernel_rfl)) (fun _ _ _ h=>h) (Or.inr ⟨by rfl,rfl⟩) ?_ ?_
 rotate_left
 ·simp only [Act.put,sA,sZ,sS,i64_w,i32_w]
  rfl
 refine pure_ (i:=10) (N:=some 15) (v:=undef) (a':=?_) #[I,I,I,I,I,I,I,I,I,I,I,O,O,O] rfl rfl (any_of HT_.out (by kernel_rfl)) (fun _ _ _ h=>h) (Or.inr ⟨by rfl,rfl⟩) ?_ ?_
 rotate_left
 ·simp only [Act.put,sA,sZ,sS,i64_w,i32_w]
  rfl
 refine pure_ (i:=11) (N:=some 16) (v:=undef) (a':=?_) #[I,I,I,I,I,I,I,I,I,I,I,I,O,O] rfl rfl (any_of HT_.out (by kernel_rfl)) (fun _ _ _ h=>h) (Or.inr ⟨by rfl,rfl⟩) ?_ ?_
 rotate_left
 ·simp only [Act.put,sA,sZ,sS,i64_w,i32_w]
  rfl
 refine pure_ (i:=12) (N:=some 17) (v:=?_) (a':=?_) #[I,I,I,I,I,I,I,I,I,I,I,I,I,O] rfl rfl (any_of HT_.out (by kernel_rfl)) (fun _ _ _ h=>h) (Or.inl ⟨by rfl,?_⟩) ?_ ?_
 rotate_left
 ·intro w'
  go_simp
  with_reducible rfl
 rotate_left
 ·simp only [Act.put,sA,sZ,sS,i64_w,i32_w]
  rfl
 refine pure_ (i:=13) (N:=some 4) (v:=?_) (a':=?_) #[I,I,I,I,I,I,I,I,I,I,I,I,I,I] rfl rfl (any_of HT_.out (by kernel_rfl)) (fun _ _ _ h=>h) (Or.inl ⟨by rfl,?_⟩) ?_ ?_
 rotate_left
 ·intro w'
  go_simp
  with_reducible rfl
 rotate_left
 ·simp only [Act.put,sA,sZ,sS,i64_w,i32_w]
  rfl
 refine done_ (done_of HT_.out (by kernel_rfl)) ?_
 try go_wp2
 go_ret
 exact ⟨by first|rfl|(simp [errW_none,errW_some]<;>rfl)|(simp [*, errW_none,errW_some]<;>rfl),by repeat (first|(with_reducible first|exact HB.out|apply bA|apply bN|apply bD|refine bS ?_ GE101.out)|exact HB.out)⟩
/-! ### impl_Mark: function 110 -/
def impl_Mark.f (l0:List (S33)):Option ((List (S33))):=(some (([]:List (S33)):List (S33))).bind fun y101=>(if y101.length+l0.length<8796093022208 then (some (y101++l0)) else (none))
set_option maxHeartbeats 8000000 in
set_option maxRecDepth 100000 in
theorem impl_Mark.calls (A0:Option Addr) (c0:Nat) (l0:List (S33)) (r:List (S33)) (w:World) (hr0:Kd.C k33 w A0 l0.length l0) (hc0:l0.length≤c0) (h:impl_Mark.f l0=some r) :
  Calls Try.prog 110 #[.slice A0 l0.length c0] w fun e w'=>∃ v0_:Value,e = .returned (v0_)∧Kd.R k33 33 w' w.heap.size (fun _=>True) v0_ r∧Below w.heap.size w w':=by
 have HR0:=mA hr0
 have HC0:=mA hc0
 clear hr0 hc0
 have HB:=mA (Below.refl w.heap.size w)
 have H:((some (([]:List (S33)):List (S33))).bind fun y101=>(if y101.length+l0.length<8796093022208 then (some (y101++l0)) else (none)))=some r:=h
 clear h
 by_cases hA0_:A0=none
 ·subst hA0_
  have hl0_:l0.length=0:=reads_none HR0.out
  have hl1_:l0=[]:=List.eq_nil_of_length_eq_zero hl0_
  subst hl1_
  have hr_:r=[]:=by simpa using H.symm
  subst hr_
  have hq_ : ∀ (w_:World) (n_:Nat),(binOp .eql 34 (.slice none n_ c0) (.slice none 0 0)).run Try.prog w_ = .ok (.bool true) w_:=fun w_ n_=>Lib.run_eql_slice_nil (P:=Try.prog) w_ 34 33 none n_ c0 0 0 Try.underlying34
  clear H hl0_
  go_enter Try.func110,Try.ntmps110
  go_wp2
  go_ret
  exact ⟨_,rfl,Kd.R_nil _ _ _ _ _,(by repeat first|(with_reducible first|exact HB.out|apply bA|apply bN|apply bD)|exact HB.out)⟩
 obtain ⟨a0_,ha0_⟩ : ∃ a_,A0=some a_:=Option.ne_none_iff_exists'.mp hA0_
 subst ha0_
 have hq_ : ∀ (w_:World) (n_:Nat),(binOp .eql 34 (.slice (some a0_) n_ c0) (.slice none 0 0)).run Try.prog w_ = .ok (.bool false) w_:=fun w_ n_=>Lib.run_eql_slice_nil (P:=Try.prog) w_ 34 33 (some a0_) n_ c0 0 0 Try.underlying34
 clear hA0_
 obtain ⟨y101,hy101⟩ : ∃ y_:List (S33),y_=(([]:List (S33))):=⟨_,rfl⟩
 replace H:(if y101.length+l0.length<8796093022208 then (some (y101++l0)) else (none))=some r:=by first|(rw [hy101];with_reducible exact H)|(have H2_:=(oS _ _).symm.trans H;rw [hy101];with_reducible exact H2_)|(have H2_:=(oS _ _).symm.trans H;with_reducible exact H2_)|with_reducible exact H|(rw [hy101];exact H)|exact H
 have Ny101:=mA hy101
 clear hy101
 by_cases c2:y101.length+l0.length<8796093022208
 ·rw [if_pos c2] at H
  have LMc2:=mA c2
  clear c2
  obtain ⟨y104,hy104⟩ : ∃ y_:List (S33),y_=(y101++l0):=⟨_,rfl⟩
  replace H:(some y104)=some r:=by first|(rw [hy104];with_reducible exact H)|(have H2_:=(oS _ _).symm.trans H;rw [hy104];with_reducible exact H2_)|(have H2_:=(oS _ _).symm.trans H;with_reducible exact H2_)|with_reducible exact H|(rw [hy104];exact H)|exact H
  have Ny104:=mA hy104
  clear hy104
  obtain rfl:=Option.some.inj H
  go_enter Try.func110,Try.ntmps110
  go_wp2_with (first|((with_reducible refine gate_dst (N:=5) rfl ?_);refine Kd.R_lit k33 _ 33 ?hg (N:=5) ?hd (xs:=([]:List (S33))) (inner:=[]) (ok:=fun _=>True) (okp:=fun _=>True) ?hr ?hp (fun _ hk=>hk) trivial (Below.refl _ _) (Nat.le_refl _) (by simp) ?_;(case hd=>rfl);(case hg=>rfl);(case hr=>first|(go_simp;done)|(go_simp;rfl));(case hp=>exact (Reps.none _ _));intro v102 w3 ho4 hb hg_ hnew_;clear hg_ hnew_;(first|rw [←Ny101.out] at ho4|(simp only [Int.reduceToNat] at ho4;rw [←Ny101.out] at ho4));have n0_:=mA (rW ho4 (bZ (by repeat first|(with_reducible first|exact HB.out|apply bA|apply bN|apply bD)|exact HB.out)));have n1_:=mA (bT (by repeat first|(with_reducible first|exact HB.out|apply bA|apply bN|apply bD)|exact HB.out) hb);clear HB;have HO103:=n0_;have HB:=n1_;clear n0_ n1_ hb ho4)|((with_reducible refine gate_builtin (b:=.append) (xs:=#[.tmp 5,.tmp 6]) rfl ?_);at_builtin;refine Kd.R_append_rows k33 (w0:=w) w.heap.size rfl (.tmp 5) (.tmp 6) 34 33 (.agg #[(.int .i64 0),(.int .i64 0)]) 16 rfl Try.underlying34 info33 rfl (by decide) (by omega) v102 y101 l0 _ _ _ (fun _=>True) (fun _=>False) rfl rfl ?aO ?aR (fun _ _ h=>h) (fun _ h=>h.elim) ?aF ?aB ?aS ?aL ?_;(case aR=>repeat first|exact (Kd.C_below HR0.out HB.out)|(with_reducible refine cA ?_ _)|(with_reducible refine cN ?_ _)|(with_reducible refine cD ?_));(case aB=>exact (by repeat first|(with_reducible first|exact HB.out|apply bA|apply bN|apply bD)|exact HB.out));(case aF=>exact (fun _ _=>trivial));(case aO=>exact (by (with_reducible repeat first|apply rA|apply rN|apply rD);exact HO103.out));(case aS=>exact (bZ (by repeat first|(with_reducible first|exact HB.out|apply bA|apply bN|apply bD)|exact HB.out)));(case aL=>have:=LMc2.out;omega);intro v105 w5 ho hb hg hat;rw [←Ny104.out] at ho;have n0_:=mA (hb);have n1_:=mA (ho);clear HB HO103;have HB:=n0_;have HO106:=n1_;clear n0_ n1_ ho hb hg hat))
  go_ret
  exact ⟨_,by first|rfl|(simp [errW_none,errW_some]<;>rfl)|(simp [*, errW_none,errW_some]<;>rfl),by (with_reducible repeat first|apply rA|apply rN|apply rD);exact HO106.out,by repeat (first|(with_reducible first|exact HB.out|apply bA|apply bN|apply bD)|exact HB.out)⟩
 rw [if_neg c2] at H
 exact absurd H (by simp)
/-! ### impl_claimBy: function 109 -/
def impl_claimBy.f (k:Nat) (a0:Int) (a1:Int) (l2:List (S33)):Option (Int×(List (S33))×Bool):=(impl_Mark.f l2).bind fun t102=>((impl_ClaimOk.f k a0 a1 t102).bind fun t106=>(if t106=true then (some (a1,t102,true)) else (some (0,([]:List (S33)),false))))
theorem impl_claimBy.mono : ∀ a0 a1 a2 k,LeO (impl_claimBy.f k a0 a1 a2) (impl_claimBy.f (k+1) a0 a1 a2):=by
 intro a0 a1 a2 k
 unfold impl_claimBy.f
 repeat' first
   | (with_reducible exact impl_ClaimOk.mono _ _ _ _)
   | (with_reducible exact LeO.refl _)
   | (with_reducible exact LeO.none _)
   | (with_reducible refine LeO.ite ?_ ?_)
   | (with_reducible refine LeO.bind ?_ (fun _=>?_))
   | exact impl_ClaimOk.mono _ _ _ _
   | exact LeO.none _
   | refine LeO.ite ?_ ?_
   | refine LeO.bind ?_ (fun _=>?_)
set_option maxHeartbeats 8000000 in
set_option maxRecDepth 100000 in
theorem impl_claimBy.calls (k:Nat) (a0:Int) (a1:Int) (A2:Option Addr) (c2:Nat) (l2:List (S33)) (r1:Int) (r2:List (S33)) (r3:Bool) (w:World) (hr2:Kd.C k33 w A2 l2.length l2) (hc2:l2.length≤c2) (h:impl_claimBy.f k a0 a1 l2=some (r1,r2,r3)) :
  Calls Try.prog 109 #[.int .i64 a0,.int .i64 a1,.slice A2 l2.length c2] w fun e w'=>∃ v1_:Value,e = .returned (.tuple #[.agg #[.int .i64 r1,v1_],.bool r3])∧Kd.R k33 33 w' w.heap.size (fun _=>True) v1_ r2∧Below w.heap.size w w':=by
 have hu36:=Try.underlying36
 have HR2:=mA hr2
 have HC2:=mA hc2
 clear hr2 hc2
 have HB:=mA (Below.refl w.heap.size w)
 have H:((impl_Mark.f l2).bind fun t102=>((impl_ClaimOk.f k a0 a1 t102).bind fun t106=>(if t106=true then (some (a1,t102,true)) else (some (0,([]:List (S33)),false)))))=some (r1,r2,r3):=h
 clear h
 replace H:=oB.mp H
 obtain ⟨t102,A40,H⟩:=H
 replace H:((impl_ClaimOk.f k a0 a1 t102).bind fun t106=>(if t106=true then (some (a1,t102,true)) else (some (0,([]:List (S33)),false))))=some (r1,r2,r3):=H
 have A4:=mA A40
 clear A40
 replace H:=oB.mp H
 obtain ⟨t106,A50,H⟩:=H
 replace H:(if t106=true then (some (a1,t102,true)) else (some (0,([]:List (S33)),false)))=some (r1,r2,r3):=H
 have A5:=mA A50
 clear A50
 by_cases c6:t106=true
 ·subst c6
  have H1:(some (a1,t102,true))=some (r1,r2,r3):=by rw [if_pos rfl] at H;exact H
  clear H
  have H:=H1
  clear H1
  simp only [Option.some.injEq,Prod.mk.injEq] at H
  obtain ⟨rfl,rfl,rfl⟩:=H
  go_enter Try.func109,Try.ntmps109
  go_wp2_with (first|((with_reducible refine gate_dst (N:=6) rfl ?_);refine box_event ?hg (N:=6) ?hd (cs:=#[.int .i64 0,.slice none 0 0]) (t:=36) ?hr ?_;(case hd=>rfl);(case hg=>rfl);(case hr=>first|(go_simp;done)|(go_simp;rfl));intro gb101 hg w7 hbox hb;have n0_:=mA (bT (by repeat first|(with_reducible first|exact HB.out|apply bA|apply bN|apply bD)|exact HB.out) hb);have n1_:=mA (hbox);have n2_:=mA ((by rw [hg];exact (bZ (by repeat first|(with_reducible first|exact HB.out|apply bA|apply bN|apply bD)|exact HB.out)):w.heap.size≤gb101));have n3_:=mA ((by rw [hg];exact (bZ (by repeat first|(with_reducible first|exact HB.out|apply bA|apply bN|apply bD)|exact HB.out)):w.heap.size≤gb101));clear HB;have HB:=n0_;have BK101:=n1_;have GW101:=n2_;have GE101:=n3_;clear n0_ n1_ n2_ n3_ hb hbox hg)|((with_reducible refine gate_callee (f:=110) rfl ?_);refine goesL_ (some 11) rfl rfl Try.func110 (by kernel_rfl) rfl #[.slice A2 l2.length c2] rfl (by (try simp only [mT,mC,mN]);first|done|rfl|(simp only [lD,lT];rfl)) ?_;(with_reducible refine (impl_Mark.calls _ _ l2 t102 _ ?side1 ?side2 A4.out).mono ?_);(case side1=>repeat first|exact (Kd.C_below HR2.out HB.out)|(with_reducible refine cA ?_ _)|(with_reducible refine cN ?_ _)|(with_reducible refine cD ?_));(case side2=>exact HC2.out);rintro e w8 ⟨v103,rfl,ho0,hb⟩;refine ⟨_,rfl,?_⟩;have n0_:=mA (rW ho0 (bZ (by repeat first|(with_reducible first|exact HB.out|apply bA|apply bN|apply bD|refine bS ?_ GE101.out)|exact HB.out)));have n1_:=mA (kB (g:=gb101) (o:=.cells #[.int .i64 0,.slice none 0 0] 36 (0,0)) (by (with_reducible repeat first|refine kN ?_ _|refine kD ?_|refine kA ?_ _);exact BK101.out) hb);have n2_:=mA (bT (by repeat first|(with_reducible first|exact HB.out|apply bA|apply bN|apply bD|refine bS ?_ GE101.out)|exact HB.out) hb);clear BK101 HB;have HO104:=n0_;have BK101:=n1_;have HB:=n2_;clear n0_ n1_ n2_;(try clear hb);(try clear hb2);(try clear hk);(try clear hi);(try clear ho0);obtain ⟨Ao9,co9,eo9⟩:=Kd.R_slice HO104.out;subst eo9)|((with_reducible refine gate_dst (N:=8) rfl ?_);refine box_event ?hg (N:=8) ?hd (cs:=#[.int .i64 0,.slice none 0 0]) (t:=36) ?hr ?_;(case hd=>rfl);(case hg=>rfl);(case hr=>first|(go_simp;done)|(go_simp;rfl));intro gb105 hg w10 hbox hb;have n0_:=mA (rB (by (with_reducible repeat first|apply rA|apply rN|apply rD);exact HO104.out) hb);have n1_:=mA (kB (g:=gb101) (o:=.cells #[.int .i64 0,.slice none 0 0] 36 (0,0)) (by (with_reducible repeat first|refine kN ?_ _|refine kD ?_|refine kA ?_ _);exact BK101.out) hb);have n2_:=mA (bT (by repeat first|(with_reducible first|exact HB.out|apply bA|apply bN|apply bD|refine bS ?_ GE101.out)|exact HB.out) hb);have n3_:=mA (hbox);have n4_:=mA ((by rw [hg];exact (bZ (by repeat first|(with_reducible first|exact HB.out|apply bA|apply bN|apply bD|refine bS ?_ GE101.out)|exact HB.out)):w.heap.size≤gb105));have n5_:=mA ((by rw [hg];exact (bZ (by repeat first|(with_reducible first|exact HB.out|apply bA|apply bN|apply bD|refine bS ?_ GE101.out)|exact HB.out)):w.heap.size≤gb105));have n6_:=mA ((by rw [hg];exact Nat.ne_of_lt (kL (g:=gb101) (o:=.cells #[.int .i64 0,.slice none 0 0] 36 (0,0)) (by (with_reducible repeat first|refine kN ?_ _|refine kD ?_|refine kA ?_ _);exact BK101.out)):gb101≠gb105));have n7_:=mA ((by rw [hg];exact Nat.ne_of_gt (kL (g:=gb101) (o:=.cells #[.int .i64 0,.slice none 0 0] 36 (0,0)) (by (with_reducible repeat first|refine kN ?_ _|refine kD ?_|refine kA ?_ _);exact BK101.out)):gb105≠gb101));clear HO104 BK101 HB;have HO104:=n0_;have BK101:=n1_;have HB:=n2_;have BK105:=n3_;have GW105:=n4_;have GE105:=n5_;have NB101_105:=n6_;have NB105_101:=n7_;clear n0_ n1_ n2_ n3_ n4_ n5_ n6_ n7_ hb hbox hg;have hnb11:=NB105_101.out;have hnc11:=NB101_105.out;have hcz12_0:w10.cell? ⟨gb105,0,none⟩=some (.int .i64 0):=(kC BK105.out 0).trans rfl;have hcz12_1:w10.cell? ⟨gb105,1,none⟩=some (.slice none 0 0):=(kC BK105.out 1).trans rfl;have hfz12_0:=kF BK105.out 0;have hfz12_1:=kF BK105.out 1)|((with_reducible refine gate_callee (f:=45) rfl ?_);refine goesL_ (some 15) rfl rfl Try.func45 (by kernel_rfl) rfl #[.int .i64 a0,.agg #[.int .i64 a1,.slice Ao9 t102.length co9]] rfl (by (try simp only [mT,mC,mN]);first|done|rfl|(simp only [lD,lT];rfl)) ?_;(with_reducible refine (impl_ClaimOk.calls k a0 a1 _ _ t102 true _ ?side1 ?side2 A5.out).mono ?_);(case side1=>refine (rR (e:=33) (base:=w.heap.size) (ok:=fun k_=>True) (n:=t102.length) (c:=co9) ?_).2.2;exact (by (with_reducible repeat first|apply rA|apply rN|apply rD);exact (rM (rF (p:=⟨gb105,1,none⟩) (rF (p:=⟨gb105,0,none⟩) (rY HO104.out BK105.out (by decide)) (fun _ hk=>hk.2) (.int .i64 a1)) (fun _ hk=>hk.2) (.slice Ao9 t102.length co9)) (fun _ h_=>h_.1))));(case side2=>exact (rR HO104.out).2.1);rintro e w13 ⟨rfl,hb⟩;refine ⟨_,rfl,?_⟩;have n0_:=mA (rB (by (with_reducible repeat first|apply rA|apply rN|apply rD);exact (rM (rF (p:=⟨gb105,1,none⟩) (rF (p:=⟨gb105,0,none⟩) (rY HO104.out BK105.out (by decide)) (fun _ hk=>hk.2) (.int .i64 a1)) (fun _ hk=>hk.2) (.slice Ao9 t102.length co9)) (fun _ h_=>h_.1))) hb);have n1_:=mA (kB (g:=gb101) (o:=.cells #[.int .i64 0,.slice none 0 0] 36 (0,0)) (by (with_reducible repeat first|refine kN ?_ _|refine kD ?_|refine kA ?_ _);refine kZ ?_ NB101_105.out _;(with_reducible repeat first|refine kN ?_ _|refine kD ?_|refine kA ?_ _);refine kZ ?_ NB101_105.out _;(with_reducible repeat first|refine kN ?_ _|refine kD ?_|refine kA ?_ _);exact BK101.out) hb);have n2_:=mA (kB (g:=gb105) (o:=.cells #[.int .i64 a1,.slice Ao9 t102.length co9] 36 (0,0)) (by (with_reducible repeat first|refine kN ?_ _|refine kD ?_|refine kA ?_ _);refine kP (cs:=#[.int .i64 a1,.slice none 0 0]) ?_ 1 _ rfl;(with_reducible repeat first|refine kN ?_ _|refine kD ?_|refine kA ?_ _);refine kP (cs:=#[.int .i64 0,.slice none 0 0]) ?_ 0 _ rfl;(with_reducible repeat first|refine kN ?_ _|refine kD ?_|refine kA ?_ _);exact BK105.out) hb);have n3_:=mA (bT (by repeat first|(with_reducible first|exact HB.out|apply bA|apply bN|apply bD|refine bS ?_ GE101.out|refine bS ?_ GE105.out)|exact HB.out) hb);clear HO104 BK101 BK105 HB;have HO104:=n0_;have BK101:=n1_;have BK105:=n2_;have HB:=n3_;clear n0_ n1_ n2_ n3_;(try clear hb);(try clear hb2);(try clear hk);(try clear hi);have hcz14_0:w13.cell? ⟨gb105,0,none⟩=some (.int .i64 a1):=(kC BK105.out 0).trans rfl;have hcz14_1:w13.cell? ⟨gb105,1,none⟩=some (.slice Ao9 t102.length co9):=(kC BK105.out 1).trans rfl;have hfz14_0:=kF BK105.out 0;have hfz14_1:=kF BK105.out 1;have hcz15_0:w13.cell? ⟨gb101,0,none⟩=some (.int .i64 0):=(kC BK101.out 0).trans rfl;have hcz15_1:w13.cell? ⟨gb101,1,none⟩=some (.slice none 0 0):=(kC BK101.out 1).trans rfl;have hfz15_0:=kF BK101.out 0;have hfz15_1:=kF BK101.out 1))
  refine bodyPost_ret (results_ct rfl _ _ gb101 36 #[.int .i64 a1,.slice Ao9 t102.length co9] (0,0) _ rfl (by (with_reducible repeat first|refine kN ?_ _|refine kD ?_|refine kA ?_ _);refine kP (cs:=#[.int .i64 a1,.slice none 0 0]) ?_ 1 _ rfl;(with_reducible repeat first|refine kN ?_ _|refine kD ?_|refine kA ?_ _);refine kP (cs:=#[.int .i64 0,.slice none 0 0]) ?_ 0 _ rfl;(with_reducible repeat first|refine kN ?_ _|refine kD ?_|refine kA ?_ _);exact BK101.out) Try.underlying36 rfl (by kernel_rfl)) rfl ?_
  exact ⟨_,by first|rfl|(simp [errW_none,errW_some]<;>rfl)|(simp [*, errW_none,errW_some]<;>rfl),by (with_reducible repeat first|apply rA|apply rN|apply rD);exact rM (rF (p:=⟨gb101,1,none⟩) (rF (p:=⟨gb101,0,none⟩) (rY HO104.out BK101.out (by decide)) (fun _ hk=>hk.2) (.int .i64 a1)) (fun _ hk=>hk.2) (.slice Ao9 t102.length co9)) (fun _ hk=>trivial),by repeat (first|(with_reducible first|exact HB.out|apply bA|apply bN|apply bD|refine bS ?_ GE101.out|refine bS ?_ GE105.out)|exact HB.out)⟩
 replace c6:=Bool.eq_false_iff.mpr c6
 subst c6
 have H1:(some (0,([]:List (S33)),false))=some (r1,r2,r3):=by rw [if_neg (show ¬ (false=true) by decide)] at H;exact H
 clear H
 have H:=H1
 clear H1
 simp only [Option.some.injEq,Prod.mk.injEq] at H
 obtain ⟨rfl,rfl,rfl⟩:=H
 go_enter Try.func109,Try.ntmps109
 go_wp2_with (first|((with_reducible refine gate_dst (N:=6) rfl ?_);refine box_event ?hg (N:=6) ?hd (cs:=#[.int .i64 0,.slice none 0 0]) (t:=36) ?hr ?_;(case hd=>rfl);(case hg=>rfl);(case hr=>first|(go_simp;done)|(go_simp;rfl));intro gb101 hg w16 hbox hb;have n0_:=mA (bT (by repeat first|(with_reducible first|exact HB.out|apply bA|apply bN|apply bD)|exact HB.out) hb);have n1_:=mA (hbox);have n2_:=mA ((by rw [hg];exact (bZ (by repeat first|(with_reducible first|exact HB.out|apply bA|apply bN|apply bD)|exact HB.out)):w.heap.size≤gb101));have n3_:=mA ((by rw [hg];exact (bZ (by repeat first|(with_reducible first|exact HB.out|apply bA|apply bN|apply bD)|exact HB.out)):w.heap.size≤gb101));clear HB;have HB:=n0_;have BK101:=n1_;have GW101:=n2_;have GE101:=n3_;clear n0_ n1_ n2_ n3_ hb hbox hg)|((with_reducible refine gate_callee (f:=110) rfl ?_);refine goesL_ (some 11) rfl rfl Try.func110 (by kernel_rfl) rfl #[.slice A2 l2.length c2] rfl (by (try simp only [mT,mC,mN]);first|done|rfl|(simp only [lD,lT];rfl)) ?_;(with_reducible refine (impl_Mark.calls _ _ l2 t102 _ ?side1 ?side2 A4.out).mono ?_);(case side1=>repeat first|exact (Kd.C_below HR2.out HB.out)|(with_reducible refine cA ?_ _)|(with_reducible refine cN ?_ _)|(with_reducible refine cD ?_));(case side2=>exact HC2.out);rintro e w17 ⟨v103,rfl,ho0,hb⟩;refine ⟨_,rfl,?_⟩;have n0_:=mA (rW ho0 (bZ (by repeat first|(with_reducible first|exact HB.out|apply bA|apply bN|apply bD|refine bS ?_ GE101.out)|exact HB.out)));have n1_:=mA (kB (g:=gb101) (o:=.cells #[.int .i64 0,.slice none 0 0] 36 (0,0)) (by (with_reducible repeat first|refine kN ?_ _|refine kD ?_|refine kA ?_ _);exact BK101.out) hb);have n2_:=mA (bT (by repeat first|(with_reducible first|exact HB.out|apply bA|apply bN|apply bD|refine bS ?_ GE101.out)|exact HB.out) hb);clear BK101 HB;have HO104:=n0_;have BK101:=n1_;have HB:=n2_;clear n0_ n1_ n2_;(try clear hb);(try clear hb2);(try clear hk);(try clear hi);(try clear ho0);obtain ⟨Ao18,co18,eo18⟩:=Kd.R_slice HO104.out;subst eo18)|((with_reducible refine gate_dst (N:=8) rfl ?_);refine box_event ?hg (N:=8) ?hd (cs:=#[.int .i64 0,.slice none 0 0]) (t:=36) ?hr ?_;(case hd=>rfl);(case hg=>rfl);(case hr=>first|(go_simp;done)|(go_simp;rfl));intro gb105 hg w19 hbox hb;have n0_:=mA (rB (by (with_reducible repeat first|apply rA|apply rN|apply rD);exact HO104.out) hb);have n1_:=mA (kB (g:=gb101) (o:=.cells #[.int .i64 0,.slice none 0 0] 36 (0,0)) (by (with_reducible repeat first|refine kN ?_ _|refine kD ?_|refine kA ?_ _);exact BK101.out) hb);have n2_:=mA (bT (by repeat first|(with_reducible first|exact HB.out|apply bA|apply bN|apply bD|refine bS ?_ GE101.out)|exact HB.out) hb);have n3_:=mA (hbox);have n4_:=mA ((by rw [hg];exact (bZ (by repeat first|(with_reducible first|exact HB.out|apply bA|apply bN|apply bD|refine bS ?_ GE101.out)|exact HB.out)):w.heap.size≤gb105));have n5_:=mA ((by rw [hg];exact (bZ (by repeat first|(with_reducible first|exact HB.out|apply bA|apply bN|apply bD|refine bS ?_ GE101.out)|exact HB.out)):w.heap.size≤gb105));have n6_:=mA ((by rw [hg];exact Nat.ne_of_lt (kL (g:=gb101) (o:=.cells #[.int .i64 0,.slice none 0 0] 36 (0,0)) (by (with_reducible repeat first|refine kN ?_ _|refine kD ?_|refine kA ?_ _);exact BK101.out)):gb101≠gb105));have n7_:=mA ((by rw [hg];exact Nat.ne_of_gt (kL (g:=gb101) (o:=.cells #[.int .i64 0,.slice none 0 0] 36 (0,0)) (by (with_reducible repeat first|refine kN ?_ _|refine kD ?_|refine kA ?_ _);exact BK101.out)):gb105≠gb101));clear HO104 BK101 HB;have HO104:=n0_;have BK101:=n1_;have HB:=n2_;have BK105:=n3_;have GW105:=n4_;have GE105:=n5_;have NB101_105:=n6_;have NB105_101:=n7_;clear n0_ n1_ n2_ n3_ n4_ n5_ n6_ n7_ hb hbox hg;have hnb20:=NB105_101.out;have hnc20:=NB101_105.out;have hcz21_0:w19.cell? ⟨gb105,0,none⟩=some (.int .i64 0):=(kC BK105.out 0).trans rfl;have hcz21_1:w19.cell? ⟨gb105,1,none⟩=some (.slice none 0 0):=(kC BK105.out 1).trans rfl;have hfz21_0:=kF BK105.out 0;have hfz21_1:=kF BK105.out 1)|((with_reducible refine gate_callee (f:=45) rfl ?_);refine goesL_ (some 15) rfl rfl Try.func45 (by kernel_rfl) rfl #[.int .i64 a0,.agg #[.int .i64 a1,.slice Ao18 t102.length co18]] rfl (by (try simp only [mT,mC,mN]);first|done|rfl|(simp only [lD,lT];rfl)) ?_;(with_reducible refine (impl_ClaimOk.calls k a0 a1 _ _ t102 false _ ?side1 ?side2 A5.out).mono ?_);(case side1=>refine (rR (e:=33) (base:=w.heap.size) (ok:=fun k_=>True) (n:=t102.length) (c:=co18) ?_).2.2;exact (by (with_reducible repeat first|apply rA|apply rN|apply rD);exact (rM (rF (p:=⟨gb105,1,none⟩) (rF (p:=⟨gb105,0,none⟩) (rY HO104.out BK105.out (by decide)) (fun _ hk=>hk.2) (.int .i64 a1)) (fun _ hk=>hk.2) (.slice Ao18 t102.length co18)) (fun _ h_=>h_.1))));(case side2=>exact (rR HO104.out).2.1);rintro e w22 ⟨rfl,hb⟩;refine ⟨_,rfl,?_⟩;have n0_:=mA (rB (by (with_reducible repeat first|apply rA|apply rN|apply rD);exact (rM (rF (p:=⟨gb105,1,none⟩) (rF (p:=⟨gb105,0,none⟩) (rY HO104.out BK105.out (by decide)) (fun _ hk=>hk.2) (.int .i64 a1)) (fun _ hk=>hk.2) (.slice Ao18 t102.length co18)) (fun _ h_=>h_.1))) hb);have n1_:=mA (kB (g:=gb101) (o:=.cells #[.int .i64 0,.slice none 0 0] 36 (0,0)) (by (with_reducible repeat first|refine kN ?_ _|refine kD ?_|refine kA ?_ _);refine kZ ?_ NB101_105.out _;(with_reducible repeat first|refine kN ?_ _|refine kD ?_|refine kA ?_ _);refine kZ ?_ NB101_105.out _;(with_reducible repeat first|refine kN ?_ _|refine kD ?_|refine kA ?_ _);exact BK101.out) hb);have n2_:=mA (kB (g:=gb105) (o:=.cells #[.int .i64 a1,.slice Ao18 t102.length co18] 36 (0,0)) (by (with_reducible repeat first|refine kN ?_ _|refine kD ?_|refine kA ?_ _);refine kP (cs:=#[.int .i64 a1,.slice none 0 0]) ?_ 1 _ rfl;(with_reducible repeat first|refine kN ?_ _|refine kD ?_|refine kA ?_ _);refine kP (cs:=#[.int .i64 0,.slice none 0 0]) ?_ 0 _ rfl;(with_reducible repeat first|refine kN ?_ _|refine kD ?_|refine kA ?_ _);exact BK105.out) hb);have n3_:=mA (bT (by repeat first|(with_reducible first|exact HB.out|apply bA|apply bN|apply bD|refine bS ?_ GE101.out|refine bS ?_ GE105.out)|exact HB.out) hb);clear HO104 BK101 BK105 HB;have HO104:=n0_;have BK101:=n1_;have BK105:=n2_;have HB:=n3_;clear n0_ n1_ n2_ n3_;(try clear hb);(try clear hb2);(try clear hk);(try clear hi);have hcz23_0:w22.cell? ⟨gb101,0,none⟩=some (.int .i64 0):=(kC BK101.out 0).trans rfl;have hcz23_1:w22.cell? ⟨gb101,1,none⟩=some (.slice none 0 0):=(kC BK101.out 1).trans rfl;have hfz23_0:=kF BK101.out 0;have hfz23_1:=kF BK101.out 1))
 refine bodyPost_ret (results_ct rfl _ _ gb101 36 #[.int .i64 0,.slice none 0 0] (0,0) _ rfl (by (with_reducible repeat first|refine kN ?_ _|refine kD ?_|refine kA ?_ _);refine kP (cs:=#[.int .i64 0,.slice none 0 0]) ?_ 1 _ rfl;(with_reducible repeat first|refine kN ?_ _|refine kD ?_|refine kA ?_ _);refine kP (cs:=#[.int .i64 0,.slice none 0 0]) ?_ 0 _ rfl;(with_reducible repeat first|refine kN ?_ _|refine kD ?_|refine kA ?_ _);exact BK101.out) Try.underlying36 rfl (by kernel_rfl)) rfl ?_
 exact ⟨_,by first|rfl|(simp [errW_none,errW_some]<;>rfl)|(simp [*, errW_none,errW_some]<;>rfl),by first|exact Kd.R_nil _ _ _ _ _|exact Kd.N_nil _ _ _ _ _|exact Kd.V_nil _ _ _ _ _|exact Kd.Q_nil _ _ _ _ _|exact Kd.S_nil _ _ _ _ _,by repeat (first|(with_reducible first|exact HB.out|apply bA|apply bN|apply bD|refine bS ?_ GE101.out|refine bS ?_ GE105.out)|exact HB.out)⟩
/-! ### impl_KindClaim: function 76 -/
def impl_KindClaim.f (k:Nat) (a0:Int) (a1:Int) (a2:Int) (a3:Bool):Option (Int×(List (S33))×Bool):=(some (([(⟨0,a2⟩:S33)]:List (S33)):List (S33))).bind fun y102=>(if a3=true then ((impl_claimBy.f k a0 a1 y102).bind fun bt105=>(some (bt105.1,bt105.2.1,bt105.2.2))) else (if y102.length<8796093022208 then ((impl_claimBy.f k a0 a1 (y102++[(⟨2,0⟩:S33)])).bind fun bt113=>(some (bt113.1,bt113.2.1,bt113.2.2))) else (none)))
theorem impl_KindClaim.mono : ∀ a0 a1 a2 a3 k,LeO (impl_KindClaim.f k a0 a1 a2 a3) (impl_KindClaim.f (k+1) a0 a1 a2 a3):=by
 intro a0 a1 a2 a3 k
 unfold impl_KindClaim.f
 repeat' first
   | (with_reducible exact impl_claimBy.mono _ _ _ _)
   | (with_reducible exact LeO.refl _)
   | (with_reducible exact LeO.none _)
   | (with_reducible refine LeO.ite ?_ ?_)
   | (with_reducible refine LeO.bind ?_ (fun _=>?_))
   | exact impl_claimBy.mono _ _ _ _
   | exact LeO.none _
   | refine LeO.ite ?_ ?_
   | refine LeO.bind ?_ (fun _=>?_)
set_option maxHeartbeats 8000000 in
set_option maxRecDepth 100000 in
theorem impl_KindClaim.calls (k:Nat) (a0:Int) (a1:Int) (a2:Int) (a3:Bool) (r1:Int) (r2:List (S33)) (r3:Bool) (w:World) (h:impl_KindClaim.f k a0 a1 a2 a3=some (r1,r2,r3)) :
  Calls Try.prog 76 #[.int .i64 a0,.int .i64 a1,.int .i64 a2,.bool a3] w fun e w'=>∃ v1_:Value,e = .returned (.tuple #[.agg #[.int .i64 r1,v1_],.bool r3])∧Kd.R k33 33 w' w.heap.size (fun _=>True) v1_ r2∧Below w.heap.size w w':=by
 have hu36:=Try.underlying36
 have hu33:=Try.underlying33
 have HB:=mA (Below.refl w.heap.size w)
 have H:((some (([(⟨0,a2⟩:S33)]:List (S33)):List (S33))).bind fun y102=>(if a3=true then ((impl_claimBy.f k a0 a1 y102).bind fun bt105=>(some (bt105.1,bt105.2.1,bt105.2.2))) else (if y102.length<8796093022208 then ((impl_claimBy.f k a0 a1 (y102++[(⟨2,0⟩:S33)])).bind fun bt113=>(some (bt113.1,bt113.2.1,bt113.2.2))) else (none))))=some (r1,r2,r3):=h
 clear h
 obtain ⟨y102,hy102⟩ : ∃ y_:List (S33),y_=(([(⟨0,a2⟩:S33)]:List (S33))):=⟨_,rfl⟩
 replace H:(if a3=true then ((impl_claimBy.f k a0 a1 y102).bind fun bt105=>(some (bt105.1,bt105.2.1,bt105.2.2))) else (if y102.length<8796093022208 then ((impl_claimBy.f k a0 a1 (y102++[(⟨2,0⟩:S33)])).bind fun bt113=>(some (bt113.1,bt113.2.1,bt113.2.2))) else (none)))=some (r1,r2,r3):=by first|(rw [hy102];with_reducible exact H)|(have H2_:=(oS _ _).symm.trans H;rw [hy102];with_reducible exact H2_)|(have H2_:=(oS _ _).symm.trans H;with_reducible exact H2_)|with_reducible exact H|(rw [hy102];exact H)|exact H
 have Ny102:=mA hy102
 clear hy102
 by_cases c5:a3=true
 ·subst c5
  have H1:((impl_claimBy.f k a0 a1 y102).bind fun bt105=>(some (bt105.1,bt105.2.1,bt105.2.2)))=some (r1,r2,r3):=by rw [if_pos rfl] at H;exact H
  clear H
  have H:=H1
  clear H1
  replace H:=oB.mp H
  obtain ⟨⟨t105,t106,t109⟩,A60,H⟩:=H
  replace H:(some (t105,t106,t109))=some (r1,r2,r3):=H
  have A6:=mA A60
  clear A60
  simp only [Option.some.injEq,Prod.mk.injEq] at H
  obtain ⟨rfl,rfl,rfl⟩:=H
  go_enter Try.func76,Try.ntmps76
  go_wp2_with (first|((with_reducible refine gate_dst (N:=8) rfl ?_);refine box_event ?hg (N:=8) ?hd (cs:=#[.int .i64 0,.slice none 0 0]) (t:=36) ?hr ?_;(case hd=>rfl);(case hg=>rfl);(case hr=>first|(go_simp;done)|(go_simp;rfl));intro gb101 hg w7 hbox hb;have n0_:=mA (bT (by repeat first|(with_reducible first|exact HB.out|apply bA|apply bN|apply bD)|exact HB.out) hb);have n1_:=mA (hbox);have n2_:=mA ((by rw [hg];exact (bZ (by repeat first|(with_reducible first|exact HB.out|apply bA|apply bN|apply bD)|exact HB.out)):w.heap.size≤gb101));have n3_:=mA ((by rw [hg];exact (bZ (by repeat first|(with_reducible first|exact HB.out|apply bA|apply bN|apply bD)|exact HB.out)):w.heap.size≤gb101));clear HB;have HB:=n0_;have BK101:=n1_;have GW101:=n2_;have GE101:=n3_;clear n0_ n1_ n2_ n3_ hb hbox hg)|((with_reducible refine gate_dst (N:=13) rfl ?_);refine Kd.R_lit k33 _ 33 ?hg (N:=13) ?hd (xs:=([(⟨0,a2⟩:S33)]:List (S33))) (inner:=[.int .i64 0,.int .i64 a2]) (ok:=fun _=>True) (okp:=fun _=>True) ?hr ?hp (fun _ hk=>hk) trivial (Below.refl _ _) (Nat.le_refl _) (by simp) ?_;(case hd=>rfl);(case hg=>rfl);(case hr=>first|(go_simp;done)|(go_simp;rfl));(case hp=>exact (Reps.c2 (show Kd.M k33 _ _ _ (⟨0,a2⟩:S33) [.int .i64 0,.int .i64 a2] from (k33_mkM _ _ _ (⟨0,a2⟩:S33) )) (Reps.none _ _)));intro v103 w8 ho9 hb hg_ hnew_;clear hg_ hnew_;(first|rw [←Ny102.out] at ho9|(simp only [Int.reduceToNat] at ho9;rw [←Ny102.out] at ho9));have n0_:=mA (rW ho9 (bZ (by repeat first|(with_reducible first|exact HB.out|apply bA|apply bN|apply bD|refine bS ?_ GE101.out)|exact HB.out)));have n1_:=mA (kB (g:=gb101) (o:=.cells #[.int .i64 0,.slice none 0 0] 36 (0,0)) (by (with_reducible repeat first|refine kN ?_ _|refine kD ?_|refine kA ?_ _);exact BK101.out) hb);have n2_:=mA (bT (by repeat first|(with_reducible first|exact HB.out|apply bA|apply bN|apply bD|refine bS ?_ GE101.out)|exact HB.out) hb);clear BK101 HB;have HO104:=n0_;have BK101:=n1_;have HB:=n2_;clear n0_ n1_ n2_ hb ho9;obtain ⟨Ao10,co10,eo10⟩:=Kd.R_slice HO104.out;subst eo10)|((with_reducible refine gate_callee (f:=109) rfl ?_);refine goesL_ (some 23) rfl rfl Try.func109 (by kernel_rfl) rfl #[.int .i64 a0,.int .i64 a1,.slice Ao10 y102.length co10] rfl (by (try simp only [mT,mC,mN]);first|done|rfl|(simp only [lD,lT];rfl)) ?_;(with_reducible refine (impl_claimBy.calls k a0 a1 _ _ y102 t105 t106 t109 _ ?side1 ?side2 A6.out).mono ?_);(case side1=>repeat first|exact (rR HO104.out).2.2|(with_reducible refine cA ?_ _)|(with_reducible refine cN ?_ _)|(with_reducible refine cD ?_));(case side2=>exact (rR HO104.out).2.1);rintro e w11 ⟨v107,rfl,ho0,hb⟩;refine ⟨_,rfl,?_⟩;have n0_:=mA (rE (by (with_reducible repeat first|apply rA|apply rN|apply rD);exact HO104.out) (Kd.R_base ho0) hb);have n1_:=mA (rW (rQ ho0 (rL (by (with_reducible repeat first|apply rA|apply rN|apply rD);exact HO104.out))) (bZ (by repeat first|(with_reducible first|exact HB.out|apply bA|apply bN|apply bD|refine bS ?_ GE101.out)|exact HB.out)));have n2_:=mA (kB (g:=gb101) (o:=.cells #[.int .i64 0,.slice none 0 0] 36 (0,0)) (by (with_reducible repeat first|refine kN ?_ _|refine kD ?_|refine kA ?_ _);exact BK101.out) hb);have n3_:=mA (bT (by repeat first|(with_reducible first|exact HB.out|apply bA|apply bN|apply bD|refine bS ?_ GE101.out)|exact HB.out) hb);clear HO104 BK101 HB;have HO104:=n0_;have HO108:=n1_;have BK101:=n2_;have HB:=n3_;clear n0_ n1_ n2_ n3_;(try clear hb);(try clear hb2);(try clear hk);(try clear hi);(try clear ho0);have hcz12_0:w11.cell? ⟨gb101,0,none⟩=some (.int .i64 0):=(kC BK101.out 0).trans rfl;have hcz12_1:w11.cell? ⟨gb101,1,none⟩=some (.slice none 0 0):=(kC BK101.out 1).trans rfl;have hfz12_0:=kF BK101.out 0;have hfz12_1:=kF BK101.out 1;obtain ⟨Ao13,co13,eo13⟩:=Kd.R_slice HO108.out;subst eo13))
  refine bodyPost_ret (results_ct rfl _ _ gb101 36 #[.int .i64 t105,.slice Ao13 t106.length co13] (0,0) _ rfl (by (with_reducible repeat first|refine kN ?_ _|refine kD ?_|refine kA ?_ _);refine kP (cs:=#[.int .i64 t105,.slice none 0 0]) ?_ 1 _ rfl;(with_reducible repeat first|refine kN ?_ _|refine kD ?_|refine kA ?_ _);refine kP (cs:=#[.int .i64 0,.slice none 0 0]) ?_ 0 _ rfl;(with_reducible repeat first|refine kN ?_ _|refine kD ?_|refine kA ?_ _);exact BK101.out) Try.underlying36 rfl (by kernel_rfl)) rfl ?_
  exact ⟨_,by first|rfl|(simp [errW_none,errW_some]<;>rfl)|(simp [*, errW_none,errW_some]<;>rfl),by (with_reducible repeat first|apply rA|apply rN|apply rD);exact rM (rF (p:=⟨gb101,1,none⟩) (rF (p:=⟨gb101,0,none⟩) (rY HO108.out BK101.out (by decide)) (fun _ hk=>hk.2) (.int .i64 t105)) (fun _ hk=>hk.2) (.slice Ao13 t106.length co13)) (fun _ hk=>trivial),by repeat (first|(with_reducible first|exact HB.out|apply bA|apply bN|apply bD|refine bS ?_ GE101.out)|exact HB.out)⟩
 replace c5:=Bool.eq_false_iff.mpr c5
 subst c5
 have H1:(if y102.length<8796093022208 then ((impl_claimBy.f k a0 a1 (y102++[(⟨2,0⟩:S33)])).bind fun bt113=>(some (bt113.1,bt113.2.1,bt113.2.2))) else (none))=some (r1,r2,r3):=by rw [if_neg (show ¬ (false=true) by decide)] at H;exact H
 clear H
 have H:=H1
 clear H1
 by_cases c14:y102.length<8796093022208
 ·rw [if_pos c14] at H
  have LMc14:=mA c14
  clear c14
  obtain ⟨y110,hy110⟩ : ∃ y_:List (S33),y_=(y102++[(⟨2,0⟩:S33)]):=⟨_,rfl⟩
  replace H:((impl_claimBy.f k a0 a1 y110).bind fun bt113=>(some (bt113.1,bt113.2.1,bt113.2.2)))=some (r1,r2,r3):=by first|(rw [hy110];with_reducible exact H)|(have H2_:=(oS _ _).symm.trans H;rw [hy110];with_reducible exact H2_)|(have H2_:=(oS _ _).symm.trans H;with_reducible exact H2_)|with_reducible exact H|(rw [hy110];exact H)|exact H
  have Ny110:=mA hy110
  clear hy110
  replace H:=oB.mp H
  obtain ⟨⟨t113,t114,t117⟩,A150,H⟩:=H
  replace H:(some (t113,t114,t117))=some (r1,r2,r3):=H
  have A15:=mA A150
  clear A150
  simp only [Option.some.injEq,Prod.mk.injEq] at H
  obtain ⟨rfl,rfl,rfl⟩:=H
  go_enter Try.func76,Try.ntmps76
  go_wp2_with (first|((with_reducible refine gate_dst (N:=8) rfl ?_);refine box_event ?hg (N:=8) ?hd (cs:=#[.int .i64 0,.slice none 0 0]) (t:=36) ?hr ?_;(case hd=>rfl);(case hg=>rfl);(case hr=>first|(go_simp;done)|(go_simp;rfl));intro gb101 hg w16 hbox hb;have n0_:=mA (bT (by repeat first|(with_reducible first|exact HB.out|apply bA|apply bN|apply bD)|exact HB.out) hb);have n1_:=mA (hbox);have n2_:=mA ((by rw [hg];exact (bZ (by repeat first|(with_reducible first|exact HB.out|apply bA|apply bN|apply bD)|exact HB.out)):w.heap.size≤gb101));have n3_:=mA ((by rw [hg];exact (bZ (by repeat first|(with_reducible first|exact HB.out|apply bA|apply bN|apply bD)|exact HB.out)):w.heap.size≤gb101));clear HB;have HB:=n0_;have BK101:=n1_;have GW101:=n2_;have GE101:=n3_;clear n0_ n1_ n2_ n3_ hb hbox hg)|((with_reducible refine gate_dst (N:=13) rfl ?_);refine Kd.R_lit k33 _ 33 ?hg (N:=13) ?hd (xs:=([(⟨0,a2⟩:S33)]:List (S33))) (inner:=[.int .i64 0,.int .i64 a2]) (ok:=fun _=>True) (okp:=fun _=>True) ?hr ?hp (fun _ hk=>hk) trivial (Below.refl _ _) (Nat.le_refl _) (by simp) ?_;(case hd=>rfl);(case hg=>rfl);(case hr=>first|(go_simp;done)|(go_simp;rfl));(case hp=>exact (Reps.c2 (show Kd.M k33 _ _ _ (⟨0,a2⟩:S33) [.int .i64 0,.int .i64 a2] from (k33_mkM _ _ _ (⟨0,a2⟩:S33) )) (Reps.none _ _)));intro v103 w17 ho18 hb hg_ hnew_;clear hg_ hnew_;(first|rw [←Ny102.out] at ho18|(simp only [Int.reduceToNat] at ho18;rw [←Ny102.out] at ho18));have n0_:=mA (rW ho18 (bZ (by repeat first|(with_reducible first|exact HB.out|apply bA|apply bN|apply bD|refine bS ?_ GE101.out)|exact HB.out)));have n1_:=mA (kB (g:=gb101) (o:=.cells #[.int .i64 0,.slice none 0 0] 36 (0,0)) (by (with_reducible repeat first|refine kN ?_ _|refine kD ?_|refine kA ?_ _);exact BK101.out) hb);have n2_:=mA (bT (by repeat first|(with_reducible first|exact HB.out|apply bA|apply bN|apply bD|refine bS ?_ GE101.out)|exact HB.out) hb);clear BK101 HB;have HO104:=n0_;have BK101:=n1_;have HB:=n2_;clear n0_ n1_ n2_ hb ho18)|((with_reducible refine gate_builtin (b:=.append) (xs:=#[.tmp 16,.tmp 18]) rfl ?_);at_builtin;refine Kd.R_append k33 (w0:=w) w.heap.size rfl (.tmp 16) (.tmp 18) 34 33 (.agg #[(.int .i64 0),(.int .i64 0)]) 16 rfl Try.underlying34 info33 rfl (by decide) (by omega) v103 y102 (⟨2,0⟩:S33) [.int .i64 2,.int .i64 0] (fun _=>True) (fun _=>False) rfl rfl ?aP (fun _ hk=>hk.elim) ?aF ?aO ?aB ?aS ?aL ?_;(case aP=>exact k33_mkM _ _ _ (⟨2,0⟩:S33));(case aB=>exact (by repeat first|(with_reducible first|exact HB.out|apply bA|apply bN|apply bD|refine bS ?_ GE101.out)|exact HB.out));(case aF=>exact (fun _ _=>trivial));(case aO=>exact (by (with_reducible repeat first|apply rA|apply rN|apply rD);exact HO104.out));(case aS=>exact (bZ (by repeat first|(with_reducible first|exact HB.out|apply bA|apply bN|apply bD|refine bS ?_ GE101.out)|exact HB.out)));(case aL=>have:=LMc14.out;omega);intro v111 w19 ho hb hg hat;rw [←Ny110.out] at ho;have n0_:=mA (blk_grown (g:=gb101) (o:=.cells #[.int .i64 0,.slice none 0 0] 36 (0,0)) (by (with_reducible repeat first|refine kN ?_ _|refine kD ?_|refine kA ?_ _);exact BK101.out) hg (Kd.R_ne HO104.out BK101.out (by decide)));have n1_:=mA (hb);have n2_:=mA (ho);clear BK101 HB HO104;have BK101:=n0_;have HB:=n1_;have HO112:=n2_;clear n0_ n1_ n2_ ho hb hg hat;obtain ⟨Ao20,co20,eo20⟩:=Kd.R_slice HO112.out;subst eo20)|((with_reducible refine gate_callee (f:=109) rfl ?_);refine goesL_ (some 23) rfl rfl Try.func109 (by kernel_rfl) rfl #[.int .i64 a0,.int .i64 a1,.slice Ao20 y110.length co20] rfl (by (try simp only [mT,mC,mN]);first|done|rfl|(simp only [lD,lT];rfl)) ?_;(with_reducible refine (impl_claimBy.calls k a0 a1 _ _ y110 t113 t114 t117 _ ?side1 ?side2 A15.out).mono ?_);(case side1=>repeat first|exact (rR HO112.out).2.2|(with_reducible refine cA ?_ _)|(with_reducible refine cN ?_ _)|(with_reducible refine cD ?_));(case side2=>exact (rR HO112.out).2.1);rintro e w21 ⟨v115,rfl,ho0,hb⟩;refine ⟨_,rfl,?_⟩;have n0_:=mA (rE (by (with_reducible repeat first|apply rA|apply rN|apply rD);exact HO112.out) (Kd.R_base ho0) hb);have n1_:=mA (rW (rQ ho0 (rL (by (with_reducible repeat first|apply rA|apply rN|apply rD);exact HO112.out))) (bZ (by repeat first|(with_reducible first|exact HB.out|apply bA|apply bN|apply bD|refine bS ?_ GE101.out)|exact HB.out)));have n2_:=mA (kB (g:=gb101) (o:=.cells #[.int .i64 0,.slice none 0 0] 36 (0,0)) (by (with_reducible repeat first|refine kN ?_ _|refine kD ?_|refine kA ?_ _);exact BK101.out) hb);have n3_:=mA (bT (by repeat first|(with_reducible first|exact HB.out|apply bA|apply bN|apply bD|refine bS ?_ GE101.out)|exact HB.out) hb);clear HO112 BK101 HB;have HO112:=n0_;have HO116:=n1_;have BK101:=n2_;have HB:=n3_;clear n0_ n1_ n2_ n3_;(try clear hb);(try clear hb2);(try clear hk);(try clear hi);(try clear ho0);have hcz22_0:w21.cell? ⟨gb101,0,none⟩=some (.int .i64 0):=(kC BK101.out 0).trans rfl;have hcz22_1:w21.cell? ⟨gb101,1,none⟩=some (.slice none 0 0):=(kC BK101.out 1).trans rfl;have hfz22_0:=kF BK101.out 0;have hfz22_1:=kF BK101.out 1;obtain ⟨Ao23,co23,eo23⟩:=Kd.R_slice HO116.out;subst eo23))
  refine bodyPost_ret (results_ct rfl _ _ gb101 36 #[.int .i64 t113,.slice Ao23 t114.length co23] (0,0) _ rfl (by (with_reducible repeat first|refine kN ?_ _|refine kD ?_|refine kA ?_ _);refine kP (cs:=#[.int .i64 t113,.slice none 0 0]) ?_ 1 _ rfl;(with_reducible repeat first|refine kN ?_ _|refine kD ?_|refine kA ?_ _);refine kP (cs:=#[.int .i64 0,.slice none 0 0]) ?_ 0 _ rfl;(with_reducible repeat first|refine kN ?_ _|refine kD ?_|refine kA ?_ _);exact BK101.out) Try.underlying36 rfl (by kernel_rfl)) rfl ?_
  exact ⟨_,by first|rfl|(simp [errW_none,errW_some]<;>rfl)|(simp [*, errW_none,errW_some]<;>rfl),by (with_reducible repeat first|apply rA|apply rN|apply rD);exact rM (rF (p:=⟨gb101,1,none⟩) (rF (p:=⟨gb101,0,none⟩) (rY HO116.out BK101.out (by decide)) (fun _ hk=>hk.2) (.int .i64 t113)) (fun _ hk=>hk.2) (.slice Ao23 t114.length co23)) (fun _ hk=>trivial),by repeat (first|(with_reducible first|exact HB.out|apply bA|apply bN|apply bD|refine bS ?_ GE101.out)|exact HB.out)⟩
 rw [if_neg c14] at H
 exact absurd H (by simp)
/-! ### impl_TableOf: function 51; what it hands to tableBy: function 118 -/
def impl_TableOf.f (k:Nat) (a0:Int) (l1:List (S33)):Option (Int):=(impl_TermOk.f k a0 l1).bind fun t=>(if t=true then (impl_tableBy.f (fun k_ x_=>impl_holds.f k_ l1 x_) k a0) else (some (-1)))
theorem impl_TableOf.mono : ∀ a0 l1 k,LeO (impl_TableOf.f k a0 l1) (impl_TableOf.f (k+1) a0 l1):=by
 intro a0 l1 k
 unfold impl_TableOf.f
 refine LeO.bind (impl_TermOk.mono _ _ _) (fun _=>?_)
 refine LeO.ite ?_ (LeO.refl _)
 exact impl_tableBy.mono (fun k x=>impl_holds.mono _ _ _) _ _
set_option maxHeartbeats 8000000 in
set_option maxRecDepth 100000 in
theorem impl_TableOf.calls_1 (k:Nat) (A1:Option Addr) (c1:Nat) (l1:List (S33)) (gb1:Nat) (x:Int) (b:Bool) (w:World) (hg:w.heap[gb1]?=some (.cells #[.slice A1 l1.length c1] 34 (0,0))) (hr1:Kd.C k33 w A1 l1.length l1) (hc1:l1.length≤c1) (h:impl_holds.f k l1 x=some b) :
  Calls Try.prog 118 #[.int .i64 x,.pointer (some ⟨gb1,0,none⟩)] w fun e w'=>e = .returned (.bool b)∧Below w.heap.size w w':=by
 have HR1:=mA hr1
 have HC1:=mA hc1
 clear hr1 hc1
 have HB:=mA (Below.refl w.heap.size w)
 have A6:=mA h
 clear h
 have hcz0:w.cell? ⟨gb1,0,none⟩=some (.slice A1 l1.length c1):=(kC hg 0).trans rfl
 have hfz0:=kF hg 0
 clear hg
 go_enter Try.func118,Try.ntmps118
 go_wp2_with (first|((with_reducible refine gate_callee (f:=119) rfl ?_);refine goesL_ (some 6) rfl rfl Try.func119 (by kernel_rfl) rfl #[.slice A1 l1.length c1,.int .i64 x] rfl (by (try simp only [mT,mC,mN]);first|done|rfl) ?_;(with_reducible refine (impl_holds.calls k _ _ l1 x b _ ?side1 ?side2 A6.out).mono ?_);(case side1=>repeat first|exact (Kd.C_below HR1.out HB.out)|(with_reducible refine cA ?_ _)|(with_reducible refine cN ?_ _)|(with_reducible refine cD ?_));(case side2=>exact HC1.out);  rintro e w12 ⟨rfl,hb⟩;refine ⟨_,rfl,?_⟩;have n0_:=mA (bT (by repeat first|(with_reducible first|exact HB.out|apply bA|apply bN|apply bD)|exact HB.out) hb);clear HB;have HB:=n0_;clear n0_;(try clear hb)))
 go_ret
 exact ⟨rfl,(by repeat first|(with_reducible first|exact HB.out|apply bA|apply bN|apply bD)|exact HB.out)⟩
set_option maxHeartbeats 8000000 in
set_option maxRecDepth 100000 in
theorem impl_TableOf.calls (k:Nat) (a0:Int) (A1:Option Addr) (c1:Nat) (l1:List (S33)) (r:Int) (w:World) (hr1:Kd.C k33 w A1 l1.length l1) (hc1:l1.length≤c1) (h:impl_TableOf.f k a0 l1=some r) :
  Calls Try.prog 51 #[.int .i64 a0,.slice A1 l1.length c1] w fun e w'=>e = .returned (.int .i64 r)∧Below w.heap.size w w':=by
 have HR1:=mA hr1
 have HC1:=mA hc1
 clear hr1 hc1
 have HB:=mA (Below.refl w.heap.size w)
 have H:((impl_TermOk.f k a0 l1).bind fun t=>(if t=true then (impl_tableBy.f (fun k_ x_=>impl_holds.f k_ l1 x_) k a0) else (some (-1))))=some r:=h
 clear h
 obtain ⟨t,A10,H⟩:=oB.mp H
 have A1_:=mA A10
 clear A10
 have hmf : ∀ (fn:Fn) (first cap:Array Value) (w:World),(Instr.makeFunc fn first cap).run Try.prog w = .ok (.func fn first cap) w:=fun _ _ _ _=>rfl
 cases t with
 | false =>
  have hr_:r = -1:=by simpa using H.symm
  subst hr_
  clear H
  go_enter Try.func51,Try.ntmps51
  go_wp2_with (first|((with_reducible refine gate_dst (N:=3) rfl ?_);refine box_event ?hg (N:=3) ?hd (cs:=#[.slice A1 l1.length c1]) (t:=34) ?hr ?_;(case hd=>rfl);(case hg=>rfl);(case hr=>first|(go_simp;done)|(go_simp;rfl));intro gb1 hg w3 hbox hb;have n0_:=mA (bT (by repeat first|(with_reducible first|exact HB.out|apply bA|apply bN|apply bD)|exact HB.out) hb);have n1_:=mA (hbox);clear HB;have HB:=n0_;have BK1:=n1_;clear n0_ n1_ hb hbox hg;have hcz0:w3.cell? ⟨gb1,0,none⟩=some (.slice A1 l1.length c1):=(kC BK1.out 0).trans rfl;have hfz0:=kF BK1.out 0)|((with_reducible refine gate_callee (f:=111) rfl ?_);refine goesL_ (some 7) rfl rfl Try.func111 (by kernel_rfl) rfl #[.int .i64 a0,.slice A1 l1.length c1] rfl (by (try simp only [mT,mC,mN]);first|done|rfl) ?_;(with_reducible refine (impl_TermOk.calls k a0 _ _ l1 false _ ?side1 ?side2 A1_.out).mono ?_);(case side1=>repeat first|exact (Kd.C_below HR1.out HB.out)|(with_reducible refine cA ?_ _)|(with_reducible refine cN ?_ _)|(with_reducible refine cD ?_));(case side2=>exact HC1.out);  rintro e w12 ⟨rfl,hb⟩;refine ⟨_,rfl,?_⟩;have m0_:=mA (kB BK1.out hb);clear BK1;have BK1:=m0_;clear m0_;have n0_:=mA (bT (by repeat first|(with_reducible first|exact HB.out|apply bA|apply bN|apply bD)|exact HB.out) hb);clear HB;have HB:=n0_;clear n0_;(try clear hb)))
  go_ret
  exact ⟨rfl,(by repeat first|(with_reducible first|exact HB.out|apply bA|apply bN|apply bD)|exact HB.out)⟩
 | true =>
  replace H:=mA (show impl_tableBy.f (fun k_ x_=>impl_holds.f k_ l1 x_) k a0=some r from H)
  go_enter Try.func51,Try.ntmps51
  go_wp2_with (first|((with_reducible refine gate_dst (N:=3) rfl ?_);refine box_event ?hg (N:=3) ?hd (cs:=#[.slice A1 l1.length c1]) (t:=34) ?hr ?_;(case hd=>rfl);(case hg=>rfl);(case hr=>first|(go_simp;done)|(go_simp;rfl));intro gb1 hg w3 hbox hb;have n0_:=mA (bT (by repeat first|(with_reducible first|exact HB.out|apply bA|apply bN|apply bD)|exact HB.out) hb);have n1_:=mA (hbox);clear HB;have HB:=n0_;have BK1:=n1_;clear n0_ n1_ hb hbox hg;have hcz0:w3.cell? ⟨gb1,0,none⟩=some (.slice A1 l1.length c1):=(kC BK1.out 0).trans rfl;have hfz0:=kF BK1.out 0)|((with_reducible refine gate_callee (f:=111) rfl ?_);refine goesL_ (some 7) rfl rfl Try.func111 (by kernel_rfl) rfl #[.int .i64 a0,.slice A1 l1.length c1] rfl (by (try simp only [mT,mC,mN]);first|done|rfl) ?_;(with_reducible refine (impl_TermOk.calls k a0 _ _ l1 true _ ?side1 ?side2 A1_.out).mono ?_);(case side1=>repeat first|exact (Kd.C_below HR1.out HB.out)|(with_reducible refine cA ?_ _)|(with_reducible refine cN ?_ _)|(with_reducible refine cD ?_));(case side2=>exact HC1.out);  rintro e w12 ⟨rfl,hb⟩;refine ⟨_,rfl,?_⟩;have m0_:=mA (kB BK1.out hb);clear BK1;have BK1:=m0_;clear m0_;have n0_:=mA (bT (by repeat first|(with_reducible first|exact HB.out|apply bA|apply bN|apply bD)|exact HB.out) hb);clear HB;have HB:=n0_;clear n0_;(try clear hb))|((with_reducible refine gate_callee (f:=116) rfl ?_);refine goesL_ (some 11) rfl rfl Try.func116 (by kernel_rfl) rfl #[.int .i64 a0,.func (.func 118) #[] #[.pointer (some ⟨gb1,0,none⟩)]] rfl (by (try simp only [mT,mC,mN]);first|done|rfl) ?_;(with_reducible refine (impl_tableBy.calls (fun k_ x_=>impl_holds.f k_ l1 x_) Try.func118 (by kernel_rfl) rfl #[.pointer (some ⟨gb1,0,none⟩)] k a0 r _ ?hF H.out).mono ?_);(case hF=>exact fun k x b W hb h=>impl_TableOf.calls_1 k _ _ l1 gb1 x b W (kB BK1.out hb) (Kd.C_below (Kd.C_below HR1.out HB.out) hb) HC1.out h);  rintro e w12 ⟨rfl,hb⟩;refine ⟨_,rfl,?_⟩;have n0_:=mA (bT (by repeat first|(with_reducible first|exact HB.out|apply bA|apply bN|apply bD)|exact HB.out) hb);clear HB;have HB:=n0_;clear n0_;(try clear hb)))
  go_ret
  exact ⟨rfl,(by repeat first|(with_reducible first|exact HB.out|apply bA|apply bN|apply bD)|exact HB.out)⟩
/-! ### impl_SameOk: function 77 -/
def impl_SameOk.f (k:Nat) (a0:Int) (l1:List (S33)) (l2:List (S33)):Option (Bool):=(impl_TermOk.f k a0 l1).bind fun t101=>(if t101=true then ((impl_TermOk.f k a0 l2).bind fun t102=>(if t102=true then ((impl_TableOf.f k a0 l1).bind fun t103=>((impl_TableOf.f k a0 l2).bind fun t104=>(some (t103==t104)))) else (some false))) else (some false))
theorem impl_SameOk.mono : ∀ a0 a1 a2 k,LeO (impl_SameOk.f k a0 a1 a2) (impl_SameOk.f (k+1) a0 a1 a2):=by
 intro a0 a1 a2 k
 unfold impl_SameOk.f
 repeat' first
   | (with_reducible exact impl_TableOf.mono _ _ _)
   | (with_reducible exact impl_TermOk.mono _ _ _)
   | (with_reducible exact LeO.refl _)
   | (with_reducible exact LeO.none _)
   | (with_reducible refine LeO.ite ?_ ?_)
   | (with_reducible refine LeO.bind ?_ (fun _=>?_))
   | exact impl_TableOf.mono _ _ _
   | exact impl_TermOk.mono _ _ _
   | exact LeO.none _
   | refine LeO.ite ?_ ?_
   | refine LeO.bind ?_ (fun _=>?_)
set_option maxHeartbeats 8000000 in
set_option maxRecDepth 100000 in
theorem impl_SameOk.calls (k:Nat) (a0:Int) (A1:Option Addr) (c1:Nat) (l1:List (S33)) (A2:Option Addr) (c2:Nat) (l2:List (S33)) (r:Bool) (w:World) (hr1:Kd.C k33 w A1 l1.length l1) (hc1:l1.length≤c1) (hr2:Kd.C k33 w A2 l2.length l2) (hc2:l2.length≤c2) (h:impl_SameOk.f k a0 l1 l2=some r) :
  Calls Try.prog 77 #[.int .i64 a0,.slice A1 l1.length c1,.slice A2 l2.length c2] w fun e w'=>e = .returned (.bool r)∧Below w.heap.size w w':=by
 have HR1:=mA hr1
 have HC1:=mA hc1
 clear hr1 hc1
 have HR2:=mA hr2
 have HC2:=mA hc2
 clear hr2 hc2
 have HB:=mA (Below.refl w.heap.size w)
 have H:((impl_TermOk.f k a0 l1).bind fun t101=>(if t101=true then ((impl_TermOk.f k a0 l2).bind fun t102=>(if t102=true then ((impl_TableOf.f k a0 l1).bind fun t103=>((impl_TableOf.f k a0 l2).bind fun t104=>(some (t103==t104)))) else (some false))) else (some false)))=some r:=h
 clear h
 replace H:=oB.mp H
 obtain ⟨t101,A40,H⟩:=H
 replace H:(if t101=true then ((impl_TermOk.f k a0 l2).bind fun t102=>(if t102=true then ((impl_TableOf.f k a0 l1).bind fun t103=>((impl_TableOf.f k a0 l2).bind fun t104=>(some (t103==t104)))) else (some false))) else (some false))=some r:=H
 have A4:=mA A40
 clear A40
 by_cases c5:t101=true
 ·subst c5
  have H1:((impl_TermOk.f k a0 l2).bind fun t102=>(if t102=true then ((impl_TableOf.f k a0 l1).bind fun t103=>((impl_TableOf.f k a0 l2).bind fun t104=>(some (t103==t104)))) else (some false)))=some r:=by rw [if_pos rfl] at H;exact H
  clear H
  have H:=H1
  clear H1
  replace H:=oB.mp H
  obtain ⟨t102,A60,H⟩:=H
  replace H:(if t102=true then ((impl_TableOf.f k a0 l1).bind fun t103=>((impl_TableOf.f k a0 l2).bind fun t104=>(some (t103==t104)))) else (some false))=some r:=H
  have A6:=mA A60
  clear A60
  by_cases c7:t102=true
  ·subst c7
   have H1:((impl_TableOf.f k a0 l1).bind fun t103=>((impl_TableOf.f k a0 l2).bind fun t104=>(some (t103==t104))))=some r:=by rw [if_pos rfl] at H;exact H
   clear H
   have H:=H1
   clear H1
   replace H:=oB.mp H
   obtain ⟨t103,A80,H⟩:=H
   replace H:((impl_TableOf.f k a0 l2).bind fun t104=>(some (t103==t104)))=some r:=H
   have A8:=mA A80
   clear A80
   replace H:=oB.mp H
   obtain ⟨t104,A90,H⟩:=H
   replace H:(some (t103==t104))=some r:=H
   have A9:=mA A90
   clear A90
   obtain rfl:=Option.some.inj H
   go_enter Try.func77,Try.ntmps77
   go_wp2_with (first|((with_reducible refine gate_callee (f:=111) rfl ?_);refine goesL_ (some 9) rfl rfl Try.func111 (by kernel_rfl) rfl #[.int .i64 a0,.slice A1 l1.length c1] rfl (by (try simp only [mT,mC,mN]);first|done|rfl|(simp only [lD,lT];rfl)) ?_;(with_reducible refine (impl_TermOk.calls k a0 _ _ l1 true _ ?side1 ?side2 A4.out).mono ?_);(case side1=>repeat first|exact HR1.out|(with_reducible refine cA ?_ _)|(with_reducible refine cN ?_ _)|(with_reducible refine cD ?_));(case side2=>exact HC1.out);rintro e w10 ⟨rfl,hb⟩;refine ⟨_,rfl,?_⟩;have n0_:=mA (bT (by repeat first|(with_reducible first|exact HB.out|apply bA|apply bN|apply bD)|exact HB.out) hb);clear HB;have HB:=n0_;clear n0_;(try clear hb);(try clear hb2);(try clear hk);(try clear hi))|(go_at_call 111;(with_reducible refine (impl_TermOk.calls k a0 _ _ l2 true _ ?side1 ?side2 A6.out).mono ?_);(case side1=>repeat first|exact (Kd.C_below HR2.out HB.out)|(with_reducible refine cA ?_ _)|(with_reducible refine cN ?_ _)|(with_reducible refine cD ?_));(case side2=>exact HC2.out);rintro e w11 ⟨rfl,hb⟩;have n0_:=mA (bT (by repeat first|(with_reducible first|exact HB.out|apply bA|apply bN|apply bD)|exact HB.out) hb);clear HB;have HB:=n0_;clear n0_;(try clear hb);(try clear hb2);(try clear hk);(try clear hi))|(go_at_call 51;(with_reducible refine (impl_TableOf.calls k a0 _ _ l1 t103 _ ?side1 ?side2 A8.out).mono ?_);(case side1=>repeat first|exact (Kd.C_below HR1.out HB.out)|(with_reducible refine cA ?_ _)|(with_reducible refine cN ?_ _)|(with_reducible refine cD ?_));(case side2=>exact HC1.out);rintro e w12 ⟨rfl,hb⟩;have n0_:=mA (bT (by repeat first|(with_reducible first|exact HB.out|apply bA|apply bN|apply bD)|exact HB.out) hb);clear HB;have HB:=n0_;clear n0_;(try clear hb);(try clear hb2);(try clear hk);(try clear hi))|(go_at_call 51;(with_reducible refine (impl_TableOf.calls k a0 _ _ l2 t104 _ ?side1 ?side2 A9.out).mono ?_);(case side1=>repeat first|exact (Kd.C_below HR2.out HB.out)|(with_reducible refine cA ?_ _)|(with_reducible refine cN ?_ _)|(with_reducible refine cD ?_));(case side2=>exact HC2.out);rintro e w13 ⟨rfl,hb⟩;have n0_:=mA (bT (by repeat first|(with_reducible first|exact HB.out|apply bA|apply bN|apply bD)|exact HB.out) hb);clear HB;have HB:=n0_;clear n0_;(try clear hb);(try clear hb2);(try clear hk);(try clear hi)))
   go_ret
   exact ⟨by first|rfl|(simp [errW_none,errW_some]<;>rfl)|(simp [*, errW_none,errW_some]<;>rfl),by repeat (first|(with_reducible first|exact HB.out|apply bA|apply bN|apply bD)|exact HB.out)⟩
  replace c7:=Bool.eq_false_iff.mpr c7
  subst c7
  have H1:(some false)=some r:=by rw [if_neg (show ¬ (false=true) by decide)] at H;exact H
  clear H
  have H:=H1
  clear H1
  obtain rfl:=Option.some.inj H
  go_enter Try.func77,Try.ntmps77
  go_wp2_with (first|((with_reducible refine gate_callee (f:=111) rfl ?_);refine goesL_ (some 9) rfl rfl Try.func111 (by kernel_rfl) rfl #[.int .i64 a0,.slice A1 l1.length c1] rfl (by (try simp only [mT,mC,mN]);first|done|rfl|(simp only [lD,lT];rfl)) ?_;(with_reducible refine (impl_TermOk.calls k a0 _ _ l1 true _ ?side1 ?side2 A4.out).mono ?_);(case side1=>repeat first|exact HR1.out|(with_reducible refine cA ?_ _)|(with_reducible refine cN ?_ _)|(with_reducible refine cD ?_));(case side2=>exact HC1.out);rintro e w14 ⟨rfl,hb⟩;refine ⟨_,rfl,?_⟩;have n0_:=mA (bT (by repeat first|(with_reducible first|exact HB.out|apply bA|apply bN|apply bD)|exact HB.out) hb);clear HB;have HB:=n0_;clear n0_;(try clear hb);(try clear hb2);(try clear hk);(try clear hi))|(go_at_call 111;(with_reducible refine (impl_TermOk.calls k a0 _ _ l2 false _ ?side1 ?side2 A6.out).mono ?_);(case side1=>repeat first|exact (Kd.C_below HR2.out HB.out)|(with_reducible refine cA ?_ _)|(with_reducible refine cN ?_ _)|(with_reducible refine cD ?_));(case side2=>exact HC2.out);rintro e w15 ⟨rfl,hb⟩;have n0_:=mA (bT (by repeat first|(with_reducible first|exact HB.out|apply bA|apply bN|apply bD)|exact HB.out) hb);clear HB;have HB:=n0_;clear n0_;(try clear hb);(try clear hb2);(try clear hk);(try clear hi)))
  go_ret
  exact ⟨by first|rfl|(simp [errW_none,errW_some]<;>rfl)|(simp [*, errW_none,errW_some]<;>rfl),by repeat (first|(with_reducible first|exact HB.out|apply bA|apply bN|apply bD)|exact HB.out)⟩
 replace c5:=Bool.eq_false_iff.mpr c5
 subst c5
 have H1:(some false)=some r:=by rw [if_neg (show ¬ (false=true) by decide)] at H;exact H
 clear H
 have H:=H1
 clear H1
 obtain rfl:=Option.some.inj H
 go_enter Try.func77,Try.ntmps77
 go_wp2_with (first|((with_reducible refine gate_callee (f:=111) rfl ?_);refine goesL_ (some 9) rfl rfl Try.func111 (by kernel_rfl) rfl #[.int .i64 a0,.slice A1 l1.length c1] rfl (by (try simp only [mT,mC,mN]);first|done|rfl|(simp only [lD,lT];rfl)) ?_;(with_reducible refine (impl_TermOk.calls k a0 _ _ l1 false _ ?side1 ?side2 A4.out).mono ?_);(case side1=>repeat first|exact HR1.out|(with_reducible refine cA ?_ _)|(with_reducible refine cN ?_ _)|(with_reducible refine cD ?_));(case side2=>exact HC1.out);rintro e w16 ⟨rfl,hb⟩;refine ⟨_,rfl,?_⟩;have n0_:=mA (bT (by repeat first|(with_reducible first|exact HB.out|apply bA|apply bN|apply bD)|exact HB.out) hb);clear HB;have HB:=n0_;clear n0_;(try clear hb);(try clear hb2);(try clear hk);(try clear hi)))
 go_ret
 exact ⟨by first|rfl|(simp [errW_none,errW_some]<;>rfl)|(simp [*, errW_none,errW_some]<;>rfl),by repeat (first|(with_reducible first|exact HB.out|apply bA|apply bN|apply bD)|exact HB.out)⟩
end Go.Proofs.Ytpampekijfjlkab.X
