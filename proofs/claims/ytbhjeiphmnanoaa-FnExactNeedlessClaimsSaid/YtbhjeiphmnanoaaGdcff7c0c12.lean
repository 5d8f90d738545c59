/- Joined by a program of this session's: X61, LH, LTB, LTY, LO, LCB, LST, LSB, LWO, LNE, LWOS, LSM, LCBS, LSTS, LNES, LIS, LM, X44, LMM, LME, LMD, LMS, LMSF, LMCS. -/
import Derived.Test.YtbhjeiphmnanoaaG9e55d0c896
import Derived.Test.YtbhjeiphmnanoaaGbb4f80f58c
import Derived.Test.YtbhjeiphmnanoaaGe9b93dff82
import Derived.Test.YtbhjeiphmnanoaaG6f65fd6125
import Derived.Test.YtbhjeiphmnanoaaG909d3876a2
import Derived.Laws.BitsLemmas
import Derived.Test.YtbhjeiphmnanoaaGcdc94ce2cd

namespace Go.Proofs.Ytbhjeiphmnanoaa.X
open Go.RowKit Go.Proofs.YtbhjeiphmnanoaaW.PrintWords Go.Proofs.YtbhjeiphmnanoaaW.PrintLast Go.Proofs.YtbhjeiphmnanoaaW.PrintMore
open Go.Proofs.YtbhjeiphmnanoaaW.PrintWords renaming Aside0.mk → mA, pw_below_drewN → bN, below_drew1 → bD, below_alloc → bA, below_size → bZ, below_step → bT, Kd.R_alloc → rA, Kd.R_drewN → rN, Kd.R_drew → rD, Kd.R_mono → rM, Kd.R_reads' → rR, Kd.R_lt → rL, Kd.R_below → rB, Kd.R_elder' → rE, Kd.R_lower → rW, Kd.R_new' → rQ, Kd.C_alloc → cA, Kd.C_drewN → cN, Kd.C_drew → cD
open List renaming setIfInBounds_toArray → sA, set_cons_zero → sZ, set_cons_succ → sS, length_take → lT, length_drop → lD, map_toArray → mT, map_cons → mC, map_nil → mN
attribute [local go_sem] max2_int min2_int max_two min_two max_three min_three max_four min_four   -- for this text's walks alone
set_option linter.unusedVariables false
set_option linter.unusedSimpArgs false
/-! ### laws_FnExactNeedlessClaims: function 5 -/
def laws_FnExactNeedlessClaims.j0:Nat→Int→List (S38)→List Int→List Int→Bool→Option (Bool)
 | 0,_,_,_,_,_=>none
 | k+1,x0,x1,x6,x8,x46=>if x46=true then (some false) else ((laws_markIntS.f k x8 1).bind fun bt121=>((laws_heldIntS.f k bt121.2 1).bind fun t123=>(if t123<0 then (some false) else (if t123=bt121.1 then ((laws_toClaimS.f k x1).bind fun t124=>((impl_NeedlessClaims.f k x0 t124).bind fun t127=>((laws_eqIntS.f k t127 x6).bind fun t130=>(if t130=true then ((laws_heldIntS.f k bt121.2 1).bind fun t131=>(if t131<0 then (some false) else (if t131=bt121.1 then (some true) else (some false)))) else (some false))))) else (some false)))))
def laws_FnExactNeedlessClaims.f (k:Nat) (a0:Int) (l1:List (S38)):Option (Bool):=(laws_szClaimS.f k l1 1048576).bind fun t101=>(if t101<0 then (some true) else ((laws_toClaimS.f k l1).bind fun t102=>((spec_NeedlessClaims.f k a0 t102).bind fun t105=>((laws_toClaimS.f k l1).bind fun t108=>((impl_NeedlessClaims.f k a0 t108).bind fun t111=>((laws_eqIntS.f k t111 t105).bind fun t114=>(if t114=true then ((laws_toClaimS.f k l1).bind fun t115=>((laws_eqClaimS.f k t108 t115).bind fun t118=>(if t118=true then ((laws_markClaimS.f k t108 1).bind fun t119=>(if t119<0 then (laws_FnExactNeedlessClaims.j0 k a0 l1 t105 t111 true) else ((laws_eqIntS.f k t111 t105).bind fun t120=>(laws_FnExactNeedlessClaims.j0 k a0 l1 t105 t111 (!t120))))) else (some false)))) else (some false))))))))
theorem laws_FnExactNeedlessClaims.mono_l : ∀ k,(∀ y0 y1 y2 y3 y4,LeO (laws_FnExactNeedlessClaims.j0 k y0 y1 y2 y3 y4) (laws_FnExactNeedlessClaims.j0 (k+1) y0 y1 y2 y3 y4))
 | 0=>fun _ _ _ _ _ r h=>by simp [laws_FnExactNeedlessClaims.j0] at h
 | k+1=>by
  have ih0:=laws_FnExactNeedlessClaims.mono_l k
  ·intro y0 y1 y2 y3 y4
   unfold laws_FnExactNeedlessClaims.j0
   repeat' first
   | (with_reducible exact ih0 _ _ _ _ _)
   | (with_reducible exact impl_NeedlessClaims.mono _ _ _)
   | (with_reducible exact laws_eqClaimS.mono _ _ _)
   | (with_reducible exact laws_eqIntS.mono _ _ _)
   | (with_reducible exact laws_heldIntS.mono _ _ _)
   | (with_reducible exact laws_markClaimS.mono _ _ _)
   | (with_reducible exact laws_markIntS.mono _ _ _)
   | (with_reducible exact laws_szClaimS.mono _ _ _)
   | (with_reducible exact laws_toClaimS.mono _ _)
   | (with_reducible exact spec_NeedlessClaims.mono _ _ _)
   | (with_reducible exact LeO.refl _)
   | (with_reducible exact LeO.none _)
   | (with_reducible refine LeO.ite ?_ ?_)
   | (with_reducible refine LeO.bind ?_ (fun _=>?_))
   | exact ih0 _ _ _ _ _
   | exact impl_NeedlessClaims.mono _ _ _
   | exact laws_eqClaimS.mono _ _ _
   | exact laws_eqIntS.mono _ _ _
   | exact laws_heldIntS.mono _ _ _
   | exact laws_markClaimS.mono _ _ _
   | exact laws_markIntS.mono _ _ _
   | exact laws_szClaimS.mono _ _ _
   | exact laws_toClaimS.mono _ _
   | exact spec_NeedlessClaims.mono _ _ _
   | exact LeO.none _
   | refine LeO.ite ?_ ?_
   | refine LeO.bind ?_ (fun _=>?_)
theorem laws_FnExactNeedlessClaims.mono : ∀ a0 a1 k,LeO (laws_FnExactNeedlessClaims.f k a0 a1) (laws_FnExactNeedlessClaims.f (k+1) a0 a1):=by
 intro a0 a1 k
 have ih0:=laws_FnExactNeedlessClaims.mono_l k
 unfold laws_FnExactNeedlessClaims.f
 repeat' first
   | (with_reducible exact ih0 _ _ _ _ _)
   | (with_reducible exact impl_NeedlessClaims.mono _ _ _)
   | (with_reducible exact laws_eqClaimS.mono _ _ _)
   | (with_reducible exact laws_eqIntS.mono _ _ _)
   | (with_reducible exact laws_heldIntS.mono _ _ _)
   | (with_reducible exact laws_markClaimS.mono _ _ _)
   | (with_reducible exact laws_markIntS.mono _ _ _)
   | (with_reducible exact laws_szClaimS.mono _ _ _)
   | (with_reducible exact laws_toClaimS.mono _ _)
   | (with_reducible exact spec_NeedlessClaims.mono _ _ _)
   | (with_reducible exact LeO.refl _)
   | (with_reducible exact LeO.none _)
   | (with_reducible refine LeO.ite ?_ ?_)
   | (with_reducible refine LeO.bind ?_ (fun _=>?_))
   | exact ih0 _ _ _ _ _
   | exact impl_NeedlessClaims.mono _ _ _
   | exact laws_eqClaimS.mono _ _ _
   | exact laws_eqIntS.mono _ _ _
   | exact laws_heldIntS.mono _ _ _
   | exact laws_markClaimS.mono _ _ _
   | exact laws_markIntS.mono _ _ _
   | exact laws_szClaimS.mono _ _ _
   | exact laws_toClaimS.mono _ _
   | exact spec_NeedlessClaims.mono _ _ _
   | exact LeO.none _
   | refine LeO.ite ?_ ?_
   | refine LeO.bind ?_ (fun _=>?_)
set_option maxHeartbeats 8000000 in
set_option maxRecDepth 100000 in
theorem laws_FnExactNeedlessClaims.calls (k:Nat) (a0:Int) (A1:Option Addr) (c1:Nat) (l1:List (S38)) (r:Bool) (w:World) (hr1:Kd.C k38 w A1 l1.length l1) (hc1:l1.length≤c1) (hr_:Aside0 (r=true)) (h:laws_FnExactNeedlessClaims.f k a0 l1=some r) :
  Calls Try.prog 5 #[.int .i64 a0,.slice A1 l1.length c1] w fun e w'=>e = .returned (.bool r)∧Below w.heap.size w w':=by
 have HR1:=mA hr1
 have HC1:=mA hc1
 clear hr1 hc1
 have HB:=mA (Below.refl w.heap.size w)
 have H:((laws_szClaimS.f k l1 1048576).bind fun t101=>(if t101<0 then (some true) else ((laws_toClaimS.f k l1).bind fun t102=>((spec_NeedlessClaims.f k a0 t102).bind fun t105=>((laws_toClaimS.f k l1).bind fun t108=>((impl_NeedlessClaims.f k a0 t108).bind fun t111=>((laws_eqIntS.f k t111 t105).bind fun t114=>(if t114=true then ((laws_toClaimS.f k l1).bind fun t115=>((laws_eqClaimS.f k t108 t115).bind fun t118=>(if t118=true then ((laws_markClaimS.f k t108 1).bind fun t119=>(if t119<0 then (laws_FnExactNeedlessClaims.j0 k a0 l1 t105 t111 true) else ((laws_eqIntS.f k t111 t105).bind fun t120=>(laws_FnExactNeedlessClaims.j0 k a0 l1 t105 t111 (!t120))))) else (some false)))) else (some false)))))))))=some r:=h
 clear h
 replace H:=Option.bind_eq_some_iff.mp H
 obtain ⟨t101,A30,H⟩:=H
 replace H:(if t101<0 then (some true) else ((laws_toClaimS.f k l1).bind fun t102=>((spec_NeedlessClaims.f k a0 t102).bind fun t105=>((laws_toClaimS.f k l1).bind fun t108=>((impl_NeedlessClaims.f k a0 t108).bind fun t111=>((laws_eqIntS.f k t111 t105).bind fun t114=>(if t114=true then ((laws_toClaimS.f k l1).bind fun t115=>((laws_eqClaimS.f k t108 t115).bind fun t118=>(if t118=true then ((laws_markClaimS.f k t108 1).bind fun t119=>(if t119<0 then (laws_FnExactNeedlessClaims.j0 k a0 l1 t105 t111 true) else ((laws_eqIntS.f k t111 t105).bind fun t120=>(laws_FnExactNeedlessClaims.j0 k a0 l1 t105 t111 (!t120))))) else (some false)))) else (some false))))))))=some r:=H
 have A3:=mA A30
 clear A30
 by_cases c4:t101<0
 ·rw [if_pos c4] at H
  have c4b0:decide (t101<0)=true:=decide_eq_true c4
  clear c4
  obtain rfl:=Option.some.inj H
  go_enter Try.func5,Try.ntmps5
  go_wp2_with (first|((with_reducible refine gate_callee (f:=6) rfl ?_);refine goesL_ (some 15) rfl rfl Try.func6 (by kernel_rfl) rfl #[.slice A1 l1.length c1,.int .i64 1048576] rfl (by (try simp only [mT,mC,mN]);first|done|rfl|(simp only [lD,lT];rfl)) ?_;(with_reducible refine (laws_szClaimS.calls k _ _ l1 1048576 t101 _ ?side1 ?side2 A3.out).mono ?_);(case side1=>repeat first|exact HR1.out|(with_reducible refine cA ?_ _)|(with_reducible refine cN ?_ _)|(with_reducible refine cD ?_));(case side2=>exact HC1.out);rintro e w5 ⟨rfl,hb⟩;refine ⟨_,rfl,?_⟩;have n0_:=mA (bT (by repeat first|(with_reducible first|exact HB.out|apply bA|apply bN|apply bD)|exact HB.out) hb);clear HB;have HB:=n0_;clear n0_;(try clear hb);(try clear hb2);(try clear hk);(try clear hi)))
  go_ret
  exact ⟨by first|rfl|(simp [errW_none,errW_some]<;>rfl)|(simp [*, errW_none,errW_some]<;>rfl),by repeat (first|(with_reducible first|exact HB.out|apply bA|apply bN|apply bD)|exact HB.out)⟩
 ·rw [if_neg c4] at H
  have c4b0:decide (t101<0)=false:=decide_eq_false c4
  clear c4
  replace H:=Option.bind_eq_some_iff.mp H
  obtain ⟨t102,A60,H⟩:=H
  replace H:((spec_NeedlessClaims.f k a0 t102).bind fun t105=>((laws_toClaimS.f k l1).bind fun t108=>((impl_NeedlessClaims.f k a0 t108).bind fun t111=>((laws_eqIntS.f k t111 t105).bind fun t114=>(if t114=true then ((laws_toClaimS.f k l1).bind fun t115=>((laws_eqClaimS.f k t108 t115).bind fun t118=>(if t118=true then ((laws_markClaimS.f k t108 1).bind fun t119=>(if t119<0 then (laws_FnExactNeedlessClaims.j0 k a0 l1 t105 t111 true) else ((laws_eqIntS.f k t111 t105).bind fun t120=>(laws_FnExactNeedlessClaims.j0 k a0 l1 t105 t111 (!t120))))) else (some false)))) else (some false))))))=some r:=H
  have A6:=mA A60
  clear A60
  replace H:=Option.bind_eq_some_iff.mp H
  obtain ⟨t105,A70,H⟩:=H
  replace H:((laws_toClaimS.f k l1).bind fun t108=>((impl_NeedlessClaims.f k a0 t108).bind fun t111=>((laws_eqIntS.f k t111 t105).bind fun t114=>(if t114=true then ((laws_toClaimS.f k l1).bind fun t115=>((laws_eqClaimS.f k t108 t115).bind fun t118=>(if t118=true then ((laws_markClaimS.f k t108 1).bind fun t119=>(if t119<0 then (laws_FnExactNeedlessClaims.j0 k a0 l1 t105 t111 true) else ((laws_eqIntS.f k t111 t105).bind fun t120=>(laws_FnExactNeedlessClaims.j0 k a0 l1 t105 t111 (!t120))))) else (some false)))) else (some false)))))=some r:=H
  have A7:=mA A70
  clear A70
  replace H:=Option.bind_eq_some_iff.mp H
  obtain ⟨t108,A80,H⟩:=H
  replace H:((impl_NeedlessClaims.f k a0 t108).bind fun t111=>((laws_eqIntS.f k t111 t105).bind fun t114=>(if t114=true then ((laws_toClaimS.f k l1).bind fun t115=>((laws_eqClaimS.f k t108 t115).bind fun t118=>(if t118=true then ((laws_markClaimS.f k t108 1).bind fun t119=>(if t119<0 then (laws_FnExactNeedlessClaims.j0 k a0 l1 t105 t111 true) else ((laws_eqIntS.f k t111 t105).bind fun t120=>(laws_FnExactNeedlessClaims.j0 k a0 l1 t105 t111 (!t120))))) else (some false)))) else (some false))))=some r:=H
  have A8:=mA A80
  clear A80
  replace H:=Option.bind_eq_some_iff.mp H
  obtain ⟨t111,A90,H⟩:=H
  replace H:((laws_eqIntS.f k t111 t105).bind fun t114=>(if t114=true then ((laws_toClaimS.f k l1).bind fun t115=>((laws_eqClaimS.f k t108 t115).bind fun t118=>(if t118=true then ((laws_markClaimS.f k t108 1).bind fun t119=>(if t119<0 then (laws_FnExactNeedlessClaims.j0 k a0 l1 t105 t111 true) else ((laws_eqIntS.f k t111 t105).bind fun t120=>(laws_FnExactNeedlessClaims.j0 k a0 l1 t105 t111 (!t120))))) else (some false)))) else (some false)))=some r:=H
  have A9:=mA A90
  clear A90
  replace H:=Option.bind_eq_some_iff.mp H
  obtain ⟨t114,A100,H⟩:=H
  replace H:(if t114=true then ((laws_toClaimS.f k l1).bind fun t115=>((laws_eqClaimS.f k t108 t115).bind fun t118=>(if t118=true then ((laws_markClaimS.f k t108 1).bind fun t119=>(if t119<0 then (laws_FnExactNeedlessClaims.j0 k a0 l1 t105 t111 true) else ((laws_eqIntS.f k t111 t105).bind fun t120=>(laws_FnExactNeedlessClaims.j0 k a0 l1 t105 t111 (!t120))))) else (some false)))) else (some false))=some r:=H
  have A10:=mA A100
  clear A100
  by_cases c11:t114=true
  ·subst c11
   have H1:((laws_toClaimS.f k l1).bind fun t115=>((laws_eqClaimS.f k t108 t115).bind fun t118=>(if t118=true then ((laws_markClaimS.f k t108 1).bind fun t119=>(if t119<0 then (laws_FnExactNeedlessClaims.j0 k a0 l1 t105 t111 true) else ((laws_eqIntS.f k t111 t105).bind fun t120=>(laws_FnExactNeedlessClaims.j0 k a0 l1 t105 t111 (!t120))))) else (some false))))=some r:=by rw [if_pos rfl] at H;exact H
   clear H
   have H:=H1
   clear H1
   replace H:=Option.bind_eq_some_iff.mp H
   obtain ⟨t115,A120,H⟩:=H
   replace H:((laws_eqClaimS.f k t108 t115).bind fun t118=>(if t118=true then ((laws_markClaimS.f k t108 1).bind fun t119=>(if t119<0 then (laws_FnExactNeedlessClaims.j0 k a0 l1 t105 t111 true) else ((laws_eqIntS.f k t111 t105).bind fun t120=>(laws_FnExactNeedlessClaims.j0 k a0 l1 t105 t111 (!t120))))) else (some false)))=some r:=H
   have A12:=mA A120
   clear A120
   replace H:=Option.bind_eq_some_iff.mp H
   obtain ⟨t118,A130,H⟩:=H
   replace H:(if t118=true then ((laws_markClaimS.f k t108 1).bind fun t119=>(if t119<0 then (laws_FnExactNeedlessClaims.j0 k a0 l1 t105 t111 true) else ((laws_eqIntS.f k t111 t105).bind fun t120=>(laws_FnExactNeedlessClaims.j0 k a0 l1 t105 t111 (!t120))))) else (some false))=some r:=H
   have A13:=mA A130
   clear A130
   by_cases c14:t118=true
   ·subst c14
    have H1:((laws_markClaimS.f k t108 1).bind fun t119=>(if t119<0 then (laws_FnExactNeedlessClaims.j0 k a0 l1 t105 t111 true) else ((laws_eqIntS.f k t111 t105).bind fun t120=>(laws_FnExactNeedlessClaims.j0 k a0 l1 t105 t111 (!t120)))))=some r:=by rw [if_pos rfl] at H;exact H
    clear H
    have H:=H1
    clear H1
    replace H:=Option.bind_eq_some_iff.mp H
    obtain ⟨t119,A150,H⟩:=H
    replace H:(if t119<0 then (laws_FnExactNeedlessClaims.j0 k a0 l1 t105 t111 true) else ((laws_eqIntS.f k t111 t105).bind fun t120=>(laws_FnExactNeedlessClaims.j0 k a0 l1 t105 t111 (!t120))))=some r:=H
    have A15:=mA A150
    clear A150
    have HC16:=mA H
    clear H
    go_enter Try.func5,Try.ntmps5
    go_upto_region 14 with (first|((with_reducible refine gate_callee (f:=6) rfl ?_);refine goesL_ (some 15) rfl rfl Try.func6 (by kernel_rfl) rfl #[.slice A1 l1.length c1,.int .i64 1048576] rfl (by (try simp only [mT,mC,mN]);first|done|rfl|(simp only [lD,lT];rfl)) ?_;(with_reducible refine (laws_szClaimS.calls k _ _ l1 1048576 t101 _ ?side1 ?side2 A3.out).mono ?_);(case side1=>repeat first|exact HR1.out|(with_reducible refine cA ?_ _)|(with_reducible refine cN ?_ _)|(with_reducible refine cD ?_));(case side2=>exact HC1.out);rintro e w17 ⟨rfl,hb⟩;refine ⟨_,rfl,?_⟩;have n0_:=mA (bT (by repeat first|(with_reducible first|exact HB.out|apply bA|apply bN|apply bD)|exact HB.out) hb);clear HB;have HB:=n0_;clear n0_;(try clear hb);(try clear hb2);(try clear hk);(try clear hi))|((with_reducible refine gate_callee (f:=8) rfl ?_);refine goesL_ (some 20) rfl rfl Try.func8 (by kernel_rfl) rfl #[.slice A1 l1.length c1] rfl (by (try simp only [mT,mC,mN]);first|done|rfl|(simp only [lD,lT];rfl)) ?_;(with_reducible refine (laws_toClaimS.calls k _ _ l1 t102 _ ?side1 ?side2 A6.out).mono ?_);(case side1=>repeat first|exact (Kd.C_below HR1.out HB.out)|(with_reducible refine cA ?_ _)|(with_reducible refine cN ?_ _)|(with_reducible refine cD ?_));(case side2=>exact HC1.out);rintro e w18 ⟨v103,rfl,ho0,hb⟩;refine ⟨_,rfl,?_⟩;have n0_:=mA (Kd.S_lower ho0 (bZ (by repeat first|(with_reducible first|exact HB.out|apply bA|apply bN|apply bD)|exact HB.out)));have n1_:=mA (bT (by repeat first|(with_reducible first|exact HB.out|apply bA|apply bN|apply bD)|exact HB.out) hb);clear HB;have HO104:=n0_;have HB:=n1_;clear n0_ n1_;(try clear hb);(try clear hb2);(try clear hk);(try clear hi);(try clear ho0);obtain ⟨Ao19,co19,eo19⟩:=Kd.S_slice HO104.out;subst eo19)|((with_reducible refine gate_callee (f:=18) rfl ?_);refine goesL_ (some 21) rfl rfl Try.func18 (by kernel_rfl) rfl #[.int .i64 a0,.slice Ao19 t102.length co19] rfl (by (try simp only [mT,mC,mN]);first|done|rfl|(simp only [lD,lT];rfl)) ?_;(with_reducible refine (spec_NeedlessClaims.calls k a0 _ _ t102 t105 _ ?side1 ?side2 A7.out).mono ?_);(case side1=>repeat first|exact (Kd.S_reads' HO104.out).2.2|(with_reducible refine cA ?_ _)|(with_reducible refine cN ?_ _)|(with_reducible refine cD ?_));(case side2=>exact (Kd.S_reads' HO104.out).2.1);rintro e w20 ⟨v106,rfl,ho0,hb⟩;refine ⟨_,rfl,?_⟩;have n0_:=mA (Kd.S_below (by (with_reducible repeat first|apply Kd.S_alloc|apply Kd.S_drewN|apply Kd.S_drew);exact HO104.out) hb);have n1_:=mA (rW ho0 (bZ (by repeat first|(with_reducible first|exact HB.out|apply bA|apply bN|apply bD)|exact HB.out)));have n2_:=mA (bT (by repeat first|(with_reducible first|exact HB.out|apply bA|apply bN|apply bD)|exact HB.out) hb);clear HO104 HB;have HO104:=n0_;have HO107:=n1_;have HB:=n2_;clear n0_ n1_ n2_;(try clear hb);(try clear hb2);(try clear hk);(try clear hi);(try clear ho0))|((with_reducible refine gate_callee (f:=8) rfl ?_);refine goesL_ (some 23) rfl rfl Try.func8 (by kernel_rfl) rfl #[.slice A1 l1.length c1] rfl (by (try simp only [mT,mC,mN]);first|done|rfl|(simp only [lD,lT];rfl)) ?_;(with_reducible refine (laws_toClaimS.calls k _ _ l1 t108 _ ?side1 ?side2 A8.out).mono ?_);(case side1=>repeat first|exact (Kd.C_below HR1.out HB.out)|(with_reducible refine cA ?_ _)|(with_reducible refine cN ?_ _)|(with_reducible refine cD ?_));(case side2=>exact HC1.out);rintro e w21 ⟨v109,rfl,ho0,hb⟩;refine ⟨_,rfl,?_⟩;have n0_:=mA (Kd.S_elder' (by (with_reducible repeat first|apply Kd.S_alloc|apply Kd.S_drewN|apply Kd.S_drew);exact HO104.out) (Kd.S_base ho0) hb);have n1_:=mA (rB (by (with_reducible repeat first|apply rA|apply rN|apply rD);exact HO107.out) hb);have n2_:=mA (Kd.S_lower (Kd.S_new' ho0 (Kd.S_lt (by (with_reducible repeat first|apply Kd.S_alloc|apply Kd.S_drewN|apply Kd.S_drew);exact HO104.out))) (bZ (by repeat first|(with_reducible first|exact HB.out|apply bA|apply bN|apply bD)|exact HB.out)));have n3_:=mA (bT (by repeat first|(with_reducible first|exact HB.out|apply bA|apply bN|apply bD)|exact HB.out) hb);clear HO104 HO107 HB;have HO104:=n0_;have HO107:=n1_;have HO110:=n2_;have HB:=n3_;clear n0_ n1_ n2_ n3_;(try clear hb);(try clear hb2);(try clear hk);(try clear hi);(try clear ho0);obtain ⟨Ao22,co22,eo22⟩:=Kd.S_slice HO110.out;subst eo22)|((with_reducible refine gate_callee (f:=19) rfl ?_);refine goesL_ (some 26) rfl rfl Try.func19 (by kernel_rfl) rfl #[.int .i64 a0,.slice Ao22 t108.length co22] rfl (by (try simp only [mT,mC,mN]);first|done|rfl|(simp only [lD,lT];rfl)) ?_;(with_reducible refine (impl_NeedlessClaims.calls k a0 _ _ t108 t111 _ ?side1 ?side2 A9.out).mono ?_);(case side1=>repeat first|exact (Kd.S_reads' HO110.out).2.2|(with_reducible refine cA ?_ _)|(with_reducible refine cN ?_ _)|(with_reducible refine cD ?_));(case side2=>exact (Kd.S_reads' HO110.out).2.1);rintro e w23 ⟨v112,rfl,ho0,hb⟩;refine ⟨_,rfl,?_⟩;have n0_:=mA (Kd.S_below (by (with_reducible repeat first|apply Kd.S_alloc|apply Kd.S_drewN|apply Kd.S_drew);exact HO104.out) hb);have n1_:=mA (rE (by (with_reducible repeat first|apply rA|apply rN|apply rD);exact HO107.out) (Kd.R_base ho0) hb);have n2_:=mA (Kd.S_below (by (with_reducible repeat first|apply Kd.S_alloc|apply Kd.S_drewN|apply Kd.S_drew);exact HO110.out) hb);have n3_:=mA (rW (rQ ho0 (rL (by (with_reducible repeat first|apply rA|apply rN|apply rD);exact HO107.out))) (bZ (by repeat first|(with_reducible first|exact HB.out|apply bA|apply bN|apply bD)|exact HB.out)));have n4_:=mA (bT (by repeat first|(with_reducible first|exact HB.out|apply bA|apply bN|apply bD)|exact HB.out) hb);clear HO104 HO107 HO110 HB;have HO104:=n0_;have HO107:=n1_;have HO110:=n2_;have HO113:=n3_;have HB:=n4_;clear n0_ n1_ n2_ n3_ n4_;(try clear hb);(try clear hb2);(try clear hk);(try clear hi);(try clear ho0);obtain ⟨Ao24,co24,eo24⟩:=Kd.R_slice HO113.out;subst eo24;obtain ⟨Ao25,co25,eo25⟩:=Kd.R_slice HO107.out;subst eo25)|((with_reducible refine gate_callee (f:=15) rfl ?_);refine goesL_ (some 29) rfl rfl Try.func15 (by kernel_rfl) rfl #[.slice Ao24 t111.length co24,.slice Ao25 t105.length co25] rfl (by (try simp only [mT,mC,mN]);first|done|rfl|(simp only [lD,lT];rfl)) ?_;(with_reducible refine (laws_eqIntS.calls k _ _ t111 _ _ t105 true _ ?side1 ?side2 ?side3 ?side4 A10.out).mono ?_);(case side1=>repeat first|exact (rR HO113.out).2.2|(with_reducible refine cA ?_ _)|(with_reducible refine cN ?_ _)|(with_reducible refine cD ?_));(case side2=>exact (rR HO113.out).2.1);(case side3=>repeat first|exact (rR HO107.out).2.2|(with_reducible refine cA ?_ _)|(with_reducible refine cN ?_ _)|(with_reducible refine cD ?_));(case side4=>exact (rR HO107.out).2.1);rintro e w' ⟨rfl,⟨nd,rfl⟩⟩;refine ⟨_,rfl,?_⟩)|((with_reducible refine gate_callee (f:=8) rfl ?_);refine goesL_ (some 33) rfl rfl Try.func8 (by kernel_rfl) rfl #[.slice A1 l1.length c1] rfl (by (try simp only [mT,mC,mN]);first|done|rfl|(simp only [lD,lT];rfl)) ?_;(with_reducible refine (laws_toClaimS.calls k _ _ l1 t115 _ ?side1 ?side2 A12.out).mono ?_);(case side1=>repeat (first|exact (Kd.C_below HR1.out (by repeat first|(with_reducible first|exact HB.out|apply bA|apply bN|apply bD)|exact HB.out))|(with_reducible refine cA ?_ _)|(with_reducible refine cN ?_ _)|(with_reducible refine cD ?_)));(case side2=>exact HC1.out);rintro e w26 ⟨v116,rfl,ho0,hb⟩;refine ⟨_,rfl,?_⟩;have n0_:=mA (Kd.S_elder' (by (with_reducible repeat first|apply Kd.S_alloc|apply Kd.S_drewN|apply Kd.S_drew);exact HO104.out) (Kd.S_base ho0) hb);have n1_:=mA (rB (by (with_reducible repeat first|apply rA|apply rN|apply rD);exact HO107.out) hb);have n2_:=mA (Kd.S_elder' (by (with_reducible repeat first|apply Kd.S_alloc|apply Kd.S_drewN|apply Kd.S_drew);exact HO110.out) (Kd.S_base ho0) hb);have n3_:=mA (rB (by (with_reducible repeat first|apply rA|apply rN|apply rD);exact HO113.out) hb);have n4_:=mA (Kd.S_lower (Kd.S_new' (Kd.S_new' ho0 (Kd.S_lt (by (with_reducible repeat first|apply Kd.S_alloc|apply Kd.S_drewN|apply Kd.S_drew);exact HO104.out))) (Kd.S_lt (by (with_reducible repeat first|apply Kd.S_alloc|apply Kd.S_drewN|apply Kd.S_drew);exact HO110.out))) (bZ (by repeat first|(with_reducible first|exact HB.out|apply bA|apply bN|apply bD)|exact HB.out)));have n5_:=mA (bT (by repeat first|(with_reducible first|exact HB.out|apply bA|apply bN|apply bD)|exact HB.out) hb);clear HO104 HO107 HO110 HO113 HB;have HO104:=n0_;have HO107:=n1_;have HO110:=n2_;have HO113:=n3_;have HO117:=n4_;have HB:=n5_;clear n0_ n1_ n2_ n3_ n4_ n5_;(try clear hb);(try clear hb2);(try clear hk);(try clear hi);(try clear ho0);obtain ⟨Ao27,co27,eo27⟩:=Kd.S_slice HO117.out;subst eo27)|((with_reducible refine gate_callee (f:=10) rfl ?_);refine goesL_ (some 34) rfl rfl Try.func10 (by kernel_rfl) rfl #[.slice Ao22 t108.length co22,.slice Ao27 t115.length co27] rfl (by (try simp only [mT,mC,mN]);first|done|rfl|(simp only [lD,lT];rfl)) ?_;(with_reducible refine (laws_eqClaimS.calls k _ _ t108 _ _ t115 true _ ?side1 ?side2 ?side3 ?side4 A13.out).mono ?_);(case side1=>repeat first|exact (Kd.S_reads' HO110.out).2.2|(with_reducible refine cA ?_ _)|(with_reducible refine cN ?_ _)|(with_reducible refine cD ?_));(case side2=>exact (Kd.S_reads' HO110.out).2.1);(case side3=>repeat first|exact (Kd.S_reads' HO117.out).2.2|(with_reducible refine cA ?_ _)|(with_reducible refine cN ?_ _)|(with_reducible refine cD ?_));(case side4=>exact (Kd.S_reads' HO117.out).2.1);rintro e w28 ⟨rfl,hb⟩;refine ⟨_,rfl,?_⟩;have n0_:=mA (Kd.S_below (by (with_reducible repeat first|apply Kd.S_alloc|apply Kd.S_drewN|apply Kd.S_drew);exact HO104.out) hb);have n1_:=mA (rB (by (with_reducible repeat first|apply rA|apply rN|apply rD);exact HO107.out) hb);have n2_:=mA (Kd.S_below (by (with_reducible repeat first|apply Kd.S_alloc|apply Kd.S_drewN|apply Kd.S_drew);exact HO110.out) hb);have n3_:=mA (rB (by (with_reducible repeat first|apply rA|apply rN|apply rD);exact HO113.out) hb);have n4_:=mA (Kd.S_below (by (with_reducible repeat first|apply Kd.S_alloc|apply Kd.S_drewN|apply Kd.S_drew);exact HO117.out) hb);have n5_:=mA (bT (by repeat first|(with_reducible first|exact HB.out|apply bA|apply bN|apply bD)|exact HB.out) hb);clear HO104 HO107 HO110 HO113 HO117 HB;have HO104:=n0_;have HO107:=n1_;have HO110:=n2_;have HO113:=n3_;have HO117:=n4_;have HB:=n5_;clear n0_ n1_ n2_ n3_ n4_ n5_;(try clear hb);(try clear hb2);(try clear hk);(try clear hi))|((with_reducible refine gate_callee (f:=11) rfl ?_);refine goesL_ (some 38) rfl rfl Try.func11 (by kernel_rfl) rfl #[.slice Ao22 t108.length co22,.int .i64 1] rfl (by (try simp only [mT,mC,mN]);first|done|rfl|(simp only [lD,lT];rfl)) ?_;have hY_:=laws_markClaimS.reads k _ _ t108 1 t119 w _ HB.out HO110.out A15.out;refine hY_.mono ?_;clear hY_;rintro e w29 ⟨rfl,hb,hk⟩;refine ⟨_,rfl,?_⟩;have n1_:=mA (laws_markClaimS.row HO107.out hk (by decide));have n3_:=mA (laws_markClaimS.row HO113.out hk (by decide));have n5_:=mA (hb);clear HO104 HO107 HO110 HO113 HO117 HB;have HO107:=n1_;have HO113:=n3_;have HB:=n5_;clear n1_ n3_ n5_ hb hk))
    (try simp only [Act.put,sA,sZ,sS])
    go_cut [46] (fun v46 wc=>∃ (kq:Nat) (x46_15:Bool),v46 = .bool x46_15∧Aside0 (laws_FnExactNeedlessClaims.j0 kq a0 l1 t105 t111 x46_15=some r)∧Aside0 (kq≤k)∧Aside0 (Kd.R (Kd.int .i64) 3 wc w.heap.size (fun k_=>some k_≠((.slice Ao24 t111.length co24):Value).ownBlock) (.slice Ao25 t105.length co25) t105)∧Aside0 (Kd.R (Kd.int .i64) 3 wc w.heap.size (fun k_=>some k_≠((.slice Ao25 t105.length co25):Value).ownBlock) (.slice Ao24 t111.length co24) t111)∧Aside0 (Below w.heap.size w wc))
    case first =>
     have H:=HC16.out
     clear HC16
     by_cases c30:t119<0
     ·rw [if_pos c30] at H
      have c30b0:decide (t119<0)=true:=decide_eq_true c30
      clear c30
      (first|rw [c30b0]|(simp only [i64_w,i32_w];rw [c30b0])|skip)
      have H':=mA H
      clear H
      go_wp2
      go_meet
      case rel=>exact ⟨_,(true),(by first|rfl|(simp;done)|(simp [*];done)),H',⟨by first|omega|exact Nat.le_refl _⟩,⟨by (with_reducible repeat first|apply rA|apply rN|apply rD);exact rM HO107.out (fun _ hk=>hk.2)⟩,⟨by (with_reducible repeat first|apply rA|apply rN|apply rD);exact rM HO113.out (fun _ hk=>hk.2)⟩,⟨by repeat (first|(with_reducible first|exact HB.out|apply bA|apply bN|apply bD)|exact HB.out)⟩⟩
     ·rw [if_neg c30] at H
      have c30b0:decide (t119<0)=false:=decide_eq_false c30
      clear c30
      (first|rw [c30b0]|(simp only [i64_w,i32_w];rw [c30b0])|skip)
      replace H:=Option.bind_eq_some_iff.mp H
      obtain ⟨t120,A310,H⟩:=H
      replace H:(laws_FnExactNeedlessClaims.j0 k a0 l1 t105 t111 (!t120))=some r:=H
      have A31:=mA A310
      clear A310
      have H':=mA H
      clear H
      go_wp2_with (first|(go_at_call 15;(with_reducible refine (laws_eqIntS.calls k _ _ t111 _ _ t105 t120 _ ?side1 ?side2 ?side3 ?side4 A31.out).mono ?_);(case side1=>repeat first|exact (rR HO113.out).2.2|(with_reducible refine cA ?_ _)|(with_reducible refine cN ?_ _)|(with_reducible refine cD ?_));(case side2=>exact (rR HO113.out).2.1);(case side3=>repeat first|exact (rR HO107.out).2.2|(with_reducible refine cA ?_ _)|(with_reducible refine cN ?_ _)|(with_reducible refine cD ?_));(case side4=>exact (rR HO107.out).2.1);rintro e w' ⟨rfl,⟨nd,rfl⟩⟩))
      go_meet
      case rel=>exact ⟨_,(!t120),(by first|rfl|(simp;done)|(simp [*];done)),H',⟨by first|omega|exact Nat.le_refl _⟩,⟨by (with_reducible repeat first|apply rA|apply rN|apply rD);exact rM HO107.out (fun _ hk=>hk.2)⟩,⟨by (with_reducible repeat first|apply rA|apply rN|apply rD);exact rM HO113.out (fun _ hk=>hk.2)⟩,⟨by repeat (first|(with_reducible first|exact HB.out|apply bA|apply bN|apply bD)|exact HB.out)⟩⟩
    case rest =>
     clear HC16
     try clear c1
     try clear p2
     try clear c3
     try clear c4
     try clear c4b0
     try clear c5
     try clear c6
     try clear c8
     try clear c10
     try clear c11
     try clear c14
     try clear c15
     try clear c18
     try clear c19
     try clear c30
     try clear c30b0
     obtain ⟨kq,x46_15,rfl,HA,HJ15,HO_6,HO_8,HB⟩:=hcut
     cases kq with
     | zero=>exact absurd HA.out (by simp [laws_FnExactNeedlessClaims.j0])
     | succ kj15 =>
      have H:=HA.out
      clear HA
      simp only [laws_FnExactNeedlessClaims.j0] at H
      by_cases c32:x46_15=true
      ·subst c32
       have H1:(some false)=some r:=by rw [if_pos rfl] at H;exact H
       clear H
       have H:=H1
       clear H1
       exact absurd ((Option.some.inj H).trans hr_.out) (by decide)
      ·replace c32:=Bool.eq_false_iff.mpr c32
       subst c32
       have H1:((laws_markIntS.f kj15 t111 1).bind fun bt121=>((laws_heldIntS.f kj15 bt121.2 1).bind fun t123=>(if t123<0 then (some false) else (if t123=bt121.1 then ((laws_toClaimS.f kj15 l1).bind fun t124=>((impl_NeedlessClaims.f kj15 a0 t124).bind fun t127=>((laws_eqIntS.f kj15 t127 t105).bind fun t130=>(if t130=true then ((laws_heldIntS.f kj15 bt121.2 1).bind fun t131=>(if t131<0 then (some false) else (if t131=bt121.1 then (some true) else (some false)))) else (some false))))) else (some false)))))=some r:=by rw [if_neg (show ¬ (false=true) by decide)] at H;exact H
       clear H
       have H:=H1
       clear H1
       replace H:=Option.bind_eq_some_iff.mp H
       obtain ⟨⟨t121,t122⟩,A330,H⟩:=H
       replace H:((laws_heldIntS.f kj15 t122 1).bind fun t123=>(if t123<0 then (some false) else (if t123=t121 then ((laws_toClaimS.f kj15 l1).bind fun t124=>((impl_NeedlessClaims.f kj15 a0 t124).bind fun t127=>((laws_eqIntS.f kj15 t127 t105).bind fun t130=>(if t130=true then ((laws_heldIntS.f kj15 t122 1).bind fun t131=>(if t131<0 then (some false) else (if t131=t121 then (some true) else (some false)))) else (some false))))) else (some false))))=some r:=H
       have A33:=mA A330
       clear A330
       replace H:=Option.bind_eq_some_iff.mp H
       obtain ⟨t123,A340,H⟩:=H
       replace H:(if t123<0 then (some false) else (if t123=t121 then ((laws_toClaimS.f kj15 l1).bind fun t124=>((impl_NeedlessClaims.f kj15 a0 t124).bind fun t127=>((laws_eqIntS.f kj15 t127 t105).bind fun t130=>(if t130=true then ((laws_heldIntS.f kj15 t122 1).bind fun t131=>(if t131<0 then (some false) else (if t131=t121 then (some true) else (some false)))) else (some false))))) else (some false)))=some r:=H
       have A34:=mA A340
       clear A340
       by_cases c35:t123<0
       ·rw [if_pos c35] at H
        have c35b0:decide (t123<0)=true:=decide_eq_true c35
        clear c35
        exact absurd ((Option.some.inj H).trans hr_.out) (by decide)
       ·rw [if_neg c35] at H
        have c35b0:decide (t123<0)=false:=decide_eq_false c35
        clear c35
        by_cases c36:t123=t121
        ·rw [if_pos c36] at H
         have c36b0:(t123==t121)=true:=beq_iff_eq.mpr c36
         have c36b1:(t123 != t121)=false:=bne_eq_false_iff_eq.mpr c36
         clear c36
         replace H:=Option.bind_eq_some_iff.mp H
         obtain ⟨t124,A370,H⟩:=H
         replace H:((impl_NeedlessClaims.f kj15 a0 t124).bind fun t127=>((laws_eqIntS.f kj15 t127 t105).bind fun t130=>(if t130=true then ((laws_heldIntS.f kj15 t122 1).bind fun t131=>(if t131<0 then (some false) else (if t131=t121 then (some true) else (some false)))) else (some false))))=some r:=H
         have A37:=mA A370
         clear A370
         replace H:=Option.bind_eq_some_iff.mp H
         obtain ⟨t127,A380,H⟩:=H
         replace H:((laws_eqIntS.f kj15 t127 t105).bind fun t130=>(if t130=true then ((laws_heldIntS.f kj15 t122 1).bind fun t131=>(if t131<0 then (some false) else (if t131=t121 then (some true) else (some false)))) else (some false)))=some r:=H
         have A38:=mA A380
         clear A380
         replace H:=Option.bind_eq_some_iff.mp H
         obtain ⟨t130,A390,H⟩:=H
         replace H:(if t130=true then ((laws_heldIntS.f kj15 t122 1).bind fun t131=>(if t131<0 then (some false) else (if t131=t121 then (some true) else (some false)))) else (some false))=some r:=H
         have A39:=mA A390
         clear A390
         by_cases c40:t130=true
         ·subst c40
          have H1:((laws_heldIntS.f kj15 t122 1).bind fun t131=>(if t131<0 then (some false) else (if t131=t121 then (some true) else (some false))))=some r:=by rw [if_pos rfl] at H;exact H
          clear H
          have H:=H1
          clear H1
          replace H:=Option.bind_eq_some_iff.mp H
          obtain ⟨t131,A410,H⟩:=H
          replace H:(if t131<0 then (some false) else (if t131=t121 then (some true) else (some false)))=some r:=H
          have A41:=mA A410
          clear A410
          by_cases c42:t131<0
          ·rw [if_pos c42] at H
           have c42b0:decide (t131<0)=true:=decide_eq_true c42
           clear c42
           exact absurd ((Option.some.inj H).trans hr_.out) (by decide)
          ·rw [if_neg c42] at H
           have c42b0:decide (t131<0)=false:=decide_eq_false c42
           clear c42
           by_cases c43:t131=t121
           ·rw [if_pos c43] at H
            have c43b0:(t131==t121)=true:=beq_iff_eq.mpr c43
            have c43b1:(t131 != t121)=false:=bne_eq_false_iff_eq.mpr c43
            clear c43
            obtain rfl:=Option.some.inj H
            go_wp2_with (first|((with_reducible refine gate_callee (f:=16) rfl ?_);refine goesL_ (some 49) rfl rfl Try.func16 (by kernel_rfl) rfl #[.slice Ao24 t111.length co24,.int .i64 1] rfl (by (try simp only [mT,mC,mN]);first|done|rfl|(simp only [lD,lT];rfl)) ?_;(with_reducible refine (laws_markIntS.calls kj15 (fun k_=>some k_=(.slice Ao24 t111.length co24:Value).ownBlock) (.slice Ao24 t111.length co24) t111 1 t121 t122 w _ ?side1 ?side2 A33.out).mono ?_);(case side1=>repeat first|(with_reducible first|exact HB.out|apply bA|apply bN|apply bD)|exact HB.out);(case side2=>exact Kd.R_tight rfl HO_8.out);rintro e w44 ⟨rfl,hy0,hb,hkp⟩;refine ⟨_,rfl,?_⟩;have n0_:=mA (rM (ok':=fun k_=>some k_≠(.slice Ao24 t111.length co24:Value).ownBlock) (Kd.R_keptB (HO_6.out) hkp (fun k_ hk_ hs_=>(hk_) hs_)) (fun k_ hk_=>hk_.1));have n1_:=mA (Kd.R_reok rfl hy0 (fun k_ e_=>HO_8.out.1 k_ e_));have n2_:=mA (hb);clear HO_6 HO_8 HB;have HO_6:=n0_;have HO_8:=n1_;have HB:=n2_;clear n0_ n1_ n2_;(try clear hb);(try clear hkp);(try clear hy0))|((with_reducible refine gate_callee (f:=17) rfl ?_);refine goesL_ (some 52) rfl rfl Try.func17 (by kernel_rfl) rfl #[.slice Ao24 t122.length co24,.int .i64 1] rfl (by (try simp only [mT,mC,mN]);first|done|(rw [show t122.length=t111.length from (rR HO_8.out).1.symm]<;>rfl)|rfl|(simp only [lD,lT];rfl)) ?_;(with_reducible refine (laws_heldIntS.calls kj15 _ _ t122 1 t123 _ ?side1 ?side2 A34.out).mono ?_);(case side1=>repeat first|exact (rR HO_8.out).2.2|(with_reducible refine cA ?_ _)|(with_reducible refine cN ?_ _)|(with_reducible refine cD ?_));(case side2=>rw [show t122.length=t111.length from (rR HO_8.out).1.symm];exact (rR HO_8.out).2.1);rintro e w' ⟨rfl,⟨nd,rfl⟩⟩;refine ⟨_,rfl,?_⟩)|((with_reducible refine gate_callee (f:=8) rfl ?_);refine goesL_ (some 60) rfl rfl Try.func8 (by kernel_rfl) rfl #[.slice A1 l1.length c1] rfl (by (try simp only [mT,mC,mN]);first|done|rfl|(simp only [lD,lT];rfl)) ?_;(with_reducible refine (laws_toClaimS.calls kj15 _ _ l1 t124 _ ?side1 ?side2 A37.out).mono ?_);(case side1=>repeat (first|exact (Kd.C_below HR1.out (by repeat first|(with_reducible first|exact HB.out|apply bA|apply bN|apply bD)|exact HB.out))|(with_reducible refine cA ?_ _)|(with_reducible refine cN ?_ _)|(with_reducible refine cD ?_)));(case side2=>exact HC1.out);rintro e w45 ⟨v125,rfl,ho0,hb⟩;refine ⟨_,rfl,?_⟩;have n0_:=mA (rB (by (with_reducible repeat first|apply rA|apply rN|apply rD);exact HO_6.out) hb);have n1_:=mA (rB (by (with_reducible repeat first|apply rA|apply rN|apply rD);exact HO_8.out) hb);have n2_:=mA (Kd.S_lower ho0 (bZ (by repeat first|(with_reducible first|exact HB.out|apply bA|apply bN|apply bD)|exact HB.out)));have n3_:=mA (bT (by repeat first|(with_reducible first|exact HB.out|apply bA|apply bN|apply bD)|exact HB.out) hb);clear HO_6 HO_8 HB;have HO_6:=n0_;have HO_8:=n1_;have HO126:=n2_;have HB:=n3_;clear n0_ n1_ n2_ n3_;(try clear hb);(try clear hb2);(try clear hk);(try clear hi);(try clear ho0);obtain ⟨Ao46,co46,eo46⟩:=Kd.S_slice HO126.out;subst eo46)|((with_reducible refine gate_callee (f:=19) rfl ?_);refine goesL_ (some 61) rfl rfl Try.func19 (by kernel_rfl) rfl #[.int .i64 a0,.slice Ao46 t124.length co46] rfl (by (try simp only [mT,mC,mN]);first|done|rfl|(simp only [lD,lT];rfl)) ?_;(with_reducible refine (impl_NeedlessClaims.calls kj15 a0 _ _ t124 t127 _ ?side1 ?side2 A38.out).mono ?_);(case side1=>repeat first|exact (Kd.S_reads' HO126.out).2.2|(with_reducible refine cA ?_ _)|(with_reducible refine cN ?_ _)|(with_reducible refine cD ?_));(case side2=>exact (Kd.S_reads' HO126.out).2.1);rintro e w47 ⟨v128,rfl,ho0,hb⟩;refine ⟨_,rfl,?_⟩;have n0_:=mA (rE (by (with_reducible repeat first|apply rA|apply rN|apply rD);exact HO_6.out) (Kd.R_base ho0) hb);have n1_:=mA (rE (by (with_reducible repeat first|apply rA|apply rN|apply rD);exact HO_8.out) (Kd.R_base ho0) hb);have n2_:=mA (Kd.S_below (by (with_reducible repeat first|apply Kd.S_alloc|apply Kd.S_drewN|apply Kd.S_drew);exact HO126.out) hb);have n3_:=mA (rW (rQ (rQ ho0 (rL (by (with_reducible repeat first|apply rA|apply rN|apply rD);exact HO_6.out))) (rL (by (with_reducible repeat first|apply rA|apply rN|apply rD);exact HO_8.out))) (bZ (by repeat first|(with_reducible first|exact HB.out|apply bA|apply bN|apply bD)|exact HB.out)));have n4_:=mA (bT (by repeat first|(with_reducible first|exact HB.out|apply bA|apply bN|apply bD)|exact HB.out) hb);clear HO_6 HO_8 HO126 HB;have HO_6:=n0_;have HO_8:=n1_;have HO126:=n2_;have HO129:=n3_;have HB:=n4_;clear n0_ n1_ n2_ n3_ n4_;(try clear hb);(try clear hb2);(try clear hk);(try clear hi);(try clear ho0);obtain ⟨Ao48,co48,eo48⟩:=Kd.R_slice HO129.out;subst eo48)|((with_reducible refine gate_callee (f:=15) rfl ?_);refine goesL_ (some 64) rfl rfl Try.func15 (by kernel_rfl) rfl #[.slice Ao48 t127.length co48,.slice Ao25 t105.length co25] rfl (by (try simp only [mT,mC,mN]);first|done|rfl|(simp only [lD,lT];rfl)) ?_;(with_reducible refine (laws_eqIntS.calls kj15 _ _ t127 _ _ t105 true _ ?side1 ?side2 ?side3 ?side4 A39.out).mono ?_);(case side1=>repeat first|exact (rR HO129.out).2.2|(with_reducible refine cA ?_ _)|(with_reducible refine cN ?_ _)|(with_reducible refine cD ?_));(case side2=>exact (rR HO129.out).2.1);(case side3=>repeat first|exact (rR HO_6.out).2.2|(with_reducible refine cA ?_ _)|(with_reducible refine cN ?_ _)|(with_reducible refine cD ?_));(case side4=>exact (rR HO_6.out).2.1);rintro e w' ⟨rfl,⟨nd,rfl⟩⟩;refine ⟨_,rfl,?_⟩)|((with_reducible refine gate_callee (f:=17) rfl ?_);refine goesL_ (some 68) rfl rfl Try.func17 (by kernel_rfl) rfl #[.slice Ao24 t122.length co24,.int .i64 1] rfl (by (try simp only [mT,mC,mN]);first|done|(rw [show t122.length=t111.length from (rR HO_8.out).1.symm]<;>rfl)|rfl|(simp only [lD,lT];rfl)) ?_;(with_reducible refine (laws_heldIntS.calls kj15 _ _ t122 1 t131 _ ?side1 ?side2 A41.out).mono ?_);(case side1=>repeat first|exact (rR HO_8.out).2.2|(with_reducible refine cA ?_ _)|(with_reducible refine cN ?_ _)|(with_reducible refine cD ?_));(case side2=>rw [show t122.length=t111.length from (rR HO_8.out).1.symm];exact (rR HO_8.out).2.1);rintro e w' ⟨rfl,⟨nd,rfl⟩⟩;refine ⟨_,rfl,?_⟩))
            go_ret
            exact ⟨by first|rfl|(simp [errW_none,errW_some]<;>rfl)|(simp [*, errW_none,errW_some]<;>rfl),by repeat (first|(with_reducible first|exact HB.out|apply bA|apply bN|apply bD)|exact HB.out)⟩
           ·rw [if_neg c43] at H
            have c43b0:(t131==t121)=false:=beq_eq_false_iff_ne.mpr c43
            have c43b1:(t131 != t121)=true:=bne_iff_ne.mpr c43
            exact absurd ((Option.some.inj H).trans hr_.out) (by decide)
         ·replace c40:=Bool.eq_false_iff.mpr c40
          subst c40
          have H1:(some false)=some r:=by rw [if_neg (show ¬ (false=true) by decide)] at H;exact H
          clear H
          have H:=H1
          clear H1
          exact absurd ((Option.some.inj H).trans hr_.out) (by decide)
        ·rw [if_neg c36] at H
         have c36b0:(t123==t121)=false:=beq_eq_false_iff_ne.mpr c36
         have c36b1:(t123 != t121)=true:=bne_iff_ne.mpr c36
         exact absurd ((Option.some.inj H).trans hr_.out) (by decide)
   ·replace c14:=Bool.eq_false_iff.mpr c14
    subst c14
    have H1:(some false)=some r:=by rw [if_neg (show ¬ (false=true) by decide)] at H;exact H
    clear H
    have H:=H1
    clear H1
    exact absurd ((Option.some.inj H).trans hr_.out) (by decide)
  ·replace c11:=Bool.eq_false_iff.mpr c11
   subst c11
   have H1:(some false)=some r:=by rw [if_neg (show ¬ (false=true) by decide)] at H;exact H
   clear H
   have H:=H1
   clear H1
   exact absurd ((Option.some.inj H).trans hr_.out) (by decide)

/-- THE ONE PURE STATEMENT of laws_FnExactNeedlessClaims: this session's. -/
def laws_FnExactNeedlessClaims.Pure:Prop:=∀ (a0:Int) (l1:List (S38)),(Lit.int .i64 a0).wf=true→l1.length≤9223372036854775807→(∀ y∈l1,wf38 y)→(∀ y∈l1,y.f1.length≤9223372036854775807) → ∃ k,laws_FnExactNeedlessClaims.f k a0 l1=some true
theorem laws_FnExactNeedlessClaims.walk (P:laws_FnExactNeedlessClaims.Pure) (a0:Int) (A1:Option Addr) (c1:Nat) (l1:List (S38)) (w:World) (hw0:(Lit.int .i64 a0).wf=true) (hr1:Kd.C k38 w A1 l1.length l1) (hc1:l1.length≤c1) (hw1:(∀ y∈l1,wf38 y)) :
  Calls Try.prog 5 #[.int .i64 a0,.slice A1 l1.length c1] w fun e w'=>e = .returned (.bool true)∧Below w.heap.size w w':=by
 obtain ⟨k,h⟩:=P a0 l1 hw0 hr1.2.1 hw1 (fun y hy=>by obtain ⟨i_,hi_,rfl⟩:=List.mem_iff_getElem.1 hy;obtain ⟨_,_,_,_,_,_,_,hC_⟩:=at_T38 hr1 (i_:Int) (by omega) (by omega);have h_:=hC_.2.1;simpa [rd_T38,List.getD,hi_] using h_)
 refine (laws_FnExactNeedlessClaims.calls k a0 A1 c1 l1 true w hr1 hc1 ⟨rfl⟩ h).mono ?_
 rintro e w' ⟨rfl,hd⟩
 exact ⟨rfl,hd⟩
end Go.Proofs.Ytbhjeiphmnanoaa.X
/- Plain laws of terms, third text: what a valid row of marks says in a world, as a function of the row alone. -/
namespace Go.Proofs.Ytbhjeiphmnanoaa.L
open Go.RowKit Go.Proofs.Ytbhjeiphmnanoaa.X Go.Proofs.YtbhjeiphmnanoaaW.PrintWords Go.Proofs.YtbhjeiphmnanoaaW.PrintLast Go.Proofs.YtbhjeiphmnanoaaW.PrintMore
open Go.Proofs.YtbhjeiphmnanoaaW.PrintWords renaming Aside0.mk → mA, pw_below_drewN → bN, below_drew1 → bD, below_alloc → bA, below_size → bZ, below_step → bT, Kd.R_alloc → rA, Kd.R_drewN → rN, Kd.R_drew → rD, Kd.R_mono → rM, Kd.R_reads' → rR, Kd.R_lt → rL, Kd.R_below → rB, Kd.R_elder' → rE, Kd.R_lower → rW, Kd.R_new' → rQ, Kd.C_alloc → cA, Kd.C_drewN → cN, Kd.C_drew → cD
open List renaming setIfInBounds_toArray → sA, set_cons_zero → sZ, set_cons_succ → sS, length_take → lT, length_drop → lD, map_toArray → mT, map_cons → mC, map_nil → mN
theorem Tm.good_four {p:Int} (hp:p≤4) : ∀ a:Tm,a.good p→a.good 4
 | .tell i,h=>by have h':(i:Int)<p:=h;show (i:Int)<4;omega
 | .cnt n,h=>by have h':(n:Int)≤p+1:=h;show (n:Int)≤4+1;omega
 | .neg a,h=>good_four hp a h
 | .bin o a b,h=>⟨h.1,good_four hp a h.2.1,good_four hp b h.2.2⟩
open Classical in
/-- The tree of a row of marks. -/
noncomputable def tree (t:List M):Tm:=if h : ∃ a:Tm,a.good 4∧t=a.post then Classical.choose h else .tell 0
theorem tree_post {a:Tm} (h:a.good 4):(tree a.post).good 4∧a.post=(tree a.post).post:=by
 have h' : ∃ b:Tm,b.good 4∧a.post=b.post:=⟨a,h,rfl⟩
 unfold tree
 rw [dif_pos h']
 exact Classical.choose_spec h'
/-- Whether a row of marks holds in a world. -/
noncomputable def hv (t:List M) (w:Nat):Bool:=(tree t).ev w
theorem hv_post {a:Tm} (h:a.good 4) (hl:a.post.length≤500) {w:Nat} (hw:w<16):hv a.post w=a.ev w:=by
 obtain ⟨h1,h2⟩:=tree_post h
 have e1:=impl_holds_ev (by decide) hw h hl
 have e2:=impl_holds_ev (by decide) hw h1 (by rw [←h2];exact hl)
 rw [←h2] at e2
 exact Ev.uniq e2 e1
theorem tok_tree {p:Int} {t:List M} (h:tok p t=true) : ∃ a:Tm,a.good p∧t=a.post∧a.good 4∧t.length≤15:=by
 obtain ⟨a,h1,h2⟩:=parse h
 obtain ⟨_,h3,_,h4,_⟩:=tok_iff.1 h
 exact ⟨a,h1,h2,a.good_four h3 h1,h4⟩
theorem impl_holds_hv {p:Int} {t:List M} (h:tok p t=true) {w:Nat} (hw:w<16):Ev (fun k=>impl_holds.f k t (w:Int)) (hv t w):=by
 obtain ⟨a,_,rfl,h4,hl⟩:=tok_tree h
 rw [hv_post h4 (by omega) hw]
 exact impl_holds_ev (by decide) hw h4 (by omega)
theorem spec_holds_hv {p:Int} {t:List M} (h:tok p t=true) {w:Nat} (hw:w<16):Ev (fun k=>spec_l3Holds.f k t (w:Int)) (hv t w):=by
 obtain ⟨a,_,rfl,h4,hl⟩:=tok_tree h
 rw [hv_post h4 (by omega) hw]
 exact l3Holds_ev (by decide) hw a h4 (by omega)
/-- Whether a claim may be made in a world. -/
noncomputable def may (i:Int) (t:List M) (w:Nat):Bool:=hv t w==w.testBit i.toNat
/-- The worlds below n in which P holds, as bits. -/
def tabL (P:Nat→Bool):Nat→Nat
 | 0=>0
 | n+1=>tabL P n ||| (if P n=true then 2^n else 0)
theorem tabL_bit (P:Nat→Bool) : ∀ n w,(tabL P n).testBit w=(decide (w<n)&&P w)
 | 0,w=>by simp [tabL]
 | n+1,w=>by
  rw [tabL,Nat.testBit_or,tabL_bit P n w]
  by_cases e:w=n
  ·subst e
   by_cases h:P w=true
   ·rw [if_pos h,Nat.testBit_two_pow_self,h];simp
   ·rw [if_neg h,Nat.zero_testBit];simp at h;simp [h]
  ·have h1:(if P n=true then 2^n else 0).testBit w=false:=by
    by_cases h:P n=true
    ·rw [if_pos h,Nat.testBit_two_pow];simp;omega
    ·rw [if_neg h,Nat.zero_testBit]
   rw [h1,Bool.or_false]
   congr 1
   exact decide_eq_decide.mpr (by omega)
theorem lt_of_bits {x n:Nat} (h : ∀ w,n≤w→x.testBit w=false):x<2^n:=Nat.lt_pow_two_of_testBit x (fun w hw=>h w hw)
theorem tabL_lt (P:Nat→Bool) (n:Nat):tabL P n<2^n:=lt_of_bits (fun w hw=>by rw [tabL_bit];simp;omega)
theorem tabL_mono {P:Nat→Bool} {n:Nat} (hn:n≤16):tabL P n<65536:=by
 have:=tabL_lt P n
 have h:(2:Nat)^n≤2^16:=Nat.pow_le_pow_right (by decide) hn
 omega
theorem wrap_i64_small (n:Int) (h0:0≤n) (h1:n<2^32):IntKind.i64.wrap n=n:=by rw [IntKind.wrap_i64];omega
theorem or_nat {a b:Nat} (ha:a<2^32) (hb:b<2^32):Go.bits .or .i64 (a:Int) (b:Int)=((a ||| b:Nat):Int):=(bits_nat .i64 32 (by decide) wrap_i64_small a b ha hb).2
theorem and_nat {a b:Nat} (ha:a<2^32) (hb:b<2^32):Go.bits .and .i64 (a:Int) (b:Int)=((a &&& b:Nat):Int):=(bits_nat .i64 32 (by decide) wrap_i64_small a b ha hb).1
theorem shl_fin : ∀ i:Fin 31,shl .i64 1 ((i.val:Nat):Int)=((2^i.val:Nat):Int):=by decide +kernel
theorem shl_nat {i:Nat} (hi:i<31):shl .i64 1 (i:Int)=((2^i:Nat):Int):=shl_fin ⟨i,hi⟩
theorem or_step {P:Nat→Bool} {i:Nat} (hi:i<16) (h:P i=true):Go.bits .or .i64 ((tabL P i:Nat):Int) (shl .i64 1 (i:Int))=((tabL P (i+1):Nat):Int):=by
 have h1:=tabL_lt P i
 have h2:(2:Nat)^i<2^16:=Nat.pow_lt_pow_right (by decide) hi
 rw [shl_nat (by omega),or_nat (by omega) (by omega),tabL,if_pos h]
theorem not_step {P:Nat→Bool} {i:Nat} (h : ¬ P i=true):tabL P (i+1)=tabL P i:=by rw [tabL,if_neg h,Nat.or_zero]
theorem people_nat {p:Int} (h0:1≤p) (h1:p≤4) : ∃ q:Nat,p=(q:Int)∧1≤q∧q≤4∧2^q≤16∧p.toNat=q:=by
 obtain ⟨q,rfl⟩:=Int.eq_ofNat_of_zero_le (show 0≤p by omega)
 refine ⟨q,rfl,by omega,by omega,?_,by simp⟩
 have:(2:Nat)^q≤2^4:=Nat.pow_le_pow_right (by decide) (by omega)
 omega
theorem tableBy_l0 {F:Nat→Int→Option Bool} {P:Nat→Bool} {n:Nat} (hn:n≤16) (hF : ∀ w:Nat,w<n→Ev (fun k=>F k (w:Int)) (P w)) : ∀ d i,d+i=n →
  Ev (fun k=>impl_tableBy.l0 F k ((tabL P i:Nat):Int) (n:Int) (i:Int)) ((tabL P n:Nat):Int):=by
 intro d
 induction d with
 | zero =>
  intro i hi
  rw [Nat.zero_add] at hi
  subst hi
  exact Ev.step (fun k=>by simp only [impl_tableBy.l0];rfl) (Ev.no (by omega) (Ev.some _))
 | succ d ih =>
  intro i hi
  refine Ev.step (fun k=>by simp only [impl_tableBy.l0];rfl) ?_
  refine Ev.yes (by omega) (Ev.bind (hF i (by omega)) ?_)
  rw [w64 (by omega) (by omega),show ((i:Int)+1)=((i+1:Nat):Int) by omega]
  by_cases h:P i=true
  ·refine Ev.yes h (Ev.yes (by omega) ?_)
   rw [or_step (by omega) h]
   exact ih (i+1) (by omega)
  ·refine Ev.no h ?_
   have:=ih (i+1) (by omega)
   rwa [not_step h] at this
theorem tableBy_ev {F:Nat→Int→Option Bool} {P:Nat→Bool} {q:Nat} (hq:q≤4) (hF : ∀ w:Nat,w<2^q→Ev (fun k=>F k (w:Int)) (P w)):Ev (fun k=>impl_tableBy.f F k (q:Int)) ((tabL P (2^q):Nat):Int):=by
 unfold impl_tableBy.f
 refine Ev.yes (by omega) ?_
 rw [shl_nat (by omega)]
 have h16:(2:Nat)^q≤2^4:=Nat.pow_le_pow_right (by decide) hq
 exact tableBy_l0 (by omega) hF (2^q) 0 (by omega)
/-- A claim by one of so many people. -/
def clok (p i:Int) (t:List M):Bool:=decide (0≤i∧i<p)&&(tok p t&&decide (t.length≤13))
theorem clok_iff {p i:Int} {t:List M}:clok p i t=true ↔ 0≤i∧i<p∧tok p t=true∧t.length≤13:=by
 unfold clok
 simp only [Bool.and_eq_true,decide_eq_true_eq]
 exact ⟨fun h=>⟨h.1.1,h.1.2,h.2.1,h.2.2⟩,fun h=>⟨⟨h.1,h.2.1⟩,h.2.2.1,h.2.2.2⟩⟩
theorem clok_false {p i:Int} {t:List M} (h : ¬ (0≤i∧i<p∧tok p t=true∧t.length≤13)):false=clok p i t:=by
 cases e:clok p i t with
 | false=>rfl
 | true=>exact absurd (clok_iff.1 e) h
theorem impl_ClaimOk_ev (p i:Int) (t:List M):Ev (fun k=>impl_ClaimOk.f k p i t) (clok p i t):=by
 unfold impl_ClaimOk.f
 simp only [peopleOk_eq,Option.bind_some]
 by_cases h0:1≤p∧p≤4
 ·refine Ev.yes (decide_eq_true h0) ?_
  by_cases h1:i≥0
  ·refine Ev.yes h1 ?_
   by_cases h2:i<p
   ·refine Ev.yes h2 (Ev.bind (impl_TermOk_ev p t) ?_)
    by_cases h3:tok p t=true
    ·refine Ev.yes h3 (Ev.cast (Ev.some _) ?_)
     by_cases h4:t.length≤13
     ·rw [clok_iff.2 ⟨h1,h2,h3,h4⟩];exact decide_eq_true (by omega)
     ·rw [←clok_false (fun h=>h4 h.2.2.2)];exact decide_eq_false (by omega)
    ·exact Ev.no h3 (Ev.cast (Ev.some _) (clok_false (fun h=>h3 h.2.2.1)))
   ·exact Ev.no h2 (Ev.cast (Ev.some _) (clok_false (fun h=>h2 h.2.1)))
  ·exact Ev.no h1 (Ev.cast (Ev.some _) (clok_false (fun h=>h1 h.1)))
 ·refine Ev.no (by simpa using h0) (Ev.cast (Ev.some _) (clok_false (fun h=>h0 ?_)))
  have:=tok_iff.1 h.2.2.1
  omega
theorem spec_ClaimOk_ev (p i:Int) (t:List M) (hl:t.length≤4611686018427387904) (hw : ∀ m∈t,m.f1≤9223372036854775807):Ev (fun k=>spec_ClaimOk.f k p i t) (clok p i t):=by
 unfold spec_ClaimOk.f
 by_cases h1:i≥0
 ·refine Ev.yes h1 ?_
  by_cases h2:i<p
  ·refine Ev.yes h2 (Ev.bind (spec_TermOk_ev p t hl hw) ?_)
   by_cases h3:tok p t=true
   ·refine Ev.yes h3 (Ev.cast (Ev.some _) ?_)
    by_cases h4:t.length≤13
    ·rw [clok_iff.2 ⟨h1,h2,h3,h4⟩];exact decide_eq_true (by omega)
    ·rw [←clok_false (fun h=>h4 h.2.2.2)];exact decide_eq_false (by omega)
   ·exact Ev.no h3 (Ev.cast (Ev.some _) (clok_false (fun h=>h3 h.2.2.1)))
  ·exact Ev.no h2 (Ev.cast (Ev.some _) (clok_false (fun h=>h2 h.2.1)))
 ·exact Ev.no h1 (Ev.cast (Ev.some _) (clok_false (fun h=>h1 h.1)))
theorem impl_maySay_ev {p i:Int} {t:List M} (h:clok p i t=true) {w:Nat} (hw:w<16):Ev (fun k=>impl_maySay.f k i t (w:Int)) (may i t w):=by
 obtain ⟨h0,h1,h2,_⟩:=clok_iff.1 h
 have h4:=(tok_iff.1 h2).2.1
 obtain ⟨j,rfl⟩:=Int.eq_ofNat_of_zero_le h0
 unfold impl_maySay.f
 refine Ev.bind (impl_holds_hv h2 hw) (Ev.yes h0 (Ev.cast (Ev.some _) ?_))
 rw [bit_and' hw (show j<4 by omega)]
 rfl
/-- The table of a claim. -/
noncomputable def ctab (p i:Int) (t:List M):Nat:=tabL (may i t) (2^p.toNat)
theorem impl_ClaimTable_ev (p i:Int) (t:List M):Ev (fun k=>impl_ClaimTable.f k p i t) (if clok p i t=true then ((ctab p i t:Nat):Int) else -1):=by
 unfold impl_ClaimTable.f
 refine Ev.bind (impl_ClaimOk_ev p i t) ?_
 by_cases h:clok p i t=true
 ·rw [if_pos h]
  refine Ev.yes h ?_
  obtain ⟨hp0,hp1,_⟩:=tok_iff.1 (clok_iff.1 h).2.2.1
  obtain ⟨q,rfl,_,hq,hq2,_⟩:=people_nat hp0 hp1
  exact tableBy_ev hq (fun w hw=>impl_maySay_ev h (by omega))
 ·rw [if_neg h]
  exact Ev.no h (Ev.some _)
abbrev C:=S42
theorem rdC_at (pre:List C) (c:C) (suf:List C):rd_T42 (pre++c :: suf) ((pre.length:Nat):Int)=c:=by
 unfold rd_T42
 simp [List.getD]
/-- A story of so many people. -/
def sok (p:Int) (l:List C):Bool:=l.all (fun c=>clok p c.f0 c.f1)&&decide (1≤p∧p≤4∧l.length≤6)
theorem sok_iff {p:Int} {l:List C}:sok p l=true ↔ (∀ c∈l,clok p c.f0 c.f1=true)∧1≤p∧p≤4∧l.length≤6:=by
 unfold sok
 rw [Bool.and_eq_true,List.all_eq_true,decide_eq_true_eq]
theorem impl_StoryOk_l0 {p:Int} {l:List C} (hl:l.length≤4611686018427387904) : ∀ (suf pre:List C),l=pre++suf →
  Ev (fun k=>impl_StoryOk.l0 k p l l ((l.length:Nat):Int) ((pre.length:Nat):Int)) (suf.all (fun c=>clok p c.f0 c.f1)&&decide (1≤p∧p≤4∧l.length≤6)):=by
 intro suf
 induction suf with
 | nil =>
  intro pre he
  have hle:l.length=pre.length:=by rw [he];simp
  refine Ev.step (fun k=>by simp only [impl_StoryOk.l0];rfl) ?_
  refine Ev.no (by omega) ?_
  simp only [peopleOk_eq,Option.bind_some,List.all_nil,Bool.true_and]
  by_cases h:1≤p∧p≤4
  ·refine Ev.yes (decide_eq_true h) (Ev.cast (Ev.some _) ?_)
   exact decide_eq_decide.mpr (by omega)
  ·refine Ev.no (by simpa using h) (Ev.cast (Ev.some _) ?_)
   exact (decide_eq_false (fun hh=>h ⟨hh.1,hh.2.1⟩)).symm
 | cons c t ih =>
  intro pre he
  have hle:l.length=pre.length+(t.length+1):=by rw [he];simp
  have hc:rd_T42 l ((pre.length:Nat):Int)=c:=by rw [he];exact rdC_at pre c t
  refine Ev.step (fun k=>by simp only [impl_StoryOk.l0];rfl) ?_
  rw [hc,w64 (by omega) (by omega),show (((pre.length:Nat):Int)+1)=(((pre++[c]).length:Nat):Int) by simp]
  refine Ev.yes (by omega) (Ev.yes (by omega) (Ev.yes (by omega) (Ev.bind (impl_ClaimOk_ev p c.f0 c.f1) ?_)))
  by_cases h:clok p c.f0 c.f1=true
  ·exact Ev.yes h (Ev.cast (ih (pre++[c]) (by rw [he];simp)) (by rw [List.all_cons,h,Bool.true_and]))
  ·rw [Bool.not_eq_true] at h
   rw [h]
   exact Ev.no (by simp) (Ev.cast (Ev.some _) (by rw [List.all_cons,h];simp))
theorem impl_StoryOk_ev (p:Int) (l:List C) (hl:l.length≤4611686018427387904):Ev (fun k=>impl_StoryOk.f k p l) (sok p l):=by
 unfold impl_StoryOk.f
 exact impl_StoryOk_l0 hl l [] rfl
/-- All worlds, as bits. -/
def fullT (q:Nat):Nat:=2^(2^q)-1
theorem full_eq {q:Nat} (h1:1≤q) (h4:q≤4):wrap64 (shl .i64 1 (shl .u64 1 (q:Int))-1)=((fullT q:Nat):Int):=by
 have : ∀ q:Fin 5,1≤q.val→wrap64 (shl .i64 1 (shl .u64 1 ((q.val:Nat):Int))-1)=((fullT q.val:Nat):Int):=by decide +kernel
 exact this ⟨q,by omega⟩ h1
theorem full_lt {q:Nat} (h4:q≤4):fullT q<65536:=by
 have:(2:Nat)^q≤2^4:=Nat.pow_le_pow_right (by decide) h4
 have h2:(2:Nat)^(2^q)≤2^16:=Nat.pow_le_pow_right (by decide) (by omega)
 unfold fullT
 omega
/-- The table of a story, from some worlds on. -/
noncomputable def stabFrom (p:Int):Nat→List C→Nat
 | a,[]=>a
 | a,c :: l=>stabFrom p (a &&& ctab p c.f0 c.f1) l
noncomputable def stab (p:Int) (l:List C):Nat:=stabFrom p (fullT p.toNat) l
theorem and_lt {a b n:Nat} (h:a<n):a &&& b<n:=Nat.lt_of_le_of_lt Nat.and_le_left h
theorem ctab_lt' {p i:Int} {t:List M} (h:clok p i t=true):ctab p i t<65536:=by
 obtain ⟨hp0,hp1,_⟩:=tok_iff.1 (clok_iff.1 h).2.2.1
 obtain ⟨q,rfl,_,hq,hq2,e⟩:=people_nat hp0 hp1
 unfold ctab
 rw [e]
 exact tabL_mono hq2
theorem impl_storyTable_l0 {p:Int} {l:List C} (hl:l.length≤4611686018427387904) : ∀ (suf pre:List C) (a:Nat),l=pre++suf→(∀ c∈suf,clok p c.f0 c.f1=true)→a<65536 →
  Ev (fun k=>impl_storyTable.l0 k p (a:Int) l ((l.length:Nat):Int) ((pre.length:Nat):Int)) ((stabFrom p a suf:Nat):Int):=by
 intro suf
 induction suf with
 | nil =>
  intro pre a he _ _
  have hle:l.length=pre.length:=by rw [he];simp
  exact Ev.step (fun k=>by simp only [impl_storyTable.l0];rfl) (Ev.no (by omega) (Ev.some _))
 | cons c t ih =>
  intro pre a he hc0 ha
  have hle:l.length=pre.length+(t.length+1):=by rw [he];simp
  have hc:rd_T42 l ((pre.length:Nat):Int)=c:=by rw [he];exact rdC_at pre c t
  have hk:=hc0 c (by simp)
  refine Ev.step (fun k=>by simp only [impl_storyTable.l0];rfl) ?_
  rw [hc,w64 (by omega) (by omega),show (((pre.length:Nat):Int)+1)=(((pre++[c]).length:Nat):Int) by simp]
  refine Ev.yes (by omega) (Ev.yes (by omega) (Ev.yes (by omega) (Ev.bind (impl_ClaimTable_ev p c.f0 c.f1) ?_)))
  rw [if_pos hk]
  have hb:=ctab_lt' hk
  rw [and_nat (by omega) (by omega)]
  exact ih (pre++[c]) _ (by rw [he];simp) (fun x hx=>hc0 x (List.mem_cons_of_mem _ hx)) (and_lt ha)
theorem impl_storyTable_ev {p:Int} {l:List C} (h:sok p l=true):Ev (fun k=>impl_storyTable.f k p l) ((stab p l:Nat):Int):=by
 obtain ⟨h1,hp0,hp1,h6⟩:=sok_iff.1 h
 obtain ⟨q,rfl,hq1,hq,hq2,e⟩:=people_nat hp0 hp1
 unfold impl_storyTable.f stab
 rw [full_eq hq1 hq,e]
 exact Ev.yes (by omega) (impl_storyTable_l0 (by omega) l [] _ rfl h1 (full_lt hq))
/-- A story without the claim at a place. -/
def dropAt (l:List C) (i:Nat):List C:=l.take i++l.drop (i+1)
theorem dropAt_sub (l:List C) (i:Nat) : ∀ x∈dropAt l i,x∈l:=by
 intro x hx
 rcases List.mem_append.1 hx with hx|hx
 ·exact List.mem_of_mem_take hx
 ·exact List.mem_of_mem_drop hx
theorem sok_sub {p:Int} {a b:List C} (h : ∀ x∈a,x∈b) (hl:a.length≤b.length) (hb:sok p b=true):sok p a=true:=by
 obtain ⟨h1,h2,h3,h4⟩:=sok_iff.1 hb
 exact sok_iff.2 ⟨fun c hc=>h1 c (h c hc),h2,h3,by omega⟩
theorem sok_dropAt {p:Int} {l:List C} {i:Nat} (hs:sok p l=true):sok p (dropAt l i)=true :=
 sok_sub (dropAt_sub l i) (by unfold dropAt;rw [List.length_append,lT,lD];omega) hs
/-- The places of the needless claims. -/
noncomputable def needFrom (p:Int) (l:List C):Nat→Nat→List Int→List Int
 | 0,_,acc=>acc
 | d+1,i,acc=>needFrom p l d (i+1) (if stab p (dropAt l i)=stab p l then acc++[(i:Int)] else acc)
theorem needFrom_len (p:Int) (l:List C) : ∀ (d i:Nat) (acc:List Int),(needFrom p l d i acc).length≤acc.length+d
 | 0,_,_=>Nat.le_refl _
 | d+1,i,acc=>by
  rw [needFrom]
  have:=needFrom_len p l d (i+1) (if stab p (dropAt l i)=stab p l then acc++[(i:Int)] else acc)
  have h2:(if stab p (dropAt l i)=stab p l then acc++[(i:Int)] else acc).length≤acc.length+1:=by split<;>simp
  omega
noncomputable def needOf (p:Int) (l:List C):List Int:=if sok p l=true then needFrom p l l.length 0 [] else []
theorem cloneC_eq (u:List C) (h:u.length≤1000000):impl_Claim.f u=some u:=by
 unfold impl_Claim.f
 simp only [Option.bind_some,List.length_nil,List.nil_append]
 rw [if_pos (by omega)]
theorem impl_without_eq (l:List C) {i:Nat} (hi:i<l.length) (hl:l.length≤1000000):impl_without.f l (i:Int)=some (dropAt l i):=by
 unfold impl_without.f
 have h1:(0:Int)≤(i:Int):=by omega
 have h2:(i:Int)≤(l.length:Int):=by omega
 have h3:wrap64 ((i:Int)+1)=(i:Int)+1:=w64 (by omega) (by omega)
 have h4:(0:Int)≤(i:Int)+1:=by omega
 have h5:(i:Int)+1≤(l.length:Int):=by omega
 have h6:((i:Int)+1).toNat=i+1:=by omega
 have h7:(l.take i).length+(l.drop (i+1)).length<4398046511104:=by rw [lT,lD];omega
 have h8:impl_Claim.f (l.take i)=some (l.take i):=cloneC_eq _ (by rw [lT];omega)
 simp only [h3,h6,Int.toNat_natCast,if_pos h1,if_pos h2,if_pos h4,if_pos h5,h8,Option.bind_some,if_pos h7]
 rfl
theorem impl_Need_l {p:Int} {l:List C} (hs:sok p l=true) : ∀ (d i:Nat) (acc:List Int),d+i=l.length→acc.length≤i →
  Ev (fun k=>impl_NeedlessClaims.l0 k p l acc (l.length:Int) (i:Int)) (needFrom p l d i acc):=by
 have h6:=(sok_iff.1 hs).2.2.2
 intro d
 induction d with
 | zero=>intro i acc hd _;exact Ev.step (fun k=>by simp only [impl_NeedlessClaims.l0];rfl) (Ev.no (by omega) (Ev.some _))
 | succ d ih =>
  intro i acc hd ha
  refine Ev.step (fun k=>by simp only [impl_NeedlessClaims.l0];rfl) (Ev.yes (by omega) ?_)
  rw [impl_without_eq l (by omega) (by omega),w64 (by omega) (by omega),show ((i:Int)+1)=((i+1:Nat):Int) by omega,needFrom]
  simp only [Option.bind_some]
  refine Ev.bind (impl_storyTable_ev (sok_dropAt hs)) (Ev.bind (impl_storyTable_ev hs) ?_)
  by_cases h:stab p (dropAt l i)=stab p l
  ·rw [if_pos h]
   exact Ev.yes (by rw [h]) (Ev.yes (by omega) (ih (i+1) _ (by omega) (by simp;omega)))
  ·rw [if_neg h]
   exact Ev.no (by omega) (ih (i+1) acc (by omega) (by omega))
theorem impl_Need_ev (p:Int) (l:List C) (hl:l.length≤4611686018427387904):Ev (fun k=>impl_NeedlessClaims.f k p l) (needOf p l):=by
 unfold impl_NeedlessClaims.f needOf
 refine Ev.bind (impl_StoryOk_ev p l hl) ?_
 by_cases hs:sok p l=true
 ·rw [if_pos hs]
  exact Ev.yes hs (impl_Need_l hs l.length 0 [] (Nat.add_zero _) (Nat.le_refl _))
 ·rw [if_neg hs]
  exact Ev.no hs (Ev.some _)
theorem spec_without_eq (l:List C) {i:Nat} (hi:i<l.length) (hl:l.length≤1000000):spec_l5Without.f l (i:Int)=some (dropAt l i):=by
 unfold spec_l5Without.f
 have h1:(0:Int)≤(i:Int):=by omega
 have h2:(i:Int)≤(l.length:Int):=by omega
 have h3:wrap64 ((i:Int)+1)=(i:Int)+1:=w64 (by omega) (by omega)
 have h4:(0:Int)≤(i:Int)+1:=by omega
 have h5:(i:Int)+1≤(l.length:Int):=by omega
 have h6:((i:Int)+1).toNat=i+1:=by omega
 have h7:(l.take i).length+(l.drop (i+1)).length<4398046511104:=by rw [lT,lD];omega
 have h8:0+(l.take i).length<4398046511104:=by rw [lT];omega
 simp only [h3,h6,Int.toNat_natCast,Option.bind_some,List.length_nil,List.nil_append,if_pos h1,if_pos h2,if_pos h4,if_pos h5,if_pos h8,if_pos h7]
 rfl
theorem spec_may_ev {p i:Int} {t:List M} (h2:tok p t=true) (h0:0≤i) (h1:i<p) {w:Nat} (hw:w<16):Ev (fun k=>spec_l4May.f k i t (w:Int)) (may i t w):=by
 have h4:=(tok_iff.1 h2).2.1
 obtain ⟨j,rfl⟩:=Int.eq_ofNat_of_zero_le h0
 unfold spec_l4May.f
 refine Ev.yes h0 (Ev.bind (spec_holds_hv h2 hw) (Ev.cast (Ev.some _) ?_))
 rw [bit_mod' hw (show j<4 by omega)]
 unfold may
 exact Bool.beq_comm
theorem spec_l4May_ev {p i:Int} {t:List M} (h:clok p i t=true) {w:Nat} (hw:w<16):Ev (fun k=>spec_l4May.f k i t (w:Int)) (may i t w):=by
 obtain ⟨h0,h1,h2,_⟩:=clok_iff.1 h
 exact spec_may_ev h2 h0 h1 hw
theorem l4Table_l0 {q:Nat} {i:Int} {t:List M} (hq:q≤4) (hq2:2^q≤16) (h:clok (q:Int) i t=true) : ∀ d j,d+j=2^q →
  Ev (fun k=>spec_l4Table.l0 k (q:Int) ((tabL (may i t) j:Nat):Int) (j:Int) i t) ((tabL (may i t) (2^q):Nat):Int):=by
 intro d
 induction d with
 | zero =>
  intro j hj
  rw [Nat.zero_add] at hj
  refine Ev.step (fun k=>by simp only [spec_l4Table.l0];rfl) ?_
  rw [shl_nat (by omega)]
  refine Ev.yes (by omega) (Ev.no (by omega) (Ev.cast (Ev.some _) ?_))
  rw [hj]
 | succ d ih =>
  intro j hj
  refine Ev.step (fun k=>by simp only [spec_l4Table.l0];rfl) ?_
  rw [shl_nat (by omega)]
  refine Ev.yes (by omega) (Ev.yes (by omega) (Ev.bind (spec_l4May_ev h (by omega)) ?_))
  rw [w64 (by omega) (by omega),show ((j:Int)+1)=((j+1:Nat):Int) by omega]
  by_cases hb:may i t j=true
  ·refine Ev.yes hb (Ev.yes (by omega) ?_)
   rw [or_step (by omega) hb]
   exact ih (j+1) (by omega)
  ·refine Ev.no hb ?_
   have:=ih (j+1) (by omega)
   rwa [not_step hb] at this
theorem spec_l4Table_ev {p i:Int} {t:List M} (h:clok p i t=true):Ev (fun k=>spec_l4Table.f k p i t) ((ctab p i t:Nat):Int):=by
 unfold spec_l4Table.f
 obtain ⟨hp0,hp1,_⟩:=tok_iff.1 (clok_iff.1 h).2.2.1
 obtain ⟨q,rfl,_,hq,hq2,_⟩:=people_nat hp0 hp1
 exact l4Table_l0 hq hq2 h (2^q) 0 (by omega)
/-- Small enough for the reference's tests. -/
def Fit (l:List C):Prop:=∀ c∈l,c.f1.length≤4611686018427387904 ∧ ∀ m∈c.f1,m.f1≤9223372036854775807
theorem spec_StoryOk_l0 {p:Int} {l:List C} (hl:l.length≤4611686018427387904) : ∀ (suf pre:List C),l=pre++suf→Fit suf →
  Ev (fun k=>spec_StoryOk.l0 k p l ((pre.length:Nat):Int)) (suf.all (fun c=>clok p c.f0 c.f1)&&decide (1≤p∧p≤4∧l.length≤6)):=by
 intro suf
 induction suf with
 | nil =>
  intro pre he _
  have hle:l.length=pre.length:=by rw [he];simp
  refine Ev.step (fun k=>by simp only [spec_StoryOk.l0];rfl) ?_
  refine Ev.no (by omega) ?_
  simp only [l1In_eq,Option.bind_some,List.all_nil,Bool.true_and]
  by_cases h:1≤p∧p≤4
  ·refine Ev.yes (decide_eq_true h) (Ev.cast (Ev.some _) ?_)
   exact decide_eq_decide.mpr (by omega)
  ·refine Ev.no (by simpa using h) (Ev.cast (Ev.some _) ?_)
   exact (decide_eq_false (fun hh=>h ⟨hh.1,hh.2.1⟩)).symm
 | cons c t ih =>
  intro pre he hf
  have hle:l.length=pre.length+(t.length+1):=by rw [he];simp
  have hc:rd_T42 l ((pre.length:Nat):Int)=c:=by rw [he];exact rdC_at pre c t
  have hfc:=hf c (by simp)
  refine Ev.step (fun k=>by simp only [spec_StoryOk.l0];rfl) ?_
  rw [hc,w64 (by omega) (by omega),show (((pre.length:Nat):Int)+1)=(((pre++[c]).length:Nat):Int) by simp]
  refine Ev.yes (by omega) (Ev.yes (by omega) (Ev.bind (spec_ClaimOk_ev p c.f0 c.f1 hfc.1 hfc.2) ?_))
  by_cases h:clok p c.f0 c.f1=true
  ·exact Ev.yes h (Ev.cast (ih (pre++[c]) (by rw [he];simp) (fun x hx=>hf x (List.mem_cons_of_mem _ hx))) (by rw [List.all_cons,h,Bool.true_and]))
  ·rw [Bool.not_eq_true] at h
   rw [h]
   exact Ev.no (by simp) (Ev.cast (Ev.some _) (by rw [List.all_cons,h];simp))
theorem spec_StoryOk_ev (p:Int) (l:List C) (hl:l.length≤4611686018427387904) (hf:Fit l):Ev (fun k=>spec_StoryOk.f k p l) (sok p l):=by
 unfold spec_StoryOk.f
 exact spec_StoryOk_l0 hl l [] rfl hf
theorem spec_l4Story_l0 {p:Int} {l:List C} (hl:l.length≤4611686018427387904) : ∀ (suf pre:List C) (a:Nat),l=pre++suf→(∀ c∈suf,clok p c.f0 c.f1=true)→a<65536 →
  Ev (fun k=>spec_l4Story.l0 k p l (a:Int) ((pre.length:Nat):Int)) ((stabFrom p a suf:Nat):Int):=by
 intro suf
 induction suf with
 | nil =>
  intro pre a he _ _
  have hle:l.length=pre.length:=by rw [he];simp
  exact Ev.step (fun k=>by simp only [spec_l4Story.l0];rfl) (Ev.no (by omega) (Ev.some _))
 | cons c t ih =>
  intro pre a he hc0 ha
  have hle:l.length=pre.length+(t.length+1):=by rw [he];simp
  have hc:rd_T42 l ((pre.length:Nat):Int)=c:=by rw [he];exact rdC_at pre c t
  have hk:=hc0 c (by simp)
  refine Ev.step (fun k=>by simp only [spec_l4Story.l0];rfl) ?_
  rw [hc,w64 (by omega) (by omega),show (((pre.length:Nat):Int)+1)=(((pre++[c]).length:Nat):Int) by simp]
  refine Ev.yes (by omega) (Ev.yes (by omega) (Ev.bind (spec_l4Table_ev hk) ?_))
  have hb:=ctab_lt' hk
  rw [and_nat (by omega) (by omega)]
  exact ih (pre++[c]) _ (by rw [he];simp) (fun x hx=>hc0 x (List.mem_cons_of_mem _ hx)) (and_lt ha)
theorem spec_l4Story_ev {p:Int} {l:List C} (h:sok p l=true):Ev (fun k=>spec_l4Story.f k p l) ((stab p l:Nat):Int):=by
 obtain ⟨h1,hp0,hp1,h6⟩:=sok_iff.1 h
 obtain ⟨q,rfl,hq1,hq,hq2,e⟩:=people_nat hp0 hp1
 unfold spec_l4Story.f stab
 rw [full_eq hq1 hq,e]
 exact Ev.yes (by omega) (spec_l4Story_l0 (by omega) l [] _ rfl h1 (full_lt hq))
theorem spec_Need_l {p:Int} {l:List C} (hs:sok p l=true) (hf:Fit l) : ∀ (d i:Nat) (acc:List Int),d+i=l.length→acc.length≤i →
  Ev (fun k=>spec_NeedlessClaims.l0 k p l acc (i:Int)) (needFrom p l d i acc):=by
 have h6:=(sok_iff.1 hs).2.2.2
 intro d
 induction d with
 | zero =>
  intro i acc hd _
  refine Ev.step (fun k=>by simp only [spec_NeedlessClaims.l0];rfl) (Ev.no (by omega) ?_)
  refine Ev.step (fun k=>by simp only [spec_NeedlessClaims.j1];rfl) ?_
  exact Ev.no (by simp) (Ev.some _)
 | succ d ih =>
  intro i acc hd ha
  refine Ev.step (fun k=>by simp only [spec_NeedlessClaims.l0];rfl) (Ev.yes (by omega) (Ev.bind (spec_StoryOk_ev p l (by omega) hf) ?_))
  rw [hs]
  refine Ev.step (fun k=>by simp only [spec_NeedlessClaims.j1];rfl) ?_
  rw [spec_without_eq l (by omega) (by omega),w64 (by omega) (by omega),show ((i:Int)+1)=((i+1:Nat):Int) by omega,needFrom]
  simp only [Option.bind_some]
  refine Ev.yes trivial (Ev.bind (spec_l4Story_ev (sok_dropAt hs)) (Ev.bind (spec_l4Story_ev hs) ?_))
  by_cases h:stab p (dropAt l i)=stab p l
  ·rw [if_pos h]
   exact Ev.yes (by rw [h]) (Ev.yes (by omega) (ih (i+1) _ (by omega) (by simp;omega)))
  ·rw [if_neg h]
   exact Ev.no (by omega) (ih (i+1) acc (by omega) (by omega))
theorem spec_Need_ev (p:Int) (l:List C) (hl:l.length≤4611686018427387904) (hf:Fit l):Ev (fun k=>spec_NeedlessClaims.f k p l) (needOf p l):=by
 unfold spec_NeedlessClaims.f needOf
 by_cases hs:sok p l=true
 ·rw [if_pos hs]
  exact spec_Need_l hs hf l.length 0 [] (Nat.add_zero _) (Nat.le_refl _)
 ·rw [if_neg hs]
  have hs':sok p l=false:=Bool.eq_false_iff.2 hs
  have out:Ev (fun k=>spec_NeedlessClaims.j1 k p l [] 0 false) []:=by
   refine Ev.step (fun k=>by simp only [spec_NeedlessClaims.j1];rfl) ?_
   exact Ev.no (by simp) (Ev.some _)
  refine Ev.step (fun k=>by simp only [spec_NeedlessClaims.l0];rfl) ?_
  by_cases h0:(0:Int)<(l.length:Int)
  ·refine Ev.yes h0 (Ev.bind (spec_StoryOk_ev p l hl hf) ?_)
   rw [hs']
   exact out
  ·exact Ev.no h0 out
theorem rdI_at (pre:List Int) (x:Int) (suf:List Int):rd (pre++x :: suf) ((pre.length:Nat):Int)=x:=by
 unfold rd
 simp [List.getD]
theorem eqIntS_l0 (l:List Int) (hl:l.length≤4611686018427387904) : ∀ (suf pre:List Int),l=pre++suf→Ev (fun k=>laws_eqIntS.l0 k l l ((pre.length:Nat):Int)) true:=by
 intro suf
 induction suf with
 | nil =>
  intro pre he
  have hle:l.length=pre.length:=by rw [he];simp
  exact Ev.step (fun k=>by simp only [laws_eqIntS.l0];rfl) (Ev.no (by omega) (Ev.some _))
 | cons m t ih =>
  intro pre he
  have hle:l.length=pre.length+(t.length+1):=by rw [he];simp
  refine Ev.step (fun k=>by simp only [laws_eqIntS.l0];rfl) ?_
  rw [w64 (by omega) (by omega),show (((pre.length:Nat):Int)+1)=(((pre++[m]).length:Nat):Int) by simp]
  exact Ev.yes (by omega) (Ev.yes (by omega) (Ev.yes (by omega) (Ev.yes trivial (ih (pre++[m]) (by rw [he];simp)))))
theorem eqIntS_ev (l:List Int) (hl:l.length≤4611686018427387904):Ev (fun k=>laws_eqIntS.f k l l) true:=by
 unfold laws_eqIntS.f
 exact Ev.yes rfl (eqIntS_l0 l hl l [] rfl)
/-- So many numbers one behind the other. -/
def mki:Nat→Int→List Int
 | 0,_=>[]
 | d+1,n=>n :: mki d (n+1)
theorem mki_length : ∀ (d:Nat) (n:Int),(mki d n).length=d
 | 0,_=>rfl
 | d+1,n=>by simp [mki,mki_length d]
theorem markIntS_row : ∀ (suf pre:List Int) (n:Int),pre.length+suf.length≤2000000→0≤n→n≤1000000000000-suf.length →
  Ev (fun k=>laws_markIntS.l0 k (pre++suf) n ((pre.length:Nat):Int)) (n+suf.length,pre++mki suf.length n):=by
 intro suf
 induction suf with
 | nil =>
  intro pre n hl h0 h1
  refine Ev.step (fun k=>by simp only [laws_markIntS.l0];rfl) ?_
  exact Ev.no (by simp) (Ev.cast (Ev.some _) (by simp [mki]))
 | cons m t ih =>
  intro pre n hl h0 h1
  simp only [List.length_cons] at hl h1
  refine Ev.step (fun k=>by simp only [laws_markIntS.l0];rfl) ?_
  refine Ev.yes (by simp;omega) (Ev.yes (by omega) ?_)
  rw [w64 (by omega) (by omega),w64 (by omega) (by omega)]
  have e:(pre++m :: t).set ((pre.length:Nat):Int).toNat n=pre++[n]++t:=by simp
  have e2:(((pre.length:Nat):Int)+1)=(((pre++[n]).length:Nat):Int):=by simp
  rw [e,e2]
  refine Ev.cast (ih (pre++[n]) (n+1) (by simp;omega) (by omega) (by omega)) ?_
  simp [mki]
  omega
theorem markIntS_one (l:List Int) (hl:l.length≤2000000):Ev (fun k=>laws_markIntS.f k l 1) (1+(l.length:Int),mki l.length 1):=by
 have:=markIntS_row l [] 1 (by simpa using hl) (by omega) (by omega)
 unfold laws_markIntS.f
 simpa using this
theorem heldIntS_row : ∀ (d:Nat) (pre:List Int) (n:Int),pre.length+d≤2000000→0≤n→n≤1000000000000-d →
  Ev (fun k=>laws_heldIntS.l0 k (pre++mki d n) n ((pre.length:Nat):Int)) (n+d):=by
 intro d
 induction d with
 | zero =>
  intro pre n hl h0 h1
  refine Ev.step (fun k=>by simp only [laws_heldIntS.l0];rfl) ?_
  exact Ev.no (by simp [mki]) (Ev.cast (Ev.some _) (by simp))
 | succ d ih =>
  intro pre n hl h0 h1
  have hm:rd (pre++mki (d+1) n) ((pre.length:Nat):Int)=n:=rdI_at pre _ _
  refine Ev.step (fun k=>by simp only [laws_heldIntS.l0];rfl) ?_
  rw [w64 (by omega) (by omega),w64 (by omega) (by omega),hm]
  refine Ev.yes (by simp [mki_length];omega) (Ev.yes (by omega) (Ev.yes rfl ?_))
  have e:pre++mki (d+1) n=(pre++[n])++mki d (n+1):=by simp [mki]
  rw [e,show (((pre.length:Nat):Int)+1)=(((pre++[n]).length:Nat):Int) by simp]
  exact Ev.cast (ih (pre++[n]) (n+1) (by simp;omega) (by omega) (by omega)) (by omega)
theorem heldIntS_one (d:Nat) (hd:d≤2000000):Ev (fun k=>laws_heldIntS.f k (mki d 1) 1) (1+(d:Int)):=by
 have:=heldIntS_row d [] 1 (by simpa using hd) (by omega) (by omega)
 unfold laws_heldIntS.f
 simpa using this
/-- A row of the law's marks as one of the program's. -/
def conv (l:List S65):List M:=l.map fun m=>⟨m.f0,m.f1⟩
theorem conv_length (l:List S65):(conv l).length=l.length:=by simp [conv]
theorem i64_wf {x:Int} (h:(Lit.int .i64 x).wf=true) : -9223372036854775808≤x∧x≤9223372036854775807:=by
 simp only [Lit.wf,IntKind.min,IntKind.max,IntKind.signed,IntKind.bits,Bool.and_eq_true,decide_eq_true_eq,if_true] at h
 simp at h
 omega
theorem conv_wf {l:List S65} (h : ∀ y∈l,wf65 y) : ∀ m∈conv l,m.f1≤9223372036854775807:=by
 intro m hm
 obtain ⟨y,hy,rfl⟩:=List.mem_map.1 hm
 exact (i64_wf (h y hy).2).2
theorem rdLM_at (pre:List S65) (m:S65) (suf:List S65):rd_T65 (pre++m :: suf) ((pre.length:Nat):Int)=m:=by
 unfold rd_T65
 simp [List.getD]
theorem szMarkS_eq (l:List S65) (n:Nat) (hn:n≤1048576) (hl:l.length≤9223372036854775807):laws_szMarkS.f l (n:Int)=some (if (n:Int)-l.length<0 then -1 else (n:Int)-l.length):=by
 unfold laws_szMarkS.f
 rw [w64 (by omega) (by omega)]
 by_cases h:(n:Int)-l.length<0
 ·rw [if_pos h,if_pos h]
 ·rw [if_neg h,if_neg h]
theorem toMarkS_l0 (l:List S65) (hl:l.length≤4611686018427387904) : ∀ (suf pre:List S65),l=pre++suf →
  Ev (fun k=>laws_toMarkS.l0 k l (conv pre++List.replicate suf.length z59) ((pre.length:Nat):Int)) (conv l):=by
 intro suf
 induction suf with
 | nil =>
  intro pre he
  have hle:l.length=pre.length:=by rw [he];simp
  refine Ev.step (fun k=>by simp only [laws_toMarkS.l0];rfl) ?_
  exact Ev.no (by omega) (Ev.cast (Ev.some _) (by rw [he];simp))
 | cons m t ih =>
  intro pre he
  have hle:l.length=pre.length+(t.length+1):=by rw [he];simp
  have hm:rd_T65 l ((pre.length:Nat):Int)=m:=by rw [he];exact rdLM_at pre m t
  have hnext:wrap64 (((pre.length:Nat):Int)+1)=(((pre++[m]).length:Nat):Int):=by rw [w64 (by omega) (by omega)];simp
  refine Ev.step (fun k=>by simp only [laws_toMarkS.l0];rfl) ?_
  refine Ev.yes (by omega) (Ev.yes (by omega) ?_)
  simp only [laws_toMark.f,Option.bind_some,hm,hnext]
  refine Ev.yes (by simp [conv];omega) ?_
  have e:(conv pre++List.replicate (m :: t).length z59).set ((pre.length:Nat):Int).toNat ⟨m.f0,m.f1⟩=conv (pre++[m])++List.replicate t.length z59:=by
   have:pre.length=(conv pre).length:=by simp [conv]
   rw [Int.toNat_natCast,this,List.set_append_right _ _ (Nat.le_refl _)]
   simp [List.replicate_succ,conv]
  rw [e]
  exact ih (pre++[m]) (by rw [he];simp)
theorem toMarkS_ev (l:List S65) (hl:l.length≤1048576):Ev (fun k=>laws_toMarkS.f k l) (conv l):=by
 unfold laws_toMarkS.f
 refine Ev.yes (by omega) (Ev.yes (by omega) ?_)
 have:=toMarkS_l0 l (by omega) l [] rfl
 simpa [conv] using this
theorem eqMarkS_l0 (l:List M) (hl:l.length≤4611686018427387904) : ∀ (suf pre:List M),l=pre++suf→Ev (fun k=>laws_eqMarkS.l0 k l l ((pre.length:Nat):Int)) true:=by
 intro suf
 induction suf with
 | nil =>
  intro pre he
  have hle:l.length=pre.length:=by rw [he];simp
  refine Ev.step (fun k=>by simp only [laws_eqMarkS.l0];rfl) ?_
  exact Ev.no (by omega) (Ev.some _)
 | cons m t ih =>
  intro pre he
  have hle:l.length=pre.length+(t.length+1):=by rw [he];simp
  have hnext:wrap64 (((pre.length:Nat):Int)+1)=(((pre++[m]).length:Nat):Int):=by rw [w64 (by omega) (by omega)];simp
  refine Ev.step (fun k=>by simp only [laws_eqMarkS.l0];rfl) ?_
  refine Ev.yes (by omega) (Ev.yes (by omega) (Ev.yes (by omega) ?_))
  simp only [laws_eqMark.f,if_true,Option.bind_some]
  rw [hnext]
  exact ih (pre++[m]) (by rw [he];simp)
theorem eqMarkS_ev (l:List M) (hl:l.length≤4611686018427387904):Ev (fun k=>laws_eqMarkS.f k l l) true:=by
 unfold laws_eqMarkS.f
 exact Ev.yes rfl (eqMarkS_l0 l hl l [] rfl)
end Go.Proofs.Ytbhjeiphmnanoaa.L
namespace Go.Proofs.Ytbhjeiphmnanoaa.X
open Go.RowKit Go.Proofs.YtbhjeiphmnanoaaW.PrintWords Go.Proofs.YtbhjeiphmnanoaaW.PrintLast Go.Proofs.YtbhjeiphmnanoaaW.PrintMore
open Go.Proofs.YtbhjeiphmnanoaaW.PrintWords renaming Aside0.mk → mA, pw_below_drewN → bN, below_drew1 → bD, below_alloc → bA, below_size → bZ, below_step → bT, Kd.R_alloc → rA, Kd.R_drewN → rN, Kd.R_drew → rD, Kd.R_mono → rM, Kd.R_reads' → rR, Kd.R_lt → rL, Kd.R_below → rB, Kd.R_elder' → rE, Kd.R_lower → rW, Kd.R_new' → rQ, Kd.C_alloc → cA, Kd.C_drewN → cN, Kd.C_drew → cD
open List renaming setIfInBounds_toArray → sA, set_cons_zero → sZ, set_cons_succ → sS, length_take → lT, length_drop → lD, map_toArray → mT, map_cons → mC, map_nil → mN
attribute [local go_sem] max2_int min2_int max_two min_two max_three min_three max_four min_four   -- for this text's walks alone
set_option linter.unusedVariables false
set_option linter.unusedSimpArgs false
/-! ### laws_heldMarkS: function 31 -/
def laws_heldMarkS.l0:Nat→List (S59)→Int→Int→Option (Int)
 | 0,_,_,_=>none
 | k+1,x0,x1,x5=>if x5<(x0.length:Int) then (if 0≤x5 then (if ((rd_T59 x0 x5).f0)=x1 then (if ((rd_T59 x0 x5).f1)=(wrap64 (x1+1)) then (laws_heldMarkS.l0 k x0 (wrap64 ((wrap64 (x1+1))+1)) (wrap64 (x5+1))) else (some (-1))) else (some (-1))) else (none)) else (some x1)
def laws_heldMarkS.f (k:Nat) (l0:List (S59)) (a1:Int):Option (Int):=laws_heldMarkS.l0 k l0 a1 0
theorem laws_heldMarkS.mono_l : ∀ k,(∀ y0 y1 y2,LeO (laws_heldMarkS.l0 k y0 y1 y2) (laws_heldMarkS.l0 (k+1) y0 y1 y2))
 | 0=>fun _ _ _ r h=>by simp [laws_heldMarkS.l0] at h
 | k+1=>by
  have ih0:=laws_heldMarkS.mono_l k
  ·intro y0 y1 y2
   unfold laws_heldMarkS.l0
   repeat' first
   | (with_reducible exact ih0 _ _ _)
   | (with_reducible exact LeO.refl _)
   | (with_reducible exact LeO.none _)
   | (with_reducible refine LeO.ite ?_ ?_)
   | (with_reducible refine LeO.bind ?_ (fun _=>?_))
   | exact ih0 _ _ _
   | exact LeO.none _
   | refine LeO.ite ?_ ?_
   | refine LeO.bind ?_ (fun _=>?_)
theorem laws_heldMarkS.mono : ∀ a0 a1 k,LeO (laws_heldMarkS.f k a0 a1) (laws_heldMarkS.f (k+1) a0 a1):=by
 intro a0 a1 k
 have ih0:=laws_heldMarkS.mono_l k
 unfold laws_heldMarkS.f
 repeat' first
   | (with_reducible exact ih0 _ _ _)
   | (with_reducible exact LeO.refl _)
   | (with_reducible exact LeO.none _)
   | (with_reducible refine LeO.ite ?_ ?_)
   | (with_reducible refine LeO.bind ?_ (fun _=>?_))
   | exact ih0 _ _ _
   | exact LeO.none _
   | refine LeO.ite ?_ ?_
   | refine LeO.bind ?_ (fun _=>?_)
set_option maxHeartbeats 8000000 in
set_option maxRecDepth 100000 in
theorem laws_heldMarkS.calls (k:Nat) (A0:Option Addr) (c0:Nat) (l0:List (S59)) (a1:Int) (r:Int) (w:World) (hr0:Kd.C k59 w A0 l0.length l0) (hc0:l0.length≤c0) (h:laws_heldMarkS.f k l0 a1=some r) :
  Calls Try.prog 31 #[.slice A0 l0.length c0,.int .i64 a1] w fun e w'=>e = .returned (.int .i64 r)∧Drawn0 w w':=by
 have HR0:=mA hr0
 have HC0:=mA hc0
 clear hr0 hc0
 have H:(laws_heldMarkS.l0 k l0 a1 0)=some r:=h
 clear h
 have H':=mA H
 clear H
 go_enter Try.func31,Try.ntmps31
 go_wp2
 go_loopg [1,5] k (fun kq v1 v5 w'=>∃ (x1_1:Int) (x5_1:Int),v1 = .int .i64 x1_1∧v5 = .int .i64 x5_1∧Aside0 (laws_heldMarkS.l0 kq l0 x1_1 x5_1=some r)∧Aside0 (kq≤k)∧Drawn0 w w')
 case atStart=>exact ⟨(a1),(0),(by first|rfl|(simp;done)|(simp [*];done)),(by first|rfl|(simp;done)|(simp [*];done)),H',⟨Nat.le_refl _⟩,by repeat (first|exact Drawn0.refl _|apply Drawn0.step)⟩
 case round =>
  clear H'
  try clear p2
  obtain ⟨x1_1,x5_1,rfl,rfl,HA,HK1,⟨m1,rfl⟩⟩:=hrel
  cases gk with
  | zero=>exact absurd HA.out (by simp [laws_heldMarkS.l0])
  | succ k1 =>
   have H:=HA.out
   clear HA
   simp only [laws_heldMarkS.l0] at H
   by_cases c3:x5_1<(l0.length:Int)
   ·rw [if_pos c3] at H
    have c3b0:decide (x5_1<(l0.length:Int))=true:=decide_eq_true c3
    clear c3
    by_cases c4:0≤x5_1
    ·rw [if_pos c4] at H
     have c4b0:decide (0≤x5_1)=true:=decide_eq_true c4
     clear c4
     by_cases c5:((rd_T59 l0 x5_1).f0)=x1_1
     ·rw [if_pos c5] at H
      have c5b0:(((rd_T59 l0 x5_1).f0)==x1_1)=true:=beq_iff_eq.mpr c5
      have c5b1:(((rd_T59 l0 x5_1).f0) != x1_1)=false:=bne_eq_false_iff_eq.mpr c5
      clear c5
      by_cases c6:((rd_T59 l0 x5_1).f1)=(wrap64 (x1_1+1))
      ·rw [if_pos c6] at H
       have c6b0:(((rd_T59 l0 x5_1).f1)==(wrap64 (x1_1+1)))=true:=beq_iff_eq.mpr c6
       have c6b1:(((rd_T59 l0 x5_1).f1) != (wrap64 (x1_1+1)))=false:=bne_eq_false_iff_eq.mpr c6
       clear c6
       have H':=mA H
       clear H
       have p101:0≤(x5_1:Int):=of_decide_eq_true (by first|with_reducible assumption|assumption)
       have q101:x5_1<(l0.length:Int):=of_decide_eq_true (by first|with_reducible assumption|assumption)
       obtain ⟨ad101,e101,hx101_0,hx101_1⟩:=at_T59 HR0.out x5_1 p101 q101
       cases e101
       replace p101:=eq_true p101
       replace q101:=eq_true q101
       have p102:0≤(x5_1:Int):=of_decide_eq_true (by first|with_reducible assumption|assumption)
       have q102:x5_1<(l0.length:Int):=of_decide_eq_true (by first|with_reducible assumption|assumption)
       obtain ⟨ad102,e102,hx102_0,hx102_1⟩:=at_T59 HR0.out x5_1 p102 q102
       obtain rfl:ad101=ad102:=(by injection e102)
       replace p102:=eq_true p102
       replace q102:=eq_true q102
       go_wp2
       go_roundg k1
       case measure=>have:=HK1.out;omega
       case rel=>exact ⟨(wrap64 ((wrap64 (x1_1+1))+1)),(wrap64 (x5_1+1)),(by first|rfl|(simp;done)|(simp [*];done)),(by first|rfl|(simp;done)|(simp [*];done)),H',⟨by have:=HK1.out;omega⟩,by repeat (first|exact Drawn0.refl _|apply Drawn0.step)⟩
      ·rw [if_neg c6] at H
       have c6b0:(((rd_T59 l0 x5_1).f1)==(wrap64 (x1_1+1)))=false:=beq_eq_false_iff_ne.mpr c6
       have c6b1:(((rd_T59 l0 x5_1).f1) != (wrap64 (x1_1+1)))=true:=bne_iff_ne.mpr c6
       obtain rfl:=Option.some.inj H
       have p101:0≤(x5_1:Int):=of_decide_eq_true (by first|with_reducible assumption|assumption)
       have q101:x5_1<(l0.length:Int):=of_decide_eq_true (by first|with_reducible assumption|assumption)
       obtain ⟨ad101,e101,hx101_0,hx101_1⟩:=at_T59 HR0.out x5_1 p101 q101
       cases e101
       replace p101:=eq_true p101
       replace q101:=eq_true q101
       have p102:0≤(x5_1:Int):=of_decide_eq_true (by first|with_reducible assumption|assumption)
       have q102:x5_1<(l0.length:Int):=of_decide_eq_true (by first|with_reducible assumption|assumption)
       obtain ⟨ad102,e102,hx102_0,hx102_1⟩:=at_T59 HR0.out x5_1 p102 q102
       obtain rfl:ad101=ad102:=(by injection e102)
       replace p102:=eq_true p102
       replace q102:=eq_true q102
       go_wp2
       go_ret
       exact ⟨by first|rfl|(simp;done)|(simp [*];done),by repeat (first|exact Drawn0.refl _|apply Drawn0.step)⟩
     ·rw [if_neg c5] at H
      have c5b0:(((rd_T59 l0 x5_1).f0)==x1_1)=false:=beq_eq_false_iff_ne.mpr c5
      have c5b1:(((rd_T59 l0 x5_1).f0) != x1_1)=true:=bne_iff_ne.mpr c5
      obtain rfl:=Option.some.inj H
      have p101:0≤(x5_1:Int):=of_decide_eq_true (by first|with_reducible assumption|assumption)
      have q101:x5_1<(l0.length:Int):=of_decide_eq_true (by first|with_reducible assumption|assumption)
      obtain ⟨ad101,e101,hx101_0,hx101_1⟩:=at_T59 HR0.out x5_1 p101 q101
      cases e101
      replace p101:=eq_true p101
      replace q101:=eq_true q101
      go_wp2
      go_ret
      exact ⟨by first|rfl|(simp;done)|(simp [*];done),by repeat (first|exact Drawn0.refl _|apply Drawn0.step)⟩
    ·rw [if_neg c4] at H
     exact absurd H (by simp)
   ·rw [if_neg c3] at H
    have c3b0:decide (x5_1<(l0.length:Int))=false:=decide_eq_false c3
    clear c3
    obtain rfl:=Option.some.inj H
    go_wp2
    go_ret
    exact ⟨by first|rfl|(simp;done)|(simp [*];done),by repeat (first|exact Drawn0.refl _|apply Drawn0.step)⟩
end Go.Proofs.Ytbhjeiphmnanoaa.X
/- Plain laws of marking and holding rows of marks. -/
namespace Go.Proofs.Ytbhjeiphmnanoaa.L
open Go.RowKit Go.Proofs.Ytbhjeiphmnanoaa.X Go.Proofs.YtbhjeiphmnanoaaW.PrintWords Go.Proofs.YtbhjeiphmnanoaaW.PrintLast Go.Proofs.YtbhjeiphmnanoaaW.PrintMore
open Go.Proofs.YtbhjeiphmnanoaaW.PrintWords renaming Aside0.mk → mA, pw_below_drewN → bN, below_drew1 → bD, below_alloc → bA, below_size → bZ, below_step → bT, Kd.R_alloc → rA, Kd.R_drewN → rN, Kd.R_drew → rD, Kd.R_mono → rM, Kd.R_reads' → rR, Kd.R_lt → rL, Kd.R_below → rB, Kd.R_elder' → rE, Kd.R_lower → rW, Kd.R_new' → rQ, Kd.C_alloc → cA, Kd.C_drewN → cN, Kd.C_drew → cD
open List renaming setIfInBounds_toArray → sA, set_cons_zero → sZ, set_cons_succ → sS, length_take → lT, length_drop → lD, map_toArray → mT, map_cons → mC, map_nil → mN
/-- So many marks with numbers one behind the other. -/
def mkd:Nat→Int→List M
 | 0,_=>[]
 | d+1,n=>⟨n,n+1⟩ :: mkd d (n+1+1)
theorem eqClaim_ev (i:Int) (l:List M) (hl:l.length≤4611686018427387904):Ev (fun k=>laws_eqClaim.f k i l i l) true:=by
 unfold laws_eqClaim.f
 exact Ev.yes rfl (Ev.bind (eqMarkS_ev l hl) (Ev.yes rfl (Ev.some _)))
theorem toClaim_ev (i:Int) (l:List S65) (hl:l.length≤1048576):Ev (fun k=>laws_toClaim.f k i l) (i,conv l):=by
 unfold laws_toClaim.f
 exact Ev.bind (toMarkS_ev l hl) (Ev.some _)
/-- A row of the law's claims as one of the program's. -/
def convC (l:List S38):List C:=l.map fun c=>⟨c.f0,conv c.f1⟩
theorem convC_length (l:List S38):(convC l).length=l.length:=by simp [convC]
theorem rdLC_at (pre:List S38) (m:S38) (suf:List S38):rd_T38 (pre++m :: suf) ((pre.length:Nat):Int)=m:=by
 unfold rd_T38
 simp [List.getD]
theorem szClaimS_l0 {l:List S38} (hl:l.length≤4611686018427387904) (hb : ∀ y∈l,y.f1.length≤9223372036854775807) : ∀ (suf pre:List S38) (n:Nat),l=pre++suf→n≤1048576 →
  ∃ r:Int,Ev (fun k=>laws_szClaimS.l0 k l (n:Int) ((pre.length:Nat):Int)) r∧(r<0 ∨ ∀ y∈suf,y.f1.length≤1048576):=by
 intro suf
 induction suf with
 | nil =>
  intro pre n he hn
  have hle:l.length=pre.length:=by rw [he];simp
  exact ⟨(n:Int),Ev.step (fun k=>by simp only [laws_szClaimS.l0];rfl) (Ev.no (by omega) (Ev.some _)),.inr (fun y hy=>by cases hy)⟩
 | cons c t ih =>
  intro pre n he hn
  have hle:l.length=pre.length+(t.length+1):=by rw [he];simp
  have hc:rd_T38 l ((pre.length:Nat):Int)=c:=by rw [he];exact rdLC_at pre c t
  have hcb:=hb c (by rw [he];simp)
  have hsz:laws_szClaim.f c.f0 c.f1 (n:Int)=some (if (n:Int)-c.f1.length<0 then (-1:Int) else (n:Int)-c.f1.length):=by
   unfold laws_szClaim.f
   rw [szMarkS_eq c.f1 n hn hcb,Option.bind_some]
   by_cases h:(n:Int)-c.f1.length<0
   ·rw [if_pos h,if_pos (by omega)]
   ·rw [if_neg h,if_neg h]
  by_cases h:(n:Int)-c.f1.length<0
  ·refine ⟨-1,Ev.step (fun k=>by simp only [laws_szClaimS.l0];rfl) ?_,.inl (by omega)⟩
   rw [hc,hsz,if_pos h]
   simp only [Option.bind_some]
   exact Ev.yes (by omega) (Ev.yes (by omega) (Ev.yes (by omega) (Ev.some _)))
  ·obtain ⟨m,hm⟩:=Int.eq_ofNat_of_zero_le (show 0≤(n:Int)-c.f1.length by omega)
   obtain ⟨r,hr,hx⟩:=ih (pre++[c]) m (by rw [he];simp) (by omega)
   refine ⟨r,Ev.step (fun k=>by simp only [laws_szClaimS.l0];rfl) ?_,?_⟩
   ·rw [hc,hsz,if_neg h,w64 (by omega) (by omega),show (((pre.length:Nat):Int)+1)=(((pre++[c]).length:Nat):Int) by simp]
    simp only [Option.bind_some]
    rw [hm]
    exact Ev.yes (by omega) (Ev.yes (by omega) (Ev.no (by omega) hr))
   ·rcases hx with hx|hx
    ·exact .inl hx
    ·refine .inr (fun y hy=>?_)
     rcases List.mem_cons.1 hy with rfl|hy
     ·omega
     ·exact hx y hy
theorem szClaimS_ev (l:List S38) (hl:l.length≤9223372036854775807) (hb : ∀ y∈l,y.f1.length≤9223372036854775807) : ∃ r:Int,Ev (fun k=>laws_szClaimS.f k l 1048576) r∧(r<0∨(l.length≤1048576 ∧ ∀ y∈l,y.f1.length≤1048576)):=by
 unfold laws_szClaimS.f
 rw [w64 (by omega) (by omega)]
 by_cases h:(1048576:Int)-(l.length:Int)<0
 ·exact ⟨-1,Ev.yes h (Ev.some _),.inl (by omega)⟩
 ·obtain ⟨n,hn⟩:=Int.eq_ofNat_of_zero_le (show 0≤(1048576:Int)-(l.length:Int) by omega)
  obtain ⟨r,hr,hx⟩:=szClaimS_l0 (l:=l) (by omega) hb l [] n rfl (by omega)
  refine ⟨r,Ev.no h ?_,?_⟩
  ·rw [hn];exact hr
  ·rcases hx with hx|hx
   ·exact .inl hx
   ·exact .inr ⟨by omega,hx⟩
theorem toClaimS_l0 {l:List S38} (hl:l.length≤1048576) (hb : ∀ y∈l,y.f1.length≤1048576) : ∀ (suf pre:List S38),l=pre++suf →
  Ev (fun k=>laws_toClaimS.l0 k l (convC pre++List.replicate suf.length z42) ((pre.length:Nat):Int)) (convC l):=by
 intro suf
 induction suf with
 | nil =>
  intro pre he
  have hle:l.length=pre.length:=by rw [he];simp
  refine Ev.step (fun k=>by simp only [laws_toClaimS.l0];rfl) (Ev.no (by omega) (Ev.cast (Ev.some _) ?_))
  rw [he];simp
 | cons c t ih =>
  intro pre he
  have hle:l.length=pre.length+(t.length+1):=by rw [he];simp
  have hc:rd_T38 l ((pre.length:Nat):Int)=c:=by rw [he];exact rdLC_at pre c t
  have hcb:=hb c (by rw [he];simp)
  refine Ev.step (fun k=>by simp only [laws_toClaimS.l0];rfl) ?_
  rw [hc,w64 (by omega) (by omega),show (((pre.length:Nat):Int)+1)=(((pre++[c]).length:Nat):Int) by simp]
  refine Ev.yes (by omega) (Ev.yes (by omega) (Ev.bind (toClaim_ev c.f0 c.f1 hcb) (Ev.yes ?_ ?_)))
  ·rw [List.length_append,convC_length,List.length_replicate,List.length_cons];omega
  ·have e:(convC pre++List.replicate (c :: t).length z42).set ((pre.length:Nat):Int).toNat ⟨c.f0,conv c.f1⟩=convC (pre++[c])++List.replicate t.length z42:=by
    have e1:(convC pre++List.replicate (c :: t).length z42)=convC pre++z42 :: List.replicate t.length z42:=by simp [List.replicate_succ]
    rw [e1,Int.toNat_natCast, ←convC_length pre,List.set_append_right _ _ (Nat.le_refl _),Nat.sub_self,sZ]
    simp [convC]
   rw [e]
   exact ih (pre++[c]) (by rw [he];simp)
theorem toClaimS_ev (l:List S38) (hl:l.length≤1048576) (hb : ∀ y∈l,y.f1.length≤1048576):Ev (fun k=>laws_toClaimS.f k l) (convC l):=by
 unfold laws_toClaimS.f
 refine Ev.yes (by omega) (Ev.yes (by omega) ?_)
 rw [Int.toNat_natCast]
 exact toClaimS_l0 hl hb l [] rfl
theorem eqClaimS_l0 {l:List C} (hl:l.length≤4611686018427387904) (hb : ∀ c∈l,c.f1.length≤4611686018427387904) : ∀ (suf pre:List C),l=pre++suf→Ev (fun k=>laws_eqClaimS.l0 k l l ((pre.length:Nat):Int)) true:=by
 intro suf
 induction suf with
 | nil =>
  intro pre he
  have hle:l.length=pre.length:=by rw [he];simp
  exact Ev.step (fun k=>by simp only [laws_eqClaimS.l0];rfl) (Ev.no (by omega) (Ev.some _))
 | cons c t ih =>
  intro pre he
  have hle:l.length=pre.length+(t.length+1):=by rw [he];simp
  have hc:rd_T42 l ((pre.length:Nat):Int)=c:=by rw [he];exact rdC_at pre c t
  refine Ev.step (fun k=>by simp only [laws_eqClaimS.l0];rfl) ?_
  rw [hc,w64 (by omega) (by omega),show (((pre.length:Nat):Int)+1)=(((pre++[c]).length:Nat):Int) by simp]
  exact Ev.yes (by omega) (Ev.yes (by omega) (Ev.yes (by omega) (Ev.bind (eqClaim_ev c.f0 c.f1 (hb c (by rw [he];simp))) (Ev.yes rfl (ih (pre++[c]) (by rw [he];simp))))))
theorem eqClaimS_ev (l:List C) (hl:l.length≤4611686018427387904) (hb : ∀ c∈l,c.f1.length≤4611686018427387904):Ev (fun k=>laws_eqClaimS.f k l l) true:=by
 unfold laws_eqClaimS.f
 exact Ev.yes rfl (eqClaimS_l0 hl hb l [] rfl)
theorem convC_fit {l:List S38} (hw : ∀ y∈l,wf38 y) (hb : ∀ y∈l,y.f1.length≤1048576):Fit (convC l):=by
 intro c hc
 obtain ⟨y,hy,rfl⟩:=List.mem_map.1 hc
 exact ⟨by show (conv y.f1).length≤_;rw [conv_length];have:=hb y hy;omega,conv_wf (hw y hy).2⟩
theorem convC_len {l:List S38} (hb : ∀ y∈l,y.f1.length≤1048576) : ∀ c∈convC l,c.f1.length≤4611686018427387904:=by
 intro c hc
 obtain ⟨y,hy,rfl⟩:=List.mem_map.1 hc
 show (conv y.f1).length≤_
 rw [conv_length]
 have:=hb y hy
 omega
theorem markMarkS_far : ∀ (suf pre:List M) (n:Int),pre.length+suf.length≤2000000→0≤n→n≤1000000000000000000-2*suf.length →
  Ev (fun k=>laws_markMarkS.l0 k (pre++suf) n ((pre.length:Nat):Int)) (n+2*suf.length,pre++mkd suf.length n):=by
 intro suf
 induction suf with
 | nil =>
  intro pre n hl h0 h1
  refine Ev.step (fun k=>by simp only [laws_markMarkS.l0];rfl) ?_
  exact Ev.no (by simp) (Ev.cast (Ev.some _) (by simp [mkd]))
 | cons m t ih =>
  intro pre n hl h0 h1
  simp only [List.length_cons] at hl h1
  have hnext:wrap64 (((pre.length:Nat):Int)+1)=(((pre++[(⟨n,n+1⟩:M)]).length:Nat):Int):=by rw [w64 (by omega) (by omega)];simp
  refine Ev.step (fun k=>by simp only [laws_markMarkS.l0];rfl) ?_
  refine Ev.yes (by simp;omega) (Ev.yes (by omega) ?_)
  have hw:wrap64 (n+1)=n+1:=w64 (by omega) (by omega)
  have hw2:wrap64 (n+1+1)=n+1+1:=w64 (by omega) (by omega)
  have e1:(pre++m :: t).set ((pre.length:Nat):Int).toNat (⟨n,(rd_T59 (pre++m :: t) ((pre.length:Nat):Int)).f1⟩:M)=pre++⟨n,m.f1⟩ :: t:=by rw [rdM_at];simp
  have e2:(pre++(⟨n,m.f1⟩:M) :: t).set ((pre.length:Nat):Int).toNat (⟨(rd_T59 (pre++(⟨n,m.f1⟩:M) :: t) ((pre.length:Nat):Int)).f0,n+1⟩:M)=(pre++[⟨n,n+1⟩])++t:=by rw [rdM_at];simp
  simp only [Option.bind_some,hw,hw2,e1,e2,hnext]
  refine Ev.cast (ih (pre++[⟨n,n+1⟩]) (n+1+1) (by simp;omega) (by omega) (by omega)) ?_
  simp [mkd]
  omega
theorem markMarkS_at (l:List M) (n:Int) (hl:l.length≤2000000) (h0:0≤n) (h1:n≤100000000000000000):Ev (fun k=>laws_markMarkS.f k l n) (n+2*(l.length:Int),mkd l.length n):=by
 have:=markMarkS_far l [] n (by simpa using hl) h0 (by omega)
 unfold laws_markMarkS.f
 simpa using this
/-- Claims of so many marks with numbers one behind the other, and the number behind them. -/
def mkC:List Nat→Int→List C
 | [],_=>[]
 | d :: t,n=>⟨n,mkd d (n+1)⟩ :: mkC t (n+1+2*(d:Int))
def mkN:List Nat→Int→Int
 | [],n=>n
 | d :: t,n=>mkN t (n+1+2*(d:Int))
theorem mkN_ge : ∀ (ds:List Nat) (n:Int),n≤mkN ds n
 | [],_=>Int.le_refl _
 | d :: t,n=>by rw [mkN];have:=mkN_ge t (n+1+2*(d:Int));omega
def lens (l:List C):List Nat:=l.map fun c=>c.f1.length
theorem markClaimS_l0 : ∀ (suf pre:List C) (n:Int),pre.length+suf.length≤1100000→(∀ c∈suf,c.f1.length≤1048576)→0≤n→n≤10000000000000-3000000*suf.length →
  Ev (fun k=>laws_markClaimS.l0 k (pre++suf) n ((pre.length:Nat):Int)) (mkN (lens suf) n,pre++mkC (lens suf) n):=by
 intro suf
 induction suf with
 | nil =>
  intro pre n hl hc h0 h1
  refine Ev.step (fun k=>by simp only [laws_markClaimS.l0];rfl) ?_
  exact Ev.no (by simp) (Ev.cast (Ev.some _) (by simp [lens,mkC,mkN]))
 | cons c t ih =>
  intro pre n hl hc h0 h1
  simp only [List.length_cons] at hl h1
  have hcl:=hc c List.mem_cons_self
  have hx:rd_T42 (pre++c :: t) ((pre.length:Nat):Int)=c:=rdC_at pre c t
  refine Ev.step (fun k=>by simp only [laws_markClaimS.l0];rfl) ?_
  rw [hx,w64 (x:=n+1) (by omega) (by omega),w64 (by omega) (by omega)]
  refine Ev.yes (by simp;omega) (Ev.yes (by omega) (Ev.bind (markMarkS_at c.f1 (n+1) (by omega) (by omega) (by omega)) ?_))
  have e:(pre++c :: t).set ((pre.length:Nat):Int).toNat (⟨n,mkd c.f1.length (n+1)⟩:C)=pre++[⟨n,mkd c.f1.length (n+1)⟩]++t:=by simp
  have e2:(((pre.length:Nat):Int)+1)=(((pre++[(⟨n,mkd c.f1.length (n+1)⟩:C)]).length:Nat):Int):=by simp
  simp only [e,e2]
  refine Ev.cast (ih (pre++[⟨n,mkd c.f1.length (n+1)⟩]) (n+1+2*(c.f1.length:Int)) (by simp;omega) (fun y hy=>hc y (List.mem_cons_of_mem _ hy)) (by omega) (by omega)) ?_
  simp [lens,mkC,mkN]
theorem markClaimS_p (l:List C) (hl:l.length≤1048576) (hc : ∀ c∈l,c.f1.length≤1048576):Ev (fun k=>laws_markClaimS.p k l 1) (mkN (lens l) 1,mkC (lens l) 1):=by
 have:=markClaimS_l0 l [] 1 (by simp;omega) hc (by omega) (by omega)
 unfold laws_markClaimS.p
 simpa using this
theorem markClaimS_ev (l:List C) (hl:l.length≤1048576) (hc : ∀ c∈l,c.f1.length≤1048576):Ev (fun k=>laws_markClaimS.f k l 1) (mkN (lens l) 1):=by
 unfold laws_markClaimS.f
 exact Ev.bind (markClaimS_p l hl hc) (Ev.some _)
theorem convC_len' {l:List S38} (hb : ∀ y∈l,y.f1.length≤1048576) : ∀ c∈convC l,c.f1.length≤1048576:=by
 intro c hc
 obtain ⟨y,hy,rfl⟩:=List.mem_map.1 hc
 show (conv y.f1).length≤_
 rw [conv_length]
 exact hb y hy
end Go.Proofs.Ytbhjeiphmnanoaa.L
