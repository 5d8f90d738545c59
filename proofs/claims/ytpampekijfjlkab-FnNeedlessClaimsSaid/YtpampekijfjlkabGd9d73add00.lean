/- Joined by a program of this session's: X135, LDC. -/
import Derived.Test.YtpampekijfjlkabG22d322e51c
import Derived.Test.YtpampekijfjlkabGed8af054f1
import Derived.Test.YtpampekijfjlkabG72f6b3ff66
import Derived.Test.YtpampekijfjlkabG9e0bf827be
import Derived.Test.YtpampekijfjlkabGb159fed61f

namespace Go.Proofs.Ytpampekijfjlkab.X
open Go.RowKit Go.Proofs.YtpampekijfjlkabW.PrintWords Go.Proofs.YtpampekijfjlkabW.PrintLast Go.Proofs.YtpampekijfjlkabW.PrintMore
open Go.Proofs.YtpampekijfjlkabW.PrintWords renaming Aside0.mk → mA, pw_below_drewN → bN, below_drew1 → bD, below_alloc → bA, below_size → bZ, below_step → bT, Kd.R_alloc → rA, Kd.R_drewN → rN, Kd.R_drew → rD, Kd.R_mono → rM, Kd.R_reads' → rR, Kd.R_lt → rL, Kd.R_below → rB, Kd.N_alloc → nA, Kd.N_drewN → nN, Kd.N_drew → nD, Kd.C_alloc → cA, Kd.C_drewN → cN, Kd.C_drew → cD
open List renaming setIfInBounds_toArray → sA, set_cons_zero → sZ, set_cons_succ → sS, length_take → lT, length_drop → lD, map_toArray → mT, map_cons → mC, map_nil → mN
open Bool renaming true → I, false → O
attribute [local go_sem] max2_int min2_int max_two min_two max_three min_three max_four min_four   -- for this text's walks alone
set_option linter.unusedVariables false
set_option linter.unusedSimpArgs false
/-! ### laws_FnNeedlessClaims: function 18 -/
mutual
def laws_FnNeedlessClaims.l0:Nat→Int→List (S36)→List Int→Int→Option (Bool)
 | 0,_,_,_,_=>none
 | k+1,x3,x4,x5,x6=>if x6<(x4.length:Int) then ((some (([]:List (S36)):List (S36))).bind fun y114=>(if 0≤x6 then (if x6≤(x4.length:Int) then ((some (x4.take (x6:Int).toNat:List (S36))).bind fun y117=>(if y114.length+y117.length<4398046511104 then ((some (y114++y117:List (S36))).bind fun y122=>(if 0≤(wrap64 (x6+1)) then (if (wrap64 (x6+1))≤(x4.length:Int) then ((some (x4.drop ((wrap64 (x6+1)):Int).toNat:List (S36))).bind fun y125=>(if y122.length+y125.length<4398046511104 then ((impl_StoryTable.f k x3 (y122++y125)).bind fun t133=>((impl_StoryTable.f k x3 x4).bind fun t134=>((laws_hasInt.f k x5 x6).bind fun t135=>(if ((t133==t134) != t135)=true then (some false) else (laws_FnNeedlessClaims.l0 k x3 x4 x5 (wrap64 (x6+1))))))) else (none))) else (none)) else (none))) else (none))) else (none)) else (none))) else (if (x4.length:Int)=0 then (laws_FnNeedlessClaims.j1 k x3 x4 x5 true) else (laws_FnNeedlessClaims.j1 k x3 x4 x5 (decide ((x4.length:Int)≥6))))
def laws_FnNeedlessClaims.j1:Nat→Int→List (S36)→List Int→Bool→Option (Bool)
 | 0,_,_,_,_=>none
 | k+1,x3,x4,x5,x71=>if x71=true then ((laws_ascend.f k x5).bind fun t136=>(if t136=true then ((laws_alive.f).bind fun t137=>(some t137)) else (some false))) else ((some (([]:List (S36)):List (S36))).bind fun y138=>(if y138.length+x4.length<4398046511104 then ((some (y138++x4:List (S36))).bind fun y141=>(if 0<(x4.length:Int) then ((some (([(⟨(rd_T36 x4 0).f0,(rd_T36 x4 0).f1⟩:S36)]:List (S36)):List (S36))).bind fun y145=>(if y141.length+y145.length<4398046511104 then ((impl_NeedlessClaims.f k x3 (y141++y145)).bind fun t151=>((laws_ascend.f k x5).bind fun t154=>(if t154=true then ((laws_hasInt.f k t151 0).bind fun t155=>(if t155=true then ((laws_hasInt.f k t151 (x4.length:Int)).bind fun t156=>(some t156)) else (some false))) else (some false)))) else (none))) else (none))) else (none)))
end
def laws_FnNeedlessClaims.f (k:Nat) (l0:List Int):Option (Bool):=if (l0.length:Int)>1048576 then (some true) else ((spec_DrawNeedlessClaims.f k l0).bind fun bt101=>((impl_NeedlessClaims.f k bt101.1 bt101.2).bind fun t105=>((spec_NeedlessClaims.f k bt101.1 bt101.2).bind fun t108=>((laws_sameInts.f k t105 t108).bind fun t111=>(if t111=true then ((spec_StoryOk.f k bt101.1 bt101.2).bind fun t112=>(if t112=true then (laws_FnNeedlessClaims.l0 k bt101.1 bt101.2 t105 0) else (if (t105.length:Int)=0 then ((laws_alive.f).bind fun t113=>(some t113)) else (some false)))) else (some false))))))
theorem laws_FnNeedlessClaims.mono_l : ∀ k,(∀ y0 y1 y2 y3,LeO (laws_FnNeedlessClaims.l0 k y0 y1 y2 y3) (laws_FnNeedlessClaims.l0 (k+1) y0 y1 y2 y3))∧(∀ y0 y1 y2 y3,LeO (laws_FnNeedlessClaims.j1 k y0 y1 y2 y3) (laws_FnNeedlessClaims.j1 (k+1) y0 y1 y2 y3))
 | 0=>⟨fun _ _ _ _ r h=>by simp [laws_FnNeedlessClaims.l0] at h,fun _ _ _ _ r h=>by simp [laws_FnNeedlessClaims.j1] at h⟩
 | k+1=>by
  obtain ⟨ih0,ih1⟩:=laws_FnNeedlessClaims.mono_l k
  refine ⟨?_,?_⟩
  ·intro y0 y1 y2 y3
   unfold laws_FnNeedlessClaims.l0
   repeat' first
   | (with_reducible exact ih0 _ _ _ _)
   | (with_reducible exact ih1 _ _ _ _)
   | (with_reducible exact impl_NeedlessClaims.mono _ _ _)
   | (with_reducible exact impl_StoryTable.mono _ _ _)
   | (with_reducible exact laws_ascend.mono _ _)
   | (with_reducible exact laws_hasInt.mono _ _ _)
   | (with_reducible exact laws_sameInts.mono _ _ _)
   | (with_reducible exact spec_DrawNeedlessClaims.mono _ _)
   | (with_reducible exact spec_NeedlessClaims.mono _ _ _)
   | (with_reducible exact spec_StoryOk.mono _ _ _)
   | (with_reducible exact LeO.refl _)
   | (with_reducible exact LeO.none _)
   | (with_reducible refine LeO.ite ?_ ?_)
   | (with_reducible refine LeO.bind ?_ (fun _=>?_))
   | exact ih0 _ _ _ _
   | exact ih1 _ _ _ _
   | exact impl_NeedlessClaims.mono _ _ _
   | exact impl_StoryTable.mono _ _ _
   | exact laws_ascend.mono _ _
   | exact laws_hasInt.mono _ _ _
   | exact laws_sameInts.mono _ _ _
   | exact spec_DrawNeedlessClaims.mono _ _
   | exact spec_NeedlessClaims.mono _ _ _
   | exact spec_StoryOk.mono _ _ _
   | exact LeO.none _
   | refine LeO.ite ?_ ?_
   | refine LeO.bind ?_ (fun _=>?_)
  ·intro y0 y1 y2 y3
   unfold laws_FnNeedlessClaims.j1
   repeat' first
   | (with_reducible exact ih0 _ _ _ _)
   | (with_reducible exact ih1 _ _ _ _)
   | (with_reducible exact impl_NeedlessClaims.mono _ _ _)
   | (with_reducible exact impl_StoryTable.mono _ _ _)
   | (with_reducible exact laws_ascend.mono _ _)
   | (with_reducible exact laws_hasInt.mono _ _ _)
   | (with_reducible exact laws_sameInts.mono _ _ _)
   | (with_reducible exact spec_DrawNeedlessClaims.mono _ _)
   | (with_reducible exact spec_NeedlessClaims.mono _ _ _)
   | (with_reducible exact spec_StoryOk.mono _ _ _)
   | (with_reducible exact LeO.refl _)
   | (with_reducible exact LeO.none _)
   | (with_reducible refine LeO.ite ?_ ?_)
   | (with_reducible refine LeO.bind ?_ (fun _=>?_))
   | exact ih0 _ _ _ _
   | exact ih1 _ _ _ _
   | exact impl_NeedlessClaims.mono _ _ _
   | exact impl_StoryTable.mono _ _ _
   | exact laws_ascend.mono _ _
   | exact laws_hasInt.mono _ _ _
   | exact laws_sameInts.mono _ _ _
   | exact spec_DrawNeedlessClaims.mono _ _
   | exact spec_NeedlessClaims.mono _ _ _
   | exact spec_StoryOk.mono _ _ _
   | exact LeO.none _
   | refine LeO.ite ?_ ?_
   | refine LeO.bind ?_ (fun _=>?_)
theorem laws_FnNeedlessClaims.mono : ∀ a0 k,LeO (laws_FnNeedlessClaims.f k a0) (laws_FnNeedlessClaims.f (k+1) a0):=by
 intro a0 k
 obtain ⟨ih0,ih1⟩:=laws_FnNeedlessClaims.mono_l k
 unfold laws_FnNeedlessClaims.f
 repeat' first
   | (with_reducible exact ih0 _ _ _ _)
   | (with_reducible exact ih1 _ _ _ _)
   | (with_reducible exact impl_NeedlessClaims.mono _ _ _)
   | (with_reducible exact impl_StoryTable.mono _ _ _)
   | (with_reducible exact laws_ascend.mono _ _)
   | (with_reducible exact laws_hasInt.mono _ _ _)
   | (with_reducible exact laws_sameInts.mono _ _ _)
   | (with_reducible exact spec_DrawNeedlessClaims.mono _ _)
   | (with_reducible exact spec_NeedlessClaims.mono _ _ _)
   | (with_reducible exact spec_StoryOk.mono _ _ _)
   | (with_reducible exact LeO.refl _)
   | (with_reducible exact LeO.none _)
   | (with_reducible refine LeO.ite ?_ ?_)
   | (with_reducible refine LeO.bind ?_ (fun _=>?_))
   | exact ih0 _ _ _ _
   | exact ih1 _ _ _ _
   | exact impl_NeedlessClaims.mono _ _ _
   | exact impl_StoryTable.mono _ _ _
   | exact laws_ascend.mono _ _
   | exact laws_hasInt.mono _ _ _
   | exact laws_sameInts.mono _ _ _
   | exact spec_DrawNeedlessClaims.mono _ _
   | exact spec_NeedlessClaims.mono _ _ _
   | exact spec_StoryOk.mono _ _ _
   | exact LeO.none _
   | refine LeO.ite ?_ ?_
   | refine LeO.bind ?_ (fun _=>?_)
def laws_FnNeedlessClaims.T18:Bool×List (List Nat×List Nat):=(true,[([],[]),([],[]),([],[]),([1,2],[1,2]),([],[]),([4],[4]),([5],[5]),([6],[6]),([3,7,3],[3,7]),([0,8,8],[0,8]),([9,9,0,1,2,3,4,5,6,7,8,9],[9])])
def laws_FnNeedlessClaims.B18:List Nat:=[0,0,0,6,0,16,48,112,254,511,1023]
theorem laws_FnNeedlessClaims.tab18:rtab .any (opsOf Try.f18 18)=laws_FnNeedlessClaims.T18:=by kernel_rfl
theorem laws_FnNeedlessClaims.bits18:waitsOk laws_FnNeedlessClaims.T18.2 laws_FnNeedlessClaims.B18=true:=by kernel_rfl
set_option maxHeartbeats 8000000 in
set_option maxRecDepth 100000 in
theorem laws_FnNeedlessClaims.calls (k:Nat) (A0:Option Addr) (c0:Nat) (l0:List Int) (r:Bool) (w:World) (hr0:Kd.C (Kd.int .u8) w A0 l0.length l0) (hc0:l0.length≤c0) (hr_:Aside0 (r=true)) (h:laws_FnNeedlessClaims.f k l0=some r) :
  Calls Try.prog 18 #[.slice A0 l0.length c0] w fun e w'=>e = .returned (.bool r)∧Below w.heap.size w w':=by
 have hu36:=Try.underlying36
 have HR0:=mA hr0
 have HC0:=mA hc0
 clear hr0 hc0
 have HB:=mA (Below.refl w.heap.size w)
 have H:(if (l0.length:Int)>1048576 then (some true) else ((spec_DrawNeedlessClaims.f k l0).bind fun bt101=>((impl_NeedlessClaims.f k bt101.1 bt101.2).bind fun t105=>((spec_NeedlessClaims.f k bt101.1 bt101.2).bind fun t108=>((laws_sameInts.f k t105 t108).bind fun t111=>(if t111=true then ((spec_StoryOk.f k bt101.1 bt101.2).bind fun t112=>(if t112=true then (laws_FnNeedlessClaims.l0 k bt101.1 bt101.2 t105 0) else (if (t105.length:Int)=0 then ((laws_alive.f).bind fun t113=>(some t113)) else (some false)))) else (some false)))))))=some r:=h
 clear h
 by_cases c2:(l0.length:Int)>1048576
 ·rw [if_pos c2] at H
  have c2b0:decide (1048576<(l0.length:Int))=true:=decide_eq_true c2
  have c2b1:decide (1048576<l0.length)=true:=decide_eq_true (by omega)
  clear c2
  obtain rfl:=Option.some.inj H
  go_enter Try.func18,Try.ntmps18
  go_wp2
  go_ret
  exact ⟨by first|rfl|(simp [errW_none,errW_some]<;>rfl)|(simp [*, errW_none,errW_some]<;>rfl),by repeat (first|(with_reducible first|exact HB.out|apply bA|apply bN|apply bD)|exact HB.out)⟩
 ·rw [if_neg c2] at H
  have c2b0:decide (1048576<(l0.length:Int))=false:=decide_eq_false c2
  have c2b1:decide (1048576<l0.length)=false:=decide_eq_false (by omega)
  clear c2
  replace H:=Option.bind_eq_some_iff.mp H
  obtain ⟨⟨t101,t102⟩,A30,H⟩:=H
  replace H:((impl_NeedlessClaims.f k t101 t102).bind fun t105=>((spec_NeedlessClaims.f k t101 t102).bind fun t108=>((laws_sameInts.f k t105 t108).bind fun t111=>(if t111=true then ((spec_StoryOk.f k t101 t102).bind fun t112=>(if t112=true then (laws_FnNeedlessClaims.l0 k t101 t102 t105 0) else (if (t105.length:Int)=0 then ((laws_alive.f).bind fun t113=>(some t113)) else (some false)))) else (some false)))))=some r:=H
  have A3:=mA A30
  clear A30
  replace H:=Option.bind_eq_some_iff.mp H
  obtain ⟨t105,A40,H⟩:=H
  replace H:((spec_NeedlessClaims.f k t101 t102).bind fun t108=>((laws_sameInts.f k t105 t108).bind fun t111=>(if t111=true then ((spec_StoryOk.f k t101 t102).bind fun t112=>(if t112=true then (laws_FnNeedlessClaims.l0 k t101 t102 t105 0) else (if (t105.length:Int)=0 then ((laws_alive.f).bind fun t113=>(some t113)) else (some false)))) else (some false))))=some r:=H
  have A4:=mA A40
  clear A40
  replace H:=Option.bind_eq_some_iff.mp H
  obtain ⟨t108,A50,H⟩:=H
  replace H:((laws_sameInts.f k t105 t108).bind fun t111=>(if t111=true then ((spec_StoryOk.f k t101 t102).bind fun t112=>(if t112=true then (laws_FnNeedlessClaims.l0 k t101 t102 t105 0) else (if (t105.length:Int)=0 then ((laws_alive.f).bind fun t113=>(some t113)) else (some false)))) else (some false)))=some r:=H
  have A5:=mA A50
  clear A50
  replace H:=Option.bind_eq_some_iff.mp H
  obtain ⟨t111,A60,H⟩:=H
  replace H:(if t111=true then ((spec_StoryOk.f k t101 t102).bind fun t112=>(if t112=true then (laws_FnNeedlessClaims.l0 k t101 t102 t105 0) else (if (t105.length:Int)=0 then ((laws_alive.f).bind fun t113=>(some t113)) else (some false)))) else (some false))=some r:=H
  have A6:=mA A60
  clear A60
  by_cases c7:t111=true
  ·subst c7
   have H1:((spec_StoryOk.f k t101 t102).bind fun t112=>(if t112=true then (laws_FnNeedlessClaims.l0 k t101 t102 t105 0) else (if (t105.length:Int)=0 then ((laws_alive.f).bind fun t113=>(some t113)) else (some false))))=some r:=by rw [if_pos rfl] at H;exact H
   clear H
   have H:=H1
   clear H1
   replace H:=Option.bind_eq_some_iff.mp H
   obtain ⟨t112,A80,H⟩:=H
   replace H:(if t112=true then (laws_FnNeedlessClaims.l0 k t101 t102 t105 0) else (if (t105.length:Int)=0 then ((laws_alive.f).bind fun t113=>(some t113)) else (some false)))=some r:=H
   have A8:=mA A80
   clear A80
   by_cases c9:t112=true
   ·subst c9
    have H1:(laws_FnNeedlessClaims.l0 k t101 t102 t105 0)=some r:=by rw [if_pos rfl] at H;exact H
    clear H
    have H:=H1
    clear H1
    have H':=mA H
    clear H
    go_enter Try.func18,Try.ntmps18
    go_wp2_with (first|((with_reducible refine gate_callee (f:=84) rfl ?_);refine goesL_ (some 14) rfl rfl Try.func84 (by kernel_rfl) rfl #[.slice A0 l0.length c0] rfl (by (try simp only [mT,mC,mN]);first|done|rfl|(simp only [lD,lT];rfl)) ?_;(with_reducible refine (spec_DrawNeedlessClaims.calls k _ _ l0 t101 t102 _ ?side1 ?side2 A3.out).mono ?_);(case side1=>repeat (first|exact HR0.out|(with_reducible refine cA ?_ _)|(with_reducible refine cN ?_ _)|(with_reducible refine cD ?_)));(case side2=>exact HC0.out);rintro e w10 ⟨v103,rfl,ho0,hb⟩;refine ⟨_,rfl,?_⟩;have n0_:=mA (Kd.N_lower (Kd.N_mono (ok':=fun k_=>True) (Kd.S_N (Kd.S_bound ho0)) (fun k_ hk_=>trivial)) (bZ (by repeat (first|(with_reducible first|exact HB.out|apply bA|apply bN|apply bD)|exact HB.out))));have n1_:=mA (bT (by repeat (first|(with_reducible first|exact HB.out|apply bA|apply bN|apply bD)|exact HB.out)) hb);clear HB;have HO104:=n0_;have HB:=n1_;clear n0_ n1_;(try clear hb);(try clear hb2);(try clear hk);(try clear hi);(try clear ho0);obtain ⟨Ao11,co11,eo11⟩:=Kd.N_slice HO104.out;subst eo11)|((with_reducible refine gate_callee (f:=85) rfl ?_);refine goesL_ (some 19) rfl rfl Try.func85 (by kernel_rfl) rfl #[.int .i64 t101,.slice Ao11 t102.length co11] rfl (by (try simp only [mT,mC,mN]);first|done|rfl|(simp only [lD,lT];rfl)) ?_;(with_reducible refine (impl_NeedlessClaims.calls k t101 _ _ t102 t105 _ ?side1 ?side2 A4.out).mono ?_);(case side1=>repeat (first|exact (Kd.N_reads' HO104.out).2.2|(with_reducible refine cA ?_ _)|(with_reducible refine cN ?_ _)|(with_reducible refine cD ?_)));(case side2=>exact (Kd.N_reads' HO104.out).2.1);rintro e w12 ⟨v106,rfl,ho0,hb⟩;refine ⟨_,rfl,?_⟩;have n0_:=mA (Kd.N_elder' (by (with_reducible repeat (first|apply nA|apply nN|apply nD));exact HO104.out) (Kd.R_base ho0) hb);have n1_:=mA (Kd.R_lower ho0 (bZ (by repeat (first|(with_reducible first|exact HB.out|apply bA|apply bN|apply bD)|exact HB.out))));have n2_:=mA (bT (by repeat (first|(with_reducible first|exact HB.out|apply bA|apply bN|apply bD)|exact HB.out)) hb);clear HO104 HB;have HO104:=n0_;have HO107:=n1_;have HB:=n2_;clear n0_ n1_ n2_;(try clear hb);(try clear hb2);(try clear hk);(try clear hi);(try clear ho0))|((with_reducible refine gate_callee (f:=87) rfl ?_);refine goesL_ (some 23) rfl rfl Try.func87 (by kernel_rfl) rfl #[.int .i64 t101,.slice Ao11 t102.length co11] rfl (by (try simp only [mT,mC,mN]);first|done|rfl|(simp only [lD,lT];rfl)) ?_;(with_reducible refine (spec_NeedlessClaims.calls k t101 _ _ t102 t108 _ ?side1 ?side2 A5.out).mono ?_);(case side1=>repeat (first|exact (Kd.N_reads' HO104.out).2.2|(with_reducible refine cA ?_ _)|(with_reducible refine cN ?_ _)|(with_reducible refine cD ?_)));(case side2=>exact (Kd.N_reads' HO104.out).2.1);rintro e w13 ⟨v109,rfl,ho0,hb⟩;refine ⟨_,rfl,?_⟩;have n0_:=mA (Kd.N_elder' (by (with_reducible repeat (first|apply nA|apply nN|apply nD));exact HO104.out) (Kd.R_base ho0) hb);have n1_:=mA (Kd.R_elder' (by (with_reducible repeat (first|apply rA|apply rN|apply rD));exact HO107.out) (Kd.R_base ho0) hb);have n2_:=mA (Kd.R_lower (Kd.R_new' ho0 (rL (by (with_reducible repeat (first|apply rA|apply rN|apply rD));exact HO107.out))) (bZ (by repeat (first|(with_reducible first|exact HB.out|apply bA|apply bN|apply bD)|exact HB.out))));have n3_:=mA (bT (by repeat (first|(with_reducible first|exact HB.out|apply bA|apply bN|apply bD)|exact HB.out)) hb);clear HO104 HO107 HB;have HO104:=n0_;have HO107:=n1_;have HO110:=n2_;have HB:=n3_;clear n0_ n1_ n2_ n3_;(try clear hb);(try clear hb2);(try clear hk);(try clear hi);(try clear ho0);obtain ⟨Ao14,co14,eo14⟩:=Kd.R_slice HO107.out;subst eo14;obtain ⟨Ao15,co15,eo15⟩:=Kd.R_slice HO110.out;subst eo15)|((with_reducible refine gate_callee (f:=86) rfl ?_);refine goesL_ (some 24) rfl rfl Try.func86 (by kernel_rfl) rfl #[.slice Ao14 t105.length co14,.slice Ao15 t108.length co15] rfl (by (try simp only [mT,mC,mN]);first|done|rfl|(simp only [lD,lT];rfl)) ?_;(with_reducible refine (laws_sameInts.calls k _ _ t105 _ _ t108 true _ ?side1 ?side2 ?side3 ?side4 A6.out).mono ?_);(case side1=>repeat (first|exact (rR HO107.out).2.2|(with_reducible refine cA ?_ _)|(with_reducible refine cN ?_ _)|(with_reducible refine cD ?_)));(case side2=>exact (rR HO107.out).2.1);(case side3=>repeat (first|exact (rR HO110.out).2.2|(with_reducible refine cA ?_ _)|(with_reducible refine cN ?_ _)|(with_reducible refine cD ?_)));(case side4=>exact (rR HO110.out).2.1);rintro e w' ⟨rfl,⟨nd,rfl⟩⟩;refine ⟨_,rfl,?_⟩)|((with_reducible refine gate_callee (f:=25) rfl ?_);refine goesL_ (some 28) rfl rfl Try.func25 (by kernel_rfl) rfl #[.int .i64 t101,.slice Ao11 t102.length co11] rfl (by (try simp only [mT,mC,mN]);first|done|rfl|(simp only [lD,lT];rfl)) ?_;(with_reducible refine (spec_StoryOk.calls k t101 _ _ t102 true _ ?side1 ?side2 A8.out).mono ?_);(case side1=>repeat (first|exact (Kd.N_reads' HO104.out).2.2|(with_reducible refine cA ?_ _)|(with_reducible refine cN ?_ _)|(with_reducible refine cD ?_)));(case side2=>exact (Kd.N_reads' HO104.out).2.1);rintro e w16 ⟨rfl,hb⟩;refine ⟨_,rfl,?_⟩;have n0_:=mA (Kd.N_below (by (with_reducible repeat (first|apply nA|apply nN|apply nD));exact HO104.out) hb);have n1_:=mA (rB (by (with_reducible repeat (first|apply rA|apply rN|apply rD));exact HO107.out) hb);have n2_:=mA (rB (by (with_reducible repeat (first|apply rA|apply rN|apply rD));exact HO110.out) hb);have n3_:=mA (bT (by repeat (first|(with_reducible first|exact HB.out|apply bA|apply bN|apply bD)|exact HB.out)) hb);clear HO104 HO107 HO110 HB;have HO104:=n0_;have HO107:=n1_;have HO110:=n2_;have HB:=n3_;clear n0_ n1_ n2_ n3_;(try clear hb);(try clear hb2);(try clear hk);(try clear hi)))
    go_loopg [6] k (fun kq v6 w'=>∃ (x6_1:Int),v6 = .int .i64 x6_1∧Aside0 (laws_FnNeedlessClaims.l0 kq t101 t102 t105 x6_1=some r)∧Aside0 (kq≤k)∧Aside0 (Kd.N k36 36 w' w.heap.size (fun k_=>some k_≠((.slice Ao14 t105.length co14):Value).ownBlock) (.slice Ao11 t102.length co11) t102)∧Aside0 (Kd.R (Kd.int .i64) 3 w' w.heap.size (fun _=>True) (.slice Ao14 t105.length co14) t105)∧Aside0 (Below w.heap.size w w'))
    case atStart=>exact ⟨(0),(by first|rfl|(simp;done)|(simp [*];done)),H',⟨Nat.le_refl _⟩,⟨by (with_reducible repeat (first|apply nA|apply nN|apply nD));exact Kd.N_mono HO104.out (fun _ hk=>hk.1.2)⟩,⟨by (with_reducible repeat (first|apply rA|apply rN|apply rD));exact rM HO107.out (fun _ hk=>trivial)⟩,⟨by repeat (first|(with_reducible first|exact HB.out|apply bA|apply bN|apply bD)|exact HB.out)⟩⟩
    case round =>
     clear H'
     try clear c1
     try clear c2
     try clear c2b0
     try clear c2b1
     try clear p2
     try clear c7
     try clear c8
     try clear c9
     obtain ⟨x6_1,rfl,HA,HK1,HO_4,HO_5,HB⟩:=hrel
     cases gk with
     | zero=>exact absurd HA.out (by simp [laws_FnNeedlessClaims.l0])
     | succ k1 =>
      have H:=HA.out
      clear HA
      simp only [laws_FnNeedlessClaims.l0] at H
      by_cases c17:x6_1<(t102.length:Int)
      ·rw [if_pos c17] at H
       have c17b0:decide (x6_1<(t102.length:Int))=true:=decide_eq_true c17
       clear c17
       obtain ⟨y114,hy114⟩ : ∃ y_:List (S36),y_=(([]:List (S36))):=⟨_,rfl⟩
       replace H:(if 0≤x6_1 then (if x6_1≤(t102.length:Int) then ((some (t102.take (x6_1:Int).toNat:List (S36))).bind fun y117=>(if y114.length+y117.length<4398046511104 then ((some (y114++y117:List (S36))).bind fun y122=>(if 0≤(wrap64 (x6_1+1)) then (if (wrap64 (x6_1+1))≤(t102.length:Int) then ((some (t102.drop ((wrap64 (x6_1+1)):Int).toNat:List (S36))).bind fun y125=>(if y122.length+y125.length<4398046511104 then ((impl_StoryTable.f k1 t101 (y122++y125)).bind fun t133=>((impl_StoryTable.f k1 t101 t102).bind fun t134=>((laws_hasInt.f k1 t105 x6_1).bind fun t135=>(if ((t133==t134) != t135)=true then (some false) else (laws_FnNeedlessClaims.l0 k1 t101 t102 t105 (wrap64 (x6_1+1))))))) else (none))) else (none)) else (none))) else (none))) else (none)) else (none))=some r:=by first|(rw [hy114];with_reducible exact H)|(have H2_:=(Option.bind_some _ _).symm.trans H;rw [hy114];with_reducible exact H2_)|(have H2_:=(Option.bind_some _ _).symm.trans H;with_reducible exact H2_)|with_reducible exact H|(rw [hy114];exact H)|exact H
       have Ny114:=mA hy114
       clear hy114
       by_cases c18:0≤x6_1
       ·rw [if_pos c18] at H
        have c18b0:=eq_true c18
        have c18b1:decide (0≤x6_1)=true:=decide_eq_true c18
        clear c18
        by_cases c19:x6_1≤(t102.length:Int)
        ·rw [if_pos c19] at H
         have c19b0:=eq_true c19
         have c19b1:decide (x6_1≤(t102.length:Int))=true:=decide_eq_true c19
         clear c19
         obtain ⟨y117,hy117⟩ : ∃ y_:List (S36),y_=(t102.take (x6_1:Int).toNat):=⟨_,rfl⟩
         replace H:(if y114.length+y117.length<4398046511104 then ((some (y114++y117:List (S36))).bind fun y122=>(if 0≤(wrap64 (x6_1+1)) then (if (wrap64 (x6_1+1))≤(t102.length:Int) then ((some (t102.drop ((wrap64 (x6_1+1)):Int).toNat:List (S36))).bind fun y125=>(if y122.length+y125.length<4398046511104 then ((impl_StoryTable.f k1 t101 (y122++y125)).bind fun t133=>((impl_StoryTable.f k1 t101 t102).bind fun t134=>((laws_hasInt.f k1 t105 x6_1).bind fun t135=>(if ((t133==t134) != t135)=true then (some false) else (laws_FnNeedlessClaims.l0 k1 t101 t102 t105 (wrap64 (x6_1+1))))))) else (none))) else (none)) else (none))) else (none))=some r:=by first|(rw [hy117];with_reducible exact H)|(have H2_:=(Option.bind_some _ _).symm.trans H;rw [hy117];with_reducible exact H2_)|(have H2_:=(Option.bind_some _ _).symm.trans H;with_reducible exact H2_)|with_reducible exact H|(rw [hy117];exact H)|exact H
         have Ny117:=mA hy117
         clear hy117
         by_cases c20:y114.length+y117.length<4398046511104
         ·rw [if_pos c20] at H
          have LMc20:=mA c20
          clear c20
          obtain ⟨y122,hy122⟩ : ∃ y_:List (S36),y_=(y114++y117):=⟨_,rfl⟩
          replace H:(if 0≤(wrap64 (x6_1+1)) then (if (wrap64 (x6_1+1))≤(t102.length:Int) then ((some (t102.drop ((wrap64 (x6_1+1)):Int).toNat:List (S36))).bind fun y125=>(if y122.length+y125.length<4398046511104 then ((impl_StoryTable.f k1 t101 (y122++y125)).bind fun t133=>((impl_StoryTable.f k1 t101 t102).bind fun t134=>((laws_hasInt.f k1 t105 x6_1).bind fun t135=>(if ((t133==t134) != t135)=true then (some false) else (laws_FnNeedlessClaims.l0 k1 t101 t102 t105 (wrap64 (x6_1+1))))))) else (none))) else (none)) else (none))=some r:=by first|(rw [hy122];with_reducible exact H)|(have H2_:=(Option.bind_some _ _).symm.trans H;rw [hy122];with_reducible exact H2_)|(have H2_:=(Option.bind_some _ _).symm.trans H;with_reducible exact H2_)|with_reducible exact H|(rw [hy122];exact H)|exact H
          have Ny122:=mA hy122
          clear hy122
          obtain ⟨ji21,hji21⟩ : ∃ j_:Int,(wrap64 (x6_1+1))=j_:=⟨_,rfl⟩
          replace H:(if 0≤(ji21) then (if (ji21)≤(t102.length:Int) then ((some (t102.drop ((ji21):Int).toNat:List (S36))).bind fun y125=>(if y122.length+y125.length<4398046511104 then ((impl_StoryTable.f k1 t101 (y122++y125)).bind fun t133=>((impl_StoryTable.f k1 t101 t102).bind fun t134=>((laws_hasInt.f k1 t105 x6_1).bind fun t135=>(if ((t133==t134) != t135)=true then (some false) else (laws_FnNeedlessClaims.l0 k1 t101 t102 t105 ji21))))) else (none))) else (none)) else (none))=some r:=by first|(rw [hji21] at H;exact H)|(simp only [hji21] at H ⊢;exact H)
          have hji21w:(IntKind.i64.wrap (x6_1+1))=ji21:=(i64_w _).trans hji21
          by_cases c22:0≤(ji21)
          ·rw [if_pos c22] at H
           have c22b0:=eq_true c22
           have c22b1:decide (0≤(ji21))=true:=decide_eq_true c22
           clear c22
           by_cases c23:(ji21)≤(t102.length:Int)
           ·rw [if_pos c23] at H
            have c23b0:=eq_true c23
            have c23b1:decide ((ji21)≤(t102.length:Int))=true:=decide_eq_true c23
            clear c23
            obtain ⟨y125,hy125⟩ : ∃ y_:List (S36),y_=(t102.drop ((ji21):Int).toNat):=⟨_,rfl⟩
            replace H:(if y122.length+y125.length<4398046511104 then ((impl_StoryTable.f k1 t101 (y122++y125)).bind fun t133=>((impl_StoryTable.f k1 t101 t102).bind fun t134=>((laws_hasInt.f k1 t105 x6_1).bind fun t135=>(if ((t133==t134) != t135)=true then (some false) else (laws_FnNeedlessClaims.l0 k1 t101 t102 t105 ji21))))) else (none))=some r:=by first|(rw [hy125];with_reducible exact H)|(have H2_:=(Option.bind_some _ _).symm.trans H;rw [hy125];with_reducible exact H2_)|(have H2_:=(Option.bind_some _ _).symm.trans H;with_reducible exact H2_)|with_reducible exact H|(rw [hy125];exact H)|exact H
            have Ny125:=mA hy125
            clear hy125
            by_cases c24:y122.length+y125.length<4398046511104
            ·rw [if_pos c24] at H
             have LMc24:=mA c24
             clear c24
             obtain ⟨y130,hy130⟩ : ∃ y_:List (S36),y_=(y122++y125):=⟨_,rfl⟩
             replace H:((impl_StoryTable.f k1 t101 y130).bind fun t133=>((impl_StoryTable.f k1 t101 t102).bind fun t134=>((laws_hasInt.f k1 t105 x6_1).bind fun t135=>(if ((t133==t134) != t135)=true then (some false) else (laws_FnNeedlessClaims.l0 k1 t101 t102 t105 ji21)))))=some r:=by first|(rw [hy130];with_reducible exact H)|(have H2_:=(Option.bind_some _ _).symm.trans H;rw [hy130];with_reducible exact H2_)|(have H2_:=(Option.bind_some _ _).symm.trans H;with_reducible exact H2_)|with_reducible exact H|(rw [hy130];exact H)|exact H
             have Ny130:=mA hy130
             clear hy130
             replace H:=Option.bind_eq_some_iff.mp H
             obtain ⟨t133,A250,H⟩:=H
             replace H:((impl_StoryTable.f k1 t101 t102).bind fun t134=>((laws_hasInt.f k1 t105 x6_1).bind fun t135=>(if ((t133==t134) != t135)=true then (some false) else (laws_FnNeedlessClaims.l0 k1 t101 t102 t105 ji21))))=some r:=H
             have A25:=mA A250
             clear A250
             replace H:=Option.bind_eq_some_iff.mp H
             obtain ⟨t134,A260,H⟩:=H
             replace H:((laws_hasInt.f k1 t105 x6_1).bind fun t135=>(if ((t133==t134) != t135)=true then (some false) else (laws_FnNeedlessClaims.l0 k1 t101 t102 t105 ji21)))=some r:=H
             have A26:=mA A260
             clear A260
             replace H:=Option.bind_eq_some_iff.mp H
             obtain ⟨t135,A270,H⟩:=H
             replace H:(if ((t133==t134) != t135)=true then (some false) else (laws_FnNeedlessClaims.l0 k1 t101 t102 t105 ji21))=some r:=H
             have A27:=mA A270
             clear A270
             by_cases c28:((t133==t134) != t135)=true
             ·rw [if_pos c28] at H
              have c28b0:((t133==t134) != t135)=true:=c28
              (try (have c28b1:decide ((t133==t134)=t135)=false:=by simpa using c28))
              (try (have c28b2:((t133==t134)==t135)=false:=by simpa using c28))
              (try (have c28b3 : ¬ ((t133==t134)=t135):=by simpa using c28))
              clear c28
              exact absurd ((Option.some.inj H).trans hr_.out) (by decide)
             ·rw [if_neg c28] at H
              have c28b0:((t133==t134) != t135)=false:=by simpa using c28
              (try (have c28b1:decide ((t133==t134)=t135)=true:=by simpa using c28))
              (try (have c28b2:((t133==t134)==t135)=true:=by simpa using c28))
              clear c28
              have H':=mA H
              clear H
              go_wp2_with (first|((with_reducible refine gate_dst (N:=42) rfl ?_);(try (refine gate_guard (by rfl) ?_;dsimp only));refine Kd.N_lit k36 _ 36 ?hg (N':=42) ?hd (xs:=([]:List (S36))) (inner:=[]) (ok:=(fun k_=>some k_≠(.slice Ao11 t102.length co11:Value).ownBlock∧some k_≠(.slice Ao14 t105.length co14:Value).ownBlock)) (okp:=(fun k_=>some k_≠(.slice Ao11 t102.length co11:Value).ownBlock∧some k_≠(.slice Ao14 t105.length co14:Value).ownBlock)) ?hr ?hp (fun _ hk=>hk) ((show ∀ k_,wr.heap.size≤k_→(fun k_=>some k_≠(.slice Ao11 t102.length co11:Value).ownBlock∧some k_≠(.slice Ao14 t105.length co14:Value).ownBlock) k_ from fun k_ hk=>⟨Kd.fresh' (Kd.N_lt (by (with_reducible repeat (first|apply nA|apply nN|apply nD));exact HO_4.out)) k_ hk,Kd.fresh' (rL (by (with_reducible repeat (first|apply rA|apply rN|apply rD));exact HO_5.out)) k_ hk⟩) _ (Nat.le_refl _)) (Below.refl _ _) (Nat.le_refl _) (by simp) ?_;(case hd=>rfl);(case hg=>rfl);(case hr=>first|(go_simp;done)|(go_simp;rfl));(case hp=>exact (Reps.none _ _));intro v115 w29 ho30 hb hg_ hnew_;clear hg_ hnew_;(first|rw [←Ny114.out] at ho30|(simp only [Int.reduceToNat] at ho30;rw [←Ny114.out] at ho30));have n0_:=mA (Kd.N_elder' (by (with_reducible repeat (first|apply nA|apply nN|apply nD));exact HO_4.out) (Kd.N_base ho30) hb);have n1_:=mA (rB (by (with_reducible repeat (first|apply rA|apply rN|apply rD));exact HO_5.out) hb);have n2_:=mA (Kd.N_lower ho30 (bZ (by repeat (first|(with_reducible first|exact HB.out|apply bA|apply bN|apply bD)|exact HB.out))));have n3_:=mA (bT (by repeat (first|(with_reducible first|exact HB.out|apply bA|apply bN|apply bD)|exact HB.out)) hb);clear HO_4 HO_5 HB;have HO_4:=n0_;have HO_5:=n1_;have HO116:=n2_;have HB:=n3_;clear n0_ n1_ n2_ n3_ hb ho30;have q31:(x6_1:Int)≤((t102.length:Int):Int):=of_decide_eq_true (by first|(with_reducible assumption)|assumption);obtain ⟨i031,hi031,_,hsz31,_⟩:=info_parts info36;have hroom31:t102.length≤co11:=(Kd.N_reads' HO_4.out).2.1;have hC31:Kd.F k36 _ _ Ao11 t102.length t102:=(Kd.V_at (base:=w.heap.size) (Kd.N_V HO_4.out)).2.2;have hcut31:=cut_to (P:=Try.prog) 23 36 .i64 Try.underlying23 hi031 Ao11 t102.length co11 x6_1 (of_decide_eq_true (by first|(with_reducible assumption)|assumption)) q31 hroom31;have hr31:=Kd.F_take (m:=(x6_1:Int).toNat) hC31 (by omega);have hy31:y117.length=(x6_1:Int).toNat:=(by rw [Ny117.out,lT];omega);rw [←Ny117.out] at hr31;rw [←hy31] at hcut31;have HO121:=mA (show Kd.V k36 36 _ w.heap.size _ (.slice Ao11 y117.length co11) y117 from Kd.V_mk (by omega) hr31);have HC121:=mA (show y117.length≤co11 from by omega);clear hr31 hC31 hroom31 hi031 hsz31;have KY31:=mA hy31;clear hy31;replace q31:=eq_true q31)|((with_reducible refine gate_builtin (b:=.append) (xs:=#[.tmp 42,.tmp 45]) rfl ?_);(try (refine gate_guard (by rfl) ?_;dsimp only));at_builtin;refine Kd.N_append_rows k36 (w0:=w) w.heap.size rfl (.tmp 42) (.tmp 45) 23 36 (.agg #[(.int .i64 0),(.slice none 0 0)]) 32 rfl Try.underlying23 info36 rfl (by decide) (by omega) v115 y114 y117 _ _ _ (fun k_=>some k_≠(.slice Ao14 t105.length co14:Value).ownBlock) (fun k_=>((fun k_=>some k_≠(.slice Ao14 t105.length co14:Value).ownBlock)) k_∧some k_≠(v115:Value).ownBlock) rfl rfl ?aO ?aR (fun _ hk=>hk) ?aF ?aB ?aS ?aL ?_;(case aR=>exact (by skip;exact Kd.V_F (Kd.V_mono (ok':=(fun k_=>((fun k_=>some k_≠(.slice Ao14 t105.length co14:Value).ownBlock)) k_∧some k_≠(v115:Value).ownBlock)) (HO121.out) (fun k_ hk=>⟨hk.1,hk.2⟩))));(case aB=>exact (by repeat (first|(with_reducible first|exact HB.out|apply bA|apply bN|apply bD)|exact HB.out)));(case aF=>exact (fun k_ hk=>Kd.fresh' (rL (by (with_reducible repeat (first|apply rA|apply rN|apply rD));exact HO_5.out)) k_ hk));(case aO=>exact (by (with_reducible repeat (first|apply nA|apply nN|apply nD));exact Kd.N_mono HO116.out (fun _ hk=>hk.2)));(case aS=>exact (bZ (by repeat (first|(with_reducible first|exact HB.out|apply bA|apply bN|apply bD)|exact HB.out))));(case aL=>have:=LMc20.out;omega);intro v123 w32 ho hb hg hat;rw [←Ny122.out] at ho;have n0_:=mA (Kd.N_afterv (ok:=(fun k_=>some k_≠(.slice Ao14 t105.length co14:Value).ownBlock)) (by (with_reducible repeat (first|apply nA|apply nN|apply nD));exact HO_4.out) hg hat);have n1_:=mA (Kd.R_over' (by (with_reducible repeat (first|apply rA|apply rN|apply rD));exact HO_5.out) (Kd.N_typed (by (with_reducible repeat (first|apply nA|apply nN|apply nD));exact HO116.out)) (by decide) hg);have n2_:=mA (Kd.V_afterv (ok:=(fun k_=>some k_≠(.slice Ao14 t105.length co14:Value).ownBlock)) (by (with_reducible repeat (first|apply Kd.V_alloc|apply Kd.V_drewN|apply Kd.V_drew));exact HO121.out) hg hat);have n3_:=mA (hb);have n4_:=mA (ho);clear HO_4 HO_5 HO121 HB HO116;have HO_4:=n0_;have HO_5:=n1_;have HO121:=n2_;have HB:=n3_;have HO124:=n4_;clear n0_ n1_ n2_ n3_ n4_ ho hb hg hat;have q33:((ji21):Int)≤((t102.length:Int):Int):=of_decide_eq_true (by first|(with_reducible assumption)|assumption);obtain ⟨i033,hi033,_,hsz33,_⟩:=info_parts info36;have hroom33:t102.length≤co11:=(Kd.N_reads' HO_4.out).2.1;have hC33:Kd.F k36 _ _ Ao11 t102.length t102:=(Kd.V_at (base:=w.heap.size) (Kd.N_V HO_4.out)).2.2;have q033:(0:Int)≤((ji21):Int):=of_decide_eq_true (by first|(with_reducible assumption)|assumption);have hcut33:=cut_from (P:=Try.prog) 23 36 .i64 Try.underlying23 hi033 2 hsz33 Ao11 t102.length co11 (ji21) q033 q33;have hr33:=Kd.F_cut (m:=((ji21):Int).toNat) (c:=co11) hC33 (by omega) hroom33;obtain ⟨A33,hA33⟩ : ∃ A1,A1=(if co11=((ji21):Int).toNat then Ao11 else (Ao11:Option Addr).map (·.add (((ji21):Int).toNat*2))):=⟨_,rfl⟩;obtain ⟨c33,hc33⟩ : ∃ c1,c1=co11-((ji21):Int).toNat:=⟨_,rfl⟩;have hy33:y125.length=t102.length-((ji21):Int).toNat:=(by rw [Ny125.out,lD]<;>omega);rw [show (t102).drop ((ji21):Int).toNat=y125 from Ny125.out.symm] at hr33;replace hr33:Kd.F k36 _ _ A33 y125.length y125:=(by rw [hA33];exact hr33);rw [←hy33, ←hA33, ←hc33] at hcut33;have HO129:=mA (show Kd.V k36 36 _ w.heap.size _ (.slice A33 y125.length c33) y125 from Kd.V_mk (by rw [hy33,hc33];exact Nat.sub_le_sub_right hroom33 _) hr33);have HC129:=mA (show y125.length≤c33 from by rw [hy33,hc33];exact Nat.sub_le_sub_right hroom33 _);clear hr33 hC33 hroom33 hi033 hsz33 hc33;have KY33:=mA hy33;have KA33:=mA hA33;clear hy33 hA33;replace q33:=eq_true q33)|((with_reducible refine gate_builtin (b:=.append) (xs:=#[.tmp 47,.tmp 51]) rfl ?_);(try (refine gate_guard (by rfl) ?_;dsimp only));at_builtin;refine Kd.N_append_rows k36 (w0:=w) w.heap.size rfl (.tmp 47) (.tmp 51) 23 36 (.agg #[(.int .i64 0),(.slice none 0 0)]) 32 rfl Try.underlying23 info36 rfl (by decide) (by omega) v123 y122 y125 _ _ _ (fun k_=>some k_≠(.slice Ao14 t105.length co14:Value).ownBlock) (fun k_=>((fun k_=>some k_≠(.slice Ao14 t105.length co14:Value).ownBlock)) k_∧some k_≠(v123:Value).ownBlock) rfl rfl ?aO ?aR (fun _ hk=>hk) ?aF ?aB ?aS ?aL ?_;(case aR=>exact (by skip;exact Kd.V_F (Kd.V_mono (ok':=(fun k_=>((fun k_=>some k_≠(.slice Ao14 t105.length co14:Value).ownBlock)) k_∧some k_≠(v123:Value).ownBlock)) (HO129.out) (fun k_ hk=>⟨hk.1,hk.2⟩))));(case aB=>exact (by repeat (first|(with_reducible first|exact HB.out|apply bA|apply bN|apply bD)|exact HB.out)));(case aF=>exact (fun k_ hk=>Kd.fresh' (rL (by (with_reducible repeat (first|apply rA|apply rN|apply rD));exact HO_5.out)) k_ hk));(case aO=>exact (by (with_reducible repeat (first|apply nA|apply nN|apply nD));exact HO124.out));(case aS=>exact (bZ (by repeat (first|(with_reducible first|exact HB.out|apply bA|apply bN|apply bD)|exact HB.out))));(case aL=>have:=LMc24.out;omega);intro v131 w34 ho hb hg hat;rw [←Ny130.out] at ho;have n0_:=mA (Kd.N_afterv (ok:=(fun k_=>some k_≠(.slice Ao14 t105.length co14:Value).ownBlock)) (by (with_reducible repeat (first|apply nA|apply nN|apply nD));exact HO_4.out) hg hat);have n1_:=mA (Kd.R_over' (by (with_reducible repeat (first|apply rA|apply rN|apply rD));exact HO_5.out) (Kd.N_typed (by (with_reducible repeat (first|apply nA|apply nN|apply nD));exact HO124.out)) (by decide) hg);have n2_:=mA (Kd.V_afterv (ok:=(fun k_=>some k_≠(.slice Ao14 t105.length co14:Value).ownBlock)) (by (with_reducible repeat (first|apply Kd.V_alloc|apply Kd.V_drewN|apply Kd.V_drew));exact HO121.out) hg hat);have n3_:=mA (Kd.V_afterv (ok:=(fun k_=>some k_≠(.slice Ao14 t105.length co14:Value).ownBlock)) (by (with_reducible repeat (first|apply Kd.V_alloc|apply Kd.V_drewN|apply Kd.V_drew));exact HO129.out) hg hat);have n4_:=mA (hb);have n5_:=mA (ho);clear HO_4 HO_5 HO121 HO129 HB HO124;have HO_4:=n0_;have HO_5:=n1_;have HO121:=n2_;have HO129:=n3_;have HB:=n4_;have HO132:=n5_;clear n0_ n1_ n2_ n3_ n4_ n5_ ho hb hg hat;obtain ⟨Ao35,co35,eo35⟩:=Kd.N_slice HO132.out;subst eo35)|((with_reducible refine gate_callee (f:=59) rfl ?_);refine goesL_ (some 55) rfl rfl Try.func59 (by kernel_rfl) rfl #[.int .i64 t101,.slice Ao35 y130.length co35] rfl (by (try simp only [mT,mC,mN]);first|done|rfl|(simp only [lD,lT];rfl)) ?_;(with_reducible refine (impl_StoryTable.calls k1 t101 _ _ y130 t133 _ ?side1 ?side2 A25.out).mono ?_);(case side1=>repeat (first|exact (Kd.N_reads' HO132.out).2.2|(with_reducible refine cA ?_ _)|(with_reducible refine cN ?_ _)|(with_reducible refine cD ?_)));(case side2=>exact (Kd.N_reads' HO132.out).2.1);rintro e w36 ⟨rfl,hb⟩;refine ⟨_,rfl,?_⟩;have n0_:=mA (Kd.N_below (by (with_reducible repeat (first|apply nA|apply nN|apply nD));exact HO_4.out) hb);have n1_:=mA (rB (by (with_reducible repeat (first|apply rA|apply rN|apply rD));exact HO_5.out) hb);have n2_:=mA (Kd.V_below (by (with_reducible repeat (first|apply Kd.V_alloc|apply Kd.V_drewN|apply Kd.V_drew));exact HO121.out) hb);have n3_:=mA (Kd.V_below (by (with_reducible repeat (first|apply Kd.V_alloc|apply Kd.V_drewN|apply Kd.V_drew));exact HO129.out) hb);have n4_:=mA (Kd.N_below (by (with_reducible repeat (first|apply nA|apply nN|apply nD));exact HO132.out) hb);have n5_:=mA (bT (by repeat (first|(with_reducible first|exact HB.out|apply bA|apply bN|apply bD)|exact HB.out)) hb);clear HO_4 HO_5 HO121 HO129 HO132 HB;have HO_4:=n0_;have HO_5:=n1_;have HO121:=n2_;have HO129:=n3_;have HO132:=n4_;have HB:=n5_;clear n0_ n1_ n2_ n3_ n4_ n5_;(try clear hb);(try clear hb2);(try clear hk);(try clear hi))|((with_reducible refine gate_callee (f:=59) rfl ?_);refine goesL_ (some 58) rfl rfl Try.func59 (by kernel_rfl) rfl #[.int .i64 t101,.slice Ao11 t102.length co11] rfl (by (try simp only [mT,mC,mN]);first|done|rfl|(simp only [lD,lT];rfl)) ?_;(with_reducible refine (impl_StoryTable.calls k1 t101 _ _ t102 t134 _ ?side1 ?side2 A26.out).mono ?_);(case side1=>repeat (first|exact (Kd.N_reads' HO_4.out).2.2|(with_reducible refine cA ?_ _)|(with_reducible refine cN ?_ _)|(with_reducible refine cD ?_)));(case side2=>exact (Kd.N_reads' HO_4.out).2.1);rintro e w37 ⟨rfl,hb⟩;refine ⟨_,rfl,?_⟩;have n0_:=mA (Kd.N_below (by (with_reducible repeat (first|apply nA|apply nN|apply nD));exact HO_4.out) hb);have n1_:=mA (rB (by (with_reducible repeat (first|apply rA|apply rN|apply rD));exact HO_5.out) hb);have n2_:=mA (Kd.V_below (by (with_reducible repeat (first|apply Kd.V_alloc|apply Kd.V_drewN|apply Kd.V_drew));exact HO121.out) hb);have n3_:=mA (Kd.V_below (by (with_reducible repeat (first|apply Kd.V_alloc|apply Kd.V_drewN|apply Kd.V_drew));exact HO129.out) hb);have n4_:=mA (Kd.N_below (by (with_reducible repeat (first|apply nA|apply nN|apply nD));exact HO132.out) hb);have n5_:=mA (bT (by repeat (first|(with_reducible first|exact HB.out|apply bA|apply bN|apply bD)|exact HB.out)) hb);clear HO_4 HO_5 HO121 HO129 HO132 HB;have HO_4:=n0_;have HO_5:=n1_;have HO121:=n2_;have HO129:=n3_;have HO132:=n4_;have HB:=n5_;clear n0_ n1_ n2_ n3_ n4_ n5_;(try clear hb);(try clear hb2);(try clear hk);(try clear hi))|((with_reducible refine gate_callee (f:=88) rfl ?_);refine goesL_ (some 62) rfl rfl Try.func88 (by kernel_rfl) rfl #[.slice Ao14 t105.length co14,.int .i64 x6_1] rfl (by (try simp only [mT,mC,mN]);first|done|rfl|(simp only [lD,lT];rfl)) ?_;(with_reducible refine (laws_hasInt.calls k1 _ _ t105 x6_1 t135 _ ?side1 ?side2 A27.out).mono ?_);(case side1=>repeat (first|exact (rR HO_5.out).2.2|(with_reducible refine cA ?_ _)|(with_reducible refine cN ?_ _)|(with_reducible refine cD ?_)));(case side2=>exact (rR HO_5.out).2.1);rintro e w' ⟨rfl,⟨nd,rfl⟩⟩;refine ⟨_,rfl,?_⟩))
              go_roundg k1
              case measure=>have:=HK1.out;omega
              case rel=>exact ⟨(ji21),(by first|rfl|(simp;done)|(simp only [←hji21]<;>(first|rfl|simp))|(simp [*];done)),H',⟨by have:=HK1.out;omega⟩,⟨by (with_reducible repeat (first|apply nA|apply nN|apply nD));exact Kd.N_mono HO_4.out (fun _ hk=>hk.1)⟩,⟨by (with_reducible repeat (first|apply rA|apply rN|apply rD));exact HO_5.out⟩,⟨by repeat (first|(with_reducible first|exact HB.out|apply bA|apply bN|apply bD)|exact HB.out)⟩⟩
            ·rw [if_neg c24] at H
             exact absurd H (by simp)
           ·rw [if_neg c23] at H
            exact absurd H (by simp)
          ·rw [if_neg c22] at H
           exact absurd H (by simp)
         ·rw [if_neg c20] at H
          exact absurd H (by simp)
        ·rw [if_neg c19] at H
         exact absurd H (by simp)
       ·rw [if_neg c18] at H
        exact absurd H (by simp)
      ·rw [if_neg c17] at H
       have c17b0:decide (x6_1<(t102.length:Int))=false:=decide_eq_false c17
       clear c17
       have HC38:=mA H
       clear H
       go_upto_region 16 with (fail)
       go_cut [71] (fun v71 wc=>∃ (kq:Nat) (x71_37:Bool),v71 = .bool x71_37∧Aside0 (laws_FnNeedlessClaims.j1 kq t101 t102 t105 x71_37=some r)∧Aside0 (kq≤k1)∧Aside0 (Kd.N k36 36 wc w.heap.size (fun k_=>some k_≠((.slice Ao14 t105.length co14):Value).ownBlock) (.slice Ao11 t102.length co11) t102)∧Aside0 (Kd.R (Kd.int .i64) 3 wc w.heap.size (fun _=>True) (.slice Ao14 t105.length co14) t105)∧Aside0 (Below w.heap.size w wc))
       case first =>
        have H:=HC38.out
        clear HC38
        by_cases c39:(t102.length:Int)=0
        ·rw [if_pos c39] at H
         have c39b0:((t102.length:Int)==0)=true:=beq_iff_eq.mpr c39
         have c39b1:((t102.length:Int) != 0)=false:=bne_eq_false_iff_eq.mpr c39
         clear c39
         (first|rw [c39b0]|(simp only [i64_w,i32_w];rw [c39b0])|skip)
         have H':=mA H
         clear H
         go_wp2
         go_meet
         case rel=>exact ⟨_,(true),(by first|rfl|(simp;done)|(simp [*];done)),H',⟨by have:=HK1.out;first|omega|exact Nat.le_refl _⟩,⟨by (with_reducible repeat (first|apply nA|apply nN|apply nD));exact HO_4.out⟩,⟨by (with_reducible repeat (first|apply rA|apply rN|apply rD));exact HO_5.out⟩,⟨by repeat (first|(with_reducible first|exact HB.out|apply bA|apply bN|apply bD)|exact HB.out)⟩⟩
        ·rw [if_neg c39] at H
         have c39b0:((t102.length:Int)==0)=false:=beq_eq_false_iff_ne.mpr c39
         have c39b1:((t102.length:Int) != 0)=true:=bne_iff_ne.mpr c39
         have c39b2 : ¬ (t102=[]):=fun h_=>c39 (by rw [h_];rfl)
         (first|rw [c39b0]|(simp only [i64_w,i32_w];rw [c39b0])|skip)
         have H':=mA H
         clear H
         go_wp2
         go_meet
         case rel=>exact ⟨_,(decide ((t102.length:Int)≥6)),(by first|rfl|(simp;done)|(simp [*];done)),H',⟨by have:=HK1.out;first|omega|exact Nat.le_refl _⟩,⟨by (with_reducible repeat (first|apply nA|apply nN|apply nD));exact HO_4.out⟩,⟨by (with_reducible repeat (first|apply rA|apply rN|apply rD));exact HO_5.out⟩,⟨by repeat (first|(with_reducible first|exact HB.out|apply bA|apply bN|apply bD)|exact HB.out)⟩⟩
       case rest =>
        clear HC38
        try clear c1
        try clear c2
        try clear c2b0
        try clear c2b1
        try clear p2
        try clear c3
        try clear q3
        try clear c5
        try clear p6
        try clear c7
        try clear c8
        try clear c9
        try clear c17
        try clear c17b0
        try clear c18
        try clear c18b0
        try clear c18b1
        try clear c19
        try clear c19b0
        try clear c19b1
        try clear c20
        try clear c22
        try clear c22b0
        try clear c22b1
        try clear c23
        try clear c23b0
        try clear c23b1
        try clear c24
        try clear c25
        try clear c28
        try clear c28b0
        try clear c28b1
        try clear c28b2
        try clear q31
        try clear c33
        try clear q33
        try clear c39
        try clear c39b0
        try clear c39b1
        try clear c39b2
        try clear p2
        try clear q033
        try clear q31
        try clear q33
        obtain ⟨kq,x71_37,rfl,HA,HJ37,HO_4,HO_5,HB⟩:=hcut
        cases kq with
        | zero=>exact absurd HA.out (by simp [laws_FnNeedlessClaims.j1])
        | succ kj37 =>
         have H:=HA.out
         clear HA
         simp only [laws_FnNeedlessClaims.j1] at H
         by_cases c40:x71_37=true
         ·subst c40
          have H1:((laws_ascend.f kj37 t105).bind fun t136=>(if t136=true then ((laws_alive.f).bind fun t137=>(some t137)) else (some false)))=some r:=by rw [if_pos rfl] at H;exact H
          clear H
          have H:=H1
          clear H1
          replace H:=Option.bind_eq_some_iff.mp H
          obtain ⟨t136,A410,H⟩:=H
          replace H:(if t136=true then ((laws_alive.f).bind fun t137=>(some t137)) else (some false))=some r:=H
          have A41:=mA A410
          clear A410
          by_cases c42:t136=true
          ·subst c42
           have H1:((laws_alive.f).bind fun t137=>(some t137))=some r:=by rw [if_pos rfl] at H;exact H
           clear H
           have H:=H1
           clear H1
           replace H:=Option.bind_eq_some_iff.mp H
           obtain ⟨t137,A430,H⟩:=H
           replace H:(some t137)=some r:=H
           have A43:=mA A430
           clear A430
           obtain rfl:=Option.some.inj H
           go_wp2_with (first|((with_reducible refine gate_callee (f:=89) rfl ?_);refine goesL_ (some 73) rfl rfl Try.func89 (by kernel_rfl) rfl #[.slice Ao14 t105.length co14] rfl (by (try simp only [mT,mC,mN]);first|done|rfl|(simp only [lD,lT];rfl)) ?_;(with_reducible refine (laws_ascend.calls kj37 _ _ t105 true _ ?side1 ?side2 A41.out).mono ?_);(case side1=>repeat (first|exact (rR HO_5.out).2.2|(with_reducible refine cA ?_ _)|(with_reducible refine cN ?_ _)|(with_reducible refine cD ?_)));(case side2=>exact (rR HO_5.out).2.1);rintro e w' ⟨rfl,⟨nd,rfl⟩⟩;refine ⟨_,rfl,?_⟩)|(go_at_call 26;(with_reducible refine (laws_alive.calls  t137 _ A43.out).mono ?_);rintro e w' ⟨rfl,⟨nd,rfl⟩⟩))
           go_ret
           exact ⟨by first|rfl|(simp [errW_none,errW_some]<;>rfl)|(simp [*, errW_none,errW_some]<;>rfl),by repeat (first|(with_reducible first|exact HB.out|apply bA|apply bN|apply bD)|exact HB.out)⟩
          ·replace c42:=Bool.eq_false_iff.mpr c42
           subst c42
           have H1:(some false)=some r:=by rw [if_neg (show ¬ (false=true) by decide)] at H;exact H
           clear H
           have H:=H1
           clear H1
           exact absurd ((Option.some.inj H).trans hr_.out) (by decide)
         ·replace c40:=Bool.eq_false_iff.mpr c40
          subst c40
          have H1:((some (([]:List (S36)):List (S36))).bind fun y138=>(if y138.length+t102.length<4398046511104 then ((some (y138++t102:List (S36))).bind fun y141=>(if 0<(t102.length:Int) then ((some (([(⟨(rd_T36 t102 0).f0,(rd_T36 t102 0).f1⟩:S36)]:List (S36)):List (S36))).bind fun y145=>(if y141.length+y145.length<4398046511104 then ((impl_NeedlessClaims.f kj37 t101 (y141++y145)).bind fun t151=>((laws_ascend.f kj37 t105).bind fun t154=>(if t154=true then ((laws_hasInt.f kj37 t151 0).bind fun t155=>(if t155=true then ((laws_hasInt.f kj37 t151 (t102.length:Int)).bind fun t156=>(some t156)) else (some false))) else (some false)))) else (none))) else (none))) else (none)))=some r:=by rw [if_neg (show ¬ (false=true) by decide)] at H;exact H
          clear H
          have H:=H1
          clear H1
          obtain ⟨y138,hy138⟩ : ∃ y_:List (S36),y_=(([]:List (S36))):=⟨_,rfl⟩
          replace H:(if y138.length+t102.length<4398046511104 then ((some (y138++t102:List (S36))).bind fun y141=>(if 0<(t102.length:Int) then ((some (([(⟨(rd_T36 t102 0).f0,(rd_T36 t102 0).f1⟩:S36)]:List (S36)):List (S36))).bind fun y145=>(if y141.length+y145.length<4398046511104 then ((impl_NeedlessClaims.f kj37 t101 (y141++y145)).bind fun t151=>((laws_ascend.f kj37 t105).bind fun t154=>(if t154=true then ((laws_hasInt.f kj37 t151 0).bind fun t155=>(if t155=true then ((laws_hasInt.f kj37 t151 (t102.length:Int)).bind fun t156=>(some t156)) else (some false))) else (some false)))) else (none))) else (none))) else (none))=some r:=by first|(rw [hy138];with_reducible exact H)|(have H2_:=(Option.bind_some _ _).symm.trans H;rw [hy138];with_reducible exact H2_)|(have H2_:=(Option.bind_some _ _).symm.trans H;with_reducible exact H2_)|with_reducible exact H|(rw [hy138];exact H)|exact H
          have Ny138:=mA hy138
          clear hy138
          by_cases c44:y138.length+t102.length<4398046511104
          ·rw [if_pos c44] at H
           have LMc44:=mA c44
           clear c44
           obtain ⟨y141,hy141⟩ : ∃ y_:List (S36),y_=(y138++t102):=⟨_,rfl⟩
           replace H:(if 0<(t102.length:Int) then ((some (([(⟨(rd_T36 t102 0).f0,(rd_T36 t102 0).f1⟩:S36)]:List (S36)):List (S36))).bind fun y145=>(if y141.length+y145.length<4398046511104 then ((impl_NeedlessClaims.f kj37 t101 (y141++y145)).bind fun t151=>((laws_ascend.f kj37 t105).bind fun t154=>(if t154=true then ((laws_hasInt.f kj37 t151 0).bind fun t155=>(if t155=true then ((laws_hasInt.f kj37 t151 (t102.length:Int)).bind fun t156=>(some t156)) else (some false))) else (some false)))) else (none))) else (none))=some r:=by first|(rw [hy141];with_reducible exact H)|(have H2_:=(Option.bind_some _ _).symm.trans H;rw [hy141];with_reducible exact H2_)|(have H2_:=(Option.bind_some _ _).symm.trans H;with_reducible exact H2_)|with_reducible exact H|(rw [hy141];exact H)|exact H
           have Ny141:=mA hy141
           clear hy141
           by_cases c45:0<(t102.length:Int)
           ·rw [if_pos c45] at H
            have c45b0:decide (0<(t102.length:Int))=true:=decide_eq_true c45
            have c45b1:decide (0<t102.length)=true:=decide_eq_true (by omega)
            clear c45
            obtain ⟨y145,hy145⟩ : ∃ y_:List (S36),y_=(([(⟨(rd_T36 t102 0).f0,(rd_T36 t102 0).f1⟩:S36)]:List (S36))):=⟨_,rfl⟩
            replace H:(if y141.length+y145.length<4398046511104 then ((impl_NeedlessClaims.f kj37 t101 (y141++y145)).bind fun t151=>((laws_ascend.f kj37 t105).bind fun t154=>(if t154=true then ((laws_hasInt.f kj37 t151 0).bind fun t155=>(if t155=true then ((laws_hasInt.f kj37 t151 (t102.length:Int)).bind fun t156=>(some t156)) else (some false))) else (some false)))) else (none))=some r:=by first|(rw [hy145];with_reducible exact H)|(have H2_:=(Option.bind_some _ _).symm.trans H;rw [hy145];with_reducible exact H2_)|(have H2_:=(Option.bind_some _ _).symm.trans H;with_reducible exact H2_)|with_reducible exact H|(rw [hy145];exact H)|exact H
            have Ny145:=mA hy145
            clear hy145
            by_cases c46:y141.length+y145.length<4398046511104
            ·rw [if_pos c46] at H
             have LMc46:=mA c46
             clear c46
             obtain ⟨y148,hy148⟩ : ∃ y_:List (S36),y_=(y141++y145):=⟨_,rfl⟩
             replace H:((impl_NeedlessClaims.f kj37 t101 y148).bind fun t151=>((laws_ascend.f kj37 t105).bind fun t154=>(if t154=true then ((laws_hasInt.f kj37 t151 0).bind fun t155=>(if t155=true then ((laws_hasInt.f kj37 t151 (t102.length:Int)).bind fun t156=>(some t156)) else (some false))) else (some false))))=some r:=by first|(rw [hy148];with_reducible exact H)|(have H2_:=(Option.bind_some _ _).symm.trans H;rw [hy148];with_reducible exact H2_)|(have H2_:=(Option.bind_some _ _).symm.trans H;with_reducible exact H2_)|with_reducible exact H|(rw [hy148];exact H)|exact H
             have Ny148:=mA hy148
             clear hy148
             replace H:=Option.bind_eq_some_iff.mp H
             obtain ⟨t151,A470,H⟩:=H
             replace H:((laws_ascend.f kj37 t105).bind fun t154=>(if t154=true then ((laws_hasInt.f kj37 t151 0).bind fun t155=>(if t155=true then ((laws_hasInt.f kj37 t151 (t102.length:Int)).bind fun t156=>(some t156)) else (some false))) else (some false)))=some r:=H
             have A47:=mA A470
             clear A470
             replace H:=Option.bind_eq_some_iff.mp H
             obtain ⟨t154,A480,H⟩:=H
             replace H:(if t154=true then ((laws_hasInt.f kj37 t151 0).bind fun t155=>(if t155=true then ((laws_hasInt.f kj37 t151 (t102.length:Int)).bind fun t156=>(some t156)) else (some false))) else (some false))=some r:=H
             have A48:=mA A480
             clear A480
             by_cases c49:t154=true
             ·subst c49
              have H1:((laws_hasInt.f kj37 t151 0).bind fun t155=>(if t155=true then ((laws_hasInt.f kj37 t151 (t102.length:Int)).bind fun t156=>(some t156)) else (some false)))=some r:=by rw [if_pos rfl] at H;exact H
              clear H
              have H:=H1
              clear H1
              replace H:=Option.bind_eq_some_iff.mp H
              obtain ⟨t155,A500,H⟩:=H
              replace H:(if t155=true then ((laws_hasInt.f kj37 t151 (t102.length:Int)).bind fun t156=>(some t156)) else (some false))=some r:=H
              have A50:=mA A500
              clear A500
              by_cases c51:t155=true
              ·subst c51
               have H1:((laws_hasInt.f kj37 t151 (t102.length:Int)).bind fun t156=>(some t156))=some r:=by rw [if_pos rfl] at H;exact H
               clear H
               have H:=H1
               clear H1
               replace H:=Option.bind_eq_some_iff.mp H
               obtain ⟨t156,A520,H⟩:=H
               replace H:(some t156)=some r:=H
               have A52:=mA A520
               clear A520
               obtain rfl:=Option.some.inj H
               try go_wp2
               have n0_:=mA (nD HO_4.out)
               have n1_:=mA (rD HO_5.out)
               have n2_:=mA (bD HB.out)
               clear HO_4
               clear HO_5
               clear HB
               have HO_4:=n0_
               have HO_5:=n1_
               have HB:=n2_
               clear n0_ n1_ n2_
               have p144:0≤(0:Int):=(by omega)
               have q144:0<(t102.length:Int):=of_decide_eq_true (by first|(with_reducible assumption)|assumption)
               obtain ⟨ad144,A144_1,c144_1,e144,hx144_0,hx144_1,hl144_1,hi144_1⟩:=at_T36 (Kd.N_reads' HO_4.out).2.2 0 p144 q144
               cases e144
               obtain ⟨ce144,hce144,hMe144,hcc144⟩:=Kd.N_get HO_4.out z36 0 p144 (by first|exact q144|exact of_decide_eq_true (by first|(with_reducible assumption)|assumption)|(have e_:=(Kd.N_reads' HO_4.out).1;omega))
               obtain ⟨ua144_1,uc144_1,rfl,ul144_1,ge144_1⟩:=k36_openF hMe144
               have hv144_1:=hcc144 1 _ rfl
               rw [add_field _ _ 1 (by omega)] at hv144_1
               replace hv144_1:=Option.some.inj (hv144_1.symm.trans hx144_1)
               injection hv144_1 with hva_ hvn_ hvc_
               rw [hva_] at ge144_1
               rw [hvc_] at ul144_1
               have HL144_1:=mA (show Kd.V k33 33 _ w.heap.size _ _ ((rd_T36 t102 0).f1) from Kd.V_mk ul144_1 ge144_1)
               clear hva_ hvn_ hvc_ ge144_1 ul144_1
               clear hcc144 hce144
               have qi144:(0<t102.length)=True:=eq_true (by omega)
               (try rw [show ((0:Int)).toNat=0 from rfl] at hx144_0)
               (try rw [show 0*2=0 from rfl] at hx144_0)
               (try rw [Addr.add_zero'] at hx144_0)
               (try rw [show ((0:Int)).toNat=0 from rfl] at hx144_1)
               (try rw [show 0*2=0 from rfl] at hx144_1)
               (try rw [Addr.add_zero'] at hx144_1)
               have HR144_1:=mA hi144_1
               have HC144_1:=mA hl144_1
               clear hi144_1 hl144_1
               replace p144:=eq_true p144
               replace q144:=eq_true q144
               refine start_ (n:=11) (S:=fun w'=>w'.cell? ad144=some (.int .i64 ((rd_T36 t102 0).f0))∧w'.cell? ⟨ad144.block,ad144.off+1,none⟩=some (.slice A144_1 ((rd_T36 t102 0).f1).length c144_1)) (ds:=[]) #[O,O,O,O,O,O,O,O,O,O,O] (by kernel_rfl) rfl rfl ⟨hx144_0,hx144_1⟩ (fun hHeld=>?_);refine with_tabW laws_FnNeedlessClaims.tab18 laws_FnNeedlessClaims.bits18 (fun HT_ HW_=>?_)
               generalize wc.drew=w53 at HO_4 HO_5 HB HL144_1 HR144_1 hx144_0 hx144_1 hHeld ⊢
               refine pure_ (i:=0) (N:=some 77) (v:=?_) (a':=?_) #[I,O,O,O,O,O,O,O,O,O,O] rfl rfl (any_of HT_.out (by kernel_rfl)) (fun _ _ _ h=>h) (Or.inl ⟨by rfl,?_⟩) ?_ ?_
               rotate_left
               ·intro w'
                go_simp
                with_reducible rfl
               rotate_left
               ·simp only [Act.put,sA,sZ,sS,i64_w,i32_w]
                rfl
               refine pure_ (i:=2) (N:=some 79) (v:=?_) (a':=?_) #[I,O,I,O,O,O,O,O,O,O,O] rfl rfl (any_of HT_.out (by kernel_rfl)) (fun _ _ _ h=>h) (Or.inl ⟨by rfl,?_⟩) ?_ ?_
               rotate_left
               ·intro w'
                go_simp
                with_reducible rfl
               rotate_left
               ·simp only [Act.put,sA,sZ,sS,i64_w,i32_w]
                rfl
               refine pure_ (i:=4) (N:=some 81) (v:=?_) (a':=?_) #[I,O,I,O,I,O,O,O,O,O,O] rfl rfl (any_of HT_.out (by kernel_rfl)) (fun _ _ _ h=>h) (Or.inl ⟨by rfl,?_⟩) ?_ ?_
               rotate_left
               ·intro w'
                go_simp
                with_reducible rfl
               rotate_left
               ·simp only [Act.put,sA,sZ,sS,i64_w,i32_w]
                rfl
               refine pure_ (i:=5) (N:=some 82) (v:=?_) (a':=?_) #[I,O,I,O,I,I,O,O,O,O,O] rfl rfl (any_of HT_.out (by kernel_rfl)) (fun _ _ _ h=>h) (Or.inl ⟨by rfl,?_⟩) ?_ ?_
               rotate_left
               ·intro w'
                go_simp
                with_reducible rfl
               rotate_left
               ·simp only [Act.put,sA,sZ,sS,i64_w,i32_w]
                rfl
               refine take_ (i:=6) (N:=some 83) (v:=?_) (a':=?_) #[I,O,I,O,I,I,I,O,O,O,O] rfl rfl (take_ofW HT_.out HW_.out (by kernel_rfl)) (fun _ _ _ h=>h) (Or.inl ⟨by rfl,?_⟩) hHeld ?_ ?_
               rotate_left
               ·rintro w' ⟨s0,s1⟩
                go_simp
                with_reducible rfl
               rotate_left
               ·simp only [Act.put,sA,sZ,sS,i64_w,i32_w]
                rfl
               refine join_ (σ:=Value×Value×Value) 3 #[I,I,I,I,I,I,I,I,O,O,O] (fun s_=>[(78,s_.1),(80,s_.2.1),(84,s_.2.2)]) (fun s_ w'=>(w'.cell? ad144=some (.int .i64 ((rd_T36 t102 0).f0))∧w'.cell? ⟨ad144.block,ad144.off+1,none⟩=some (.slice A144_1 ((rd_T36 t102 0).f1).length c144_1))∧(Kd.V k33 33 w' w.heap.size (fun k_=>some k_≠(s_.2.1:Value).ownBlock∧some k_≠(s_.2.2:Value).ownBlock∧some k_≠(.slice (some ad144) t102.length co11:Value).ownBlock∧some k_≠(.slice Ao14 t105.length co14:Value).ownBlock) (.slice A144_1 ((rd_T36 t102 0).f1).length c144_1) ((rd_T36 t102 0).f1))∧(Kd.N k36 36 w' w.heap.size (fun k_=>some k_≠(s_.2.2:Value).ownBlock∧some k_≠(.slice Ao14 t105.length co14:Value).ownBlock) s_.2.1 y141)∧(Kd.N k36 36 w' w.heap.size (fun k_=>some k_≠(s_.2.1:Value).ownBlock∧some k_≠(.slice (some ad144) t102.length co11:Value).ownBlock∧some k_≠(.slice Ao14 t105.length co14:Value).ownBlock) s_.2.2 y145)∧(Kd.N k36 36 w' w.heap.size (fun k_=>some k_≠(s_.2.1:Value).ownBlock∧some k_≠(s_.2.2:Value).ownBlock∧some k_≠(.slice Ao14 t105.length co14:Value).ownBlock) (.slice (some ad144) t102.length co11) t102)∧(Kd.R (Kd.int .i64) 3 w' w.heap.size (fun _=>True) (.slice Ao14 t105.length co14) t105)∧(Below w.heap.size w w')) ?_ ?_
               rotate_left
               ·intro hCont
                refine two_ (i:=1) (j:=7) (Ni:=some 78) (Nj:=some 84) #[I,I,I,O,I,I,I,O,O,O,O] #[I,O,I,O,I,I,I,I,O,O,O] rfl rfl rfl rfl (two_of HT_.out (by kernel_rfl)) (by decide) (by decide) (fun K hK=>?_) (fun K hK=>?_)
                ·skip
                 refine Kd.N_lit_step k36 _ 36 ?hg (N':=78) ?hd (xs:=([]:List (S36))) (inner:=[]) (ok:=(fun k_=>some k_≠(.slice (some ad144) t102.length co11:Value).ownBlock∧some k_≠(.slice Ao14 t105.length co14:Value).ownBlock)) (okp:=(fun k_=>some k_≠(.slice (some ad144) t102.length co11:Value).ownBlock∧some k_≠(.slice Ao14 t105.length co14:Value).ownBlock)) ?hr ?hp (fun _ hk=>hk) ((show ∀ k_,w53.heap.size≤k_→(fun k_=>some k_≠(.slice (some ad144) t102.length co11:Value).ownBlock∧some k_≠(.slice Ao14 t105.length co14:Value).ownBlock) k_ from fun k_ hk=>⟨Kd.fresh' (Kd.N_lt (by (with_reducible repeat (first|apply nA|apply nN|apply nD));exact HO_4.out)) k_ hk,Kd.fresh' (rL (by (with_reducible repeat (first|apply rA|apply rN|apply rD));exact HO_5.out)) k_ hk⟩) _ (Nat.le_refl _)) (Below.refl _ _) (Nat.le_refl _) (by simp) ?_;(case hd=>rfl);(case hg=>rfl);(case hr=>first|(go_simp;done)|(go_simp;rfl));(case hp=>exact (Reps.none _ _))
                 intro v139 w54 ho55 hb hg_ hnew_
                 have HS0_:=(hb.cell (World.block_lt_of_cell? _ _ (hHeld.1))).trans (hHeld.1)
                 have HS1_:=(hb.cell (World.block_lt_of_cell? _ _ (hHeld.2))).trans (hHeld.2)
                 clear hg_ hnew_
                 (first|rw [←Ny138.out] at ho55|(simp only [Int.reduceToNat] at ho55;rw [←Ny138.out] at ho55))
                 have n0_:=mA (Kd.N_elder' (by (with_reducible repeat (first|apply nA|apply nN|apply nD));exact HO_4.out) (Kd.N_base ho55) hb)
                 have n1_:=mA (rB (by (with_reducible repeat (first|apply rA|apply rN|apply rD));exact HO_5.out) hb)
                 have n2_:=mA (Kd.V_elder' (by (with_reducible repeat (first|apply Kd.V_alloc|apply Kd.V_drewN|apply Kd.V_drew));exact HL144_1.out) (Kd.N_base ho55) hb)
                 have n3_:=mA (Kd.N_lower ho55 (bZ (by repeat (first|(with_reducible first|exact HB.out|apply bA|apply bN|apply bD)|exact HB.out))))
                 have n4_:=mA (Kd.C_below (by repeat (first|(with_reducible exact HR144_1.out)|(with_reducible refine cA ?_ _)|(with_reducible refine cN ?_ _)|(with_reducible refine cD ?_)|exact HR144_1.out)) hb)
                 have n5_:=mA (bT (by repeat (first|(with_reducible first|exact HB.out|apply bA|apply bN|apply bD)|exact HB.out)) hb)
                 clear HO_4
                 clear HO_5
                 clear HL144_1
                 clear HR144_1
                 clear HB
                 have HO_4:=n0_
                 have HO_5:=n1_
                 have HL144_1:=n2_
                 have HO140:=n3_
                 have HR144_1:=n4_
                 have HB:=n5_
                 clear n0_ n1_ n2_ n3_ n4_ n5_
                 clear hb ho55
                 refine hK.out _ _ ⟨HS0_,HS1_⟩ (fun hHeld=>?_)
                 clear hK K
                 refine norm_ (a':=?_) ?_ ?_
                 rotate_left
                 ·show Act.put _ (some 78) _=_
                  simp only [Act.put,sA,sZ,sS,i64_w,i32_w]
                  rfl
                 refine two_ (i:=3) (j:=7) (Ni:=some 80) (Nj:=some 84) #[I,I,I,I,I,I,I,O,O,O,O] #[I,I,I,O,I,I,I,I,O,O,O] rfl rfl rfl rfl (two_of HT_.out (by kernel_rfl)) (by decide) (by decide) (fun K hK=>?_) (fun K hK=>?_)
                 ·skip
                  refine Kd.N_append_rows_step k36 (w0:=w) w.heap.size (by rfl) (.tmp 78) (.tmp 79) 23 36 (.agg #[(.int .i64 0),(.slice none 0 0)]) 32 rfl Try.underlying23 info36 rfl (by decide) (by omega) v139 y138 t102 _ _ _ (fun k_=>some k_≠(.slice Ao14 t105.length co14:Value).ownBlock) (fun k_=>((fun k_=>some k_≠(.slice Ao14 t105.length co14:Value).ownBlock)) k_∧some k_≠(v139:Value).ownBlock) rfl rfl ?aO ?aR (fun _ hk=>hk) ?aF ?aB ?aS ?aL ?_
                  (case aR=>exact (by skip;exact Kd.N_F (Kd.N_mono (ok':=(fun k_=>((fun k_=>some k_≠(.slice Ao14 t105.length co14:Value).ownBlock)) k_∧some k_≠(v139:Value).ownBlock)) (HO_4.out) (fun k_ hk=>⟨hk.1,hk.2⟩))))
                  (case aB=>exact (by repeat (first|(with_reducible first|exact HB.out|apply bA|apply bN|apply bD)|exact HB.out)))
                  (case aF=>exact (fun k_ hk=>Kd.fresh' (rL (by (with_reducible repeat (first|apply rA|apply rN|apply rD));exact HO_5.out)) k_ hk))
                  (case aO=>exact (by (with_reducible repeat (first|apply nA|apply nN|apply nD));exact Kd.N_mono HO140.out (fun _ hk=>hk.2)))
                  (case aS=>exact (bZ (by repeat (first|(with_reducible first|exact HB.out|apply bA|apply bN|apply bD)|exact HB.out))))
                  (case aL=>have:=LMc44.out;omega)
                  intro v142 w56 ho hb hg hat
                  have HS0_:=cell_grown hg (hHeld.1) (by first|(rw [add_block];exact (by first|(intro e_;have h_:=HO140.out.1 _ e_.symm;first|exact h_ rfl|exact h_.1 rfl|exact h_.2 rfl|exact h_.1.1 rfl|exact h_.1.2 rfl|exact h_.2.1 rfl|exact h_.2.2 rfl|exact h_.1.1.1 rfl|exact h_.1.1.2 rfl|exact h_.2.2.1 rfl|exact h_.2.2.2 rfl)|(have h_:=HO_4.out.1 _ rfl;first|exact h_|exact h_.1|exact h_.2|exact h_.1.1|exact h_.1.2|exact h_.2.1|exact h_.2.2|exact h_.1.1.1|exact h_.1.1.2|exact h_.2.2.1|exact h_.2.2.2)))|(show some (Addr.add _ _).block≠_;rw [add_block];exact (by first|(intro e_;have h_:=HO140.out.1 _ e_.symm;first|exact h_ rfl|exact h_.1 rfl|exact h_.2 rfl|exact h_.1.1 rfl|exact h_.1.2 rfl|exact h_.2.1 rfl|exact h_.2.2 rfl|exact h_.1.1.1 rfl|exact h_.1.1.2 rfl|exact h_.2.2.1 rfl|exact h_.2.2.2 rfl)|(have h_:=HO_4.out.1 _ rfl;first|exact h_|exact h_.1|exact h_.2|exact h_.1.1|exact h_.1.2|exact h_.2.1|exact h_.2.2|exact h_.1.1.1|exact h_.1.1.2|exact h_.2.2.1|exact h_.2.2.2)))|exact (by first|(intro e_;have h_:=HO140.out.1 _ e_.symm;first|exact h_ rfl|exact h_.1 rfl|exact h_.2 rfl|exact h_.1.1 rfl|exact h_.1.2 rfl|exact h_.2.1 rfl|exact h_.2.2 rfl|exact h_.1.1.1 rfl|exact h_.1.1.2 rfl|exact h_.2.2.1 rfl|exact h_.2.2.2 rfl)|(have h_:=HO_4.out.1 _ rfl;first|exact h_|exact h_.1|exact h_.2|exact h_.1.1|exact h_.1.2|exact h_.2.1|exact h_.2.2|exact h_.1.1.1|exact h_.1.1.2|exact h_.2.2.1|exact h_.2.2.2)))
                  have HS1_:=cell_grown hg (hHeld.2) (by first|(rw [add_block];exact (by first|(intro e_;have h_:=HO140.out.1 _ e_.symm;first|exact h_ rfl|exact h_.1 rfl|exact h_.2 rfl|exact h_.1.1 rfl|exact h_.1.2 rfl|exact h_.2.1 rfl|exact h_.2.2 rfl|exact h_.1.1.1 rfl|exact h_.1.1.2 rfl|exact h_.2.2.1 rfl|exact h_.2.2.2 rfl)|(have h_:=HO_4.out.1 _ rfl;first|exact h_|exact h_.1|exact h_.2|exact h_.1.1|exact h_.1.2|exact h_.2.1|exact h_.2.2|exact h_.1.1.1|exact h_.1.1.2|exact h_.2.2.1|exact h_.2.2.2)))|(show some (Addr.add _ _).block≠_;rw [add_block];exact (by first|(intro e_;have h_:=HO140.out.1 _ e_.symm;first|exact h_ rfl|exact h_.1 rfl|exact h_.2 rfl|exact h_.1.1 rfl|exact h_.1.2 rfl|exact h_.2.1 rfl|exact h_.2.2 rfl|exact h_.1.1.1 rfl|exact h_.1.1.2 rfl|exact h_.2.2.1 rfl|exact h_.2.2.2 rfl)|(have h_:=HO_4.out.1 _ rfl;first|exact h_|exact h_.1|exact h_.2|exact h_.1.1|exact h_.1.2|exact h_.2.1|exact h_.2.2|exact h_.1.1.1|exact h_.1.1.2|exact h_.2.2.1|exact h_.2.2.2)))|exact (by first|(intro e_;have h_:=HO140.out.1 _ e_.symm;first|exact h_ rfl|exact h_.1 rfl|exact h_.2 rfl|exact h_.1.1 rfl|exact h_.1.2 rfl|exact h_.2.1 rfl|exact h_.2.2 rfl|exact h_.1.1.1 rfl|exact h_.1.1.2 rfl|exact h_.2.2.1 rfl|exact h_.2.2.2 rfl)|(have h_:=HO_4.out.1 _ rfl;first|exact h_|exact h_.1|exact h_.2|exact h_.1.1|exact h_.1.2|exact h_.2.1|exact h_.2.2|exact h_.1.1.1|exact h_.1.1.2|exact h_.2.2.1|exact h_.2.2.2)))
                  rw [←Ny141.out] at ho
                  have n0_:=mA (Kd.N_afterv (ok:=(fun k_=>some k_≠(.slice Ao14 t105.length co14:Value).ownBlock)) (by (with_reducible repeat (first|apply nA|apply nN|apply nD));exact HO_4.out) hg hat)
                  have n1_:=mA (Kd.R_over' (by (with_reducible repeat (first|apply rA|apply rN|apply rD));exact HO_5.out) (Kd.N_typed (by (with_reducible repeat (first|apply nA|apply nN|apply nD));exact HO140.out)) (by decide) hg)
                  have n2_:=mA (Kd.V_afterv (ok:=(fun k_=>some k_≠(.slice (some ad144) t102.length co11:Value).ownBlock∧some k_≠(.slice Ao14 t105.length co14:Value).ownBlock)) (by (with_reducible repeat (first|apply Kd.V_alloc|apply Kd.V_drewN|apply Kd.V_drew));exact Kd.V_mono HL144_1.out (fun _ hk=>⟨⟨hk.1.2,hk.1.1⟩,hk.2⟩)) hg hat)
                  have n3_:=mA (hb)
                  have n4_:=mA (ho)
                  clear HO_4
                  clear HO_5
                  clear HL144_1
                  clear HB
                  clear HO140
                  have HO_4:=n0_
                  have HO_5:=n1_
                  have HL144_1:=n2_
                  have HB:=n3_
                  have HO143:=n4_
                  clear n0_ n1_ n2_ n3_ n4_
                  clear ho hb hg hat
                  refine hK.out _ _ ⟨HS0_,HS1_⟩ (fun hHeld=>?_)
                  clear hK K
                  refine norm_ (a':=?_) ?_ ?_
                  rotate_left
                  ·show Act.put _ (some 80) _=_
                   simp only [Act.put,sA,sZ,sS,i64_w,i32_w]
                   rfl
                  refine one_ (i:=7) (N:=some 84) #[I,I,I,I,I,I,I,I,O,O,O] rfl rfl (one_of HT_.out (by kernel_rfl)) (by decide) (fun K hK=>?_)
                  refine Kd.N_lit_step k36 _ 36 ?hg (N':=84) ?hd (xs:=([(⟨(rd_T36 t102 0).f0,(rd_T36 t102 0).f1⟩:S36)]:List (S36))) (inner:=[.int .i64 ((rd_T36 t102 0).f0),.slice A144_1 ((rd_T36 t102 0).f1).length c144_1]) (ok:=(fun k_=>some k_≠(.slice (some ad144) t102.length co11:Value).ownBlock∧some k_≠(.slice Ao14 t105.length co14:Value).ownBlock∧some k_≠(v142:Value).ownBlock)) (okp:=(fun k_=>some k_≠(.slice (some ad144) t102.length co11:Value).ownBlock∧some k_≠(.slice Ao14 t105.length co14:Value).ownBlock∧some k_≠(v142:Value).ownBlock)) ?hr ?hp (fun _ hk=>hk) ((show ∀ k_,w56.heap.size≤k_→(fun k_=>some k_≠(.slice (some ad144) t102.length co11:Value).ownBlock∧some k_≠(.slice Ao14 t105.length co14:Value).ownBlock∧some k_≠(v142:Value).ownBlock) k_ from fun k_ hk=>⟨Kd.fresh' (Kd.N_lt (by (with_reducible repeat (first|apply nA|apply nN|apply nD));exact HO_4.out)) k_ hk,Kd.fresh' (rL (by (with_reducible repeat (first|apply rA|apply rN|apply rD));exact HO_5.out)) k_ hk,Kd.fresh' (Kd.N_lt (by (with_reducible repeat (first|apply nA|apply nN|apply nD));exact HO143.out)) k_ hk⟩) _ (Nat.le_refl _)) (Below.refl _ _) (Nat.le_refl _) (by simp) ?_;(case hd=>rfl);(case hg=>rfl);(case hr=>first|(go_simp;done)|(go_simp;rfl));(case hp=>exact (Reps.c2 (show Kd.FK k36 _ _ (⟨(rd_T36 t102 0).f0,(rd_T36 t102 0).f1⟩:S36) [.int .i64 ((rd_T36 t102 0).f0),.slice A144_1 ((rd_T36 t102 0).f1).length c144_1] from (k36_mkF _ _ (⟨(rd_T36 t102 0).f0,(rd_T36 t102 0).f1⟩:S36) (Kd.V_reads' (Kd.V_mono (ok':=(fun k_=>some k_≠(.slice (some ad144) t102.length co11:Value).ownBlock∧some k_≠(.slice Ao14 t105.length co14:Value).ownBlock∧some k_≠(v142:Value).ownBlock)) (HL144_1.out) (fun k_ hk=>⟨hk.1.1,⟨hk.1.2,hk.2⟩⟩))).2.1 (Kd.V_F (Kd.V_mono (ok':=(fun k_=>some k_≠(.slice (some ad144) t102.length co11:Value).ownBlock∧some k_≠(.slice Ao14 t105.length co14:Value).ownBlock∧some k_≠(v142:Value).ownBlock)) (HL144_1.out) (fun k_ hk=>⟨hk.1.1,⟨hk.1.2,hk.2⟩⟩))))) (Reps.none _ _)))
                  intro v146 w57 ho58 hb hg_ hnew_
                  have HS0_:=(hb.cell (World.block_lt_of_cell? _ _ (hHeld.1))).trans (hHeld.1)
                  have HS1_:=(hb.cell (World.block_lt_of_cell? _ _ (hHeld.2))).trans (hHeld.2)
                  clear hg_ hnew_
                  (first|rw [←Ny145.out] at ho58|(simp only [Int.reduceToNat] at ho58;rw [←Ny145.out] at ho58))
                  have n0_:=mA (Kd.N_elder' (by (with_reducible repeat (first|apply nA|apply nN|apply nD));exact HO_4.out) (Kd.N_base ho58) hb)
                  have n1_:=mA (rB (by (with_reducible repeat (first|apply rA|apply rN|apply rD));exact HO_5.out) hb)
                  have n2_:=mA (Kd.V_elder' (by (with_reducible repeat (first|apply Kd.V_alloc|apply Kd.V_drewN|apply Kd.V_drew));exact HL144_1.out) (Kd.N_base ho58) hb)
                  have n3_:=mA (Kd.N_elder' (by (with_reducible repeat (first|apply nA|apply nN|apply nD));exact HO143.out) (Kd.N_base ho58) hb)
                  have n4_:=mA (Kd.N_lower ho58 (bZ (by repeat (first|(with_reducible first|exact HB.out|apply bA|apply bN|apply bD)|exact HB.out))))
                  have n5_:=mA (bT (by repeat (first|(with_reducible first|exact HB.out|apply bA|apply bN|apply bD)|exact HB.out)) hb)
                  clear HO_4
                  clear HO_5
                  clear HL144_1
                  clear HO143
                  clear HB
                  have HO_4:=n0_
                  have HO_5:=n1_
                  have HL144_1:=n2_
                  have HO143:=n3_
                  have HO147:=n4_
                  have HB:=n5_
                  clear n0_ n1_ n2_ n3_ n4_ n5_
                  clear hb ho58
                  refine hK.out _ _ ⟨HS0_,HS1_⟩ (fun hHeld=>?_)
                  clear hK K
                  refine norm_ (a':=?_) ?_ ?_
                  rotate_left
                  ·show Act.put _ (some 84) _=_
                   simp only [Act.put,sA,sZ,sS,i64_w,i32_w]
                   rfl
                  exact norm_ (by simp only [putAll,Act.put,sA,sZ,sS]) (hCont (v139,v142,v146) _ ⟨hHeld,(by (with_reducible repeat (first|apply Kd.V_alloc|apply Kd.V_drewN|apply Kd.V_drew));exact Kd.V_mono HL144_1.out (fun _ hk=>⟨hk.1.2,⟨hk.2,⟨hk.1.1.1,hk.1.1.2⟩⟩⟩)),(by (with_reducible repeat (first|apply nA|apply nN|apply nD));exact Kd.N_mono HO143.out (fun _ hk=>⟨hk.2,hk.1⟩)),(by (with_reducible repeat (first|apply nA|apply nN|apply nD));exact Kd.N_mono HO147.out (fun _ hk=>⟨hk.2.2,⟨hk.1,hk.2.1⟩⟩)),(by (with_reducible repeat (first|apply nA|apply nN|apply nD));exact Kd.N_mono HO_4.out (fun _ hk=>⟨hk.1.2,⟨hk.2,hk.1.1⟩⟩)),(by (with_reducible repeat (first|apply rA|apply rN|apply rD));exact HO_5.out),(by repeat (first|(with_reducible first|exact HB.out|apply bA|apply bN|apply bD)|exact HB.out))⟩)
                 ·skip
                  refine Kd.N_lit_step k36 _ 36 ?hg (N':=84) ?hd (xs:=([(⟨(rd_T36 t102 0).f0,(rd_T36 t102 0).f1⟩:S36)]:List (S36))) (inner:=[.int .i64 ((rd_T36 t102 0).f0),.slice A144_1 ((rd_T36 t102 0).f1).length c144_1]) (ok:=(fun k_=>some k_≠(.slice (some ad144) t102.length co11:Value).ownBlock∧some k_≠(.slice Ao14 t105.length co14:Value).ownBlock∧some k_≠(v139:Value).ownBlock)) (okp:=(fun k_=>some k_≠(.slice (some ad144) t102.length co11:Value).ownBlock∧some k_≠(.slice Ao14 t105.length co14:Value).ownBlock∧some k_≠(v139:Value).ownBlock)) ?hr ?hp (fun _ hk=>hk) ((show ∀ k_,w54.heap.size≤k_→(fun k_=>some k_≠(.slice (some ad144) t102.length co11:Value).ownBlock∧some k_≠(.slice Ao14 t105.length co14:Value).ownBlock∧some k_≠(v139:Value).ownBlock) k_ from fun k_ hk=>⟨Kd.fresh' (Kd.N_lt (by (with_reducible repeat (first|apply nA|apply nN|apply nD));exact HO_4.out)) k_ hk,Kd.fresh' (rL (by (with_reducible repeat (first|apply rA|apply rN|apply rD));exact HO_5.out)) k_ hk,Kd.fresh' (Kd.N_lt (by (with_reducible repeat (first|apply nA|apply nN|apply nD));exact HO140.out)) k_ hk⟩) _ (Nat.le_refl _)) (Below.refl _ _) (Nat.le_refl _) (by simp) ?_;(case hd=>rfl);(case hg=>rfl);(case hr=>first|(go_simp;done)|(go_simp;rfl));(case hp=>exact (Reps.c2 (show Kd.FK k36 _ _ (⟨(rd_T36 t102 0).f0,(rd_T36 t102 0).f1⟩:S36) [.int .i64 ((rd_T36 t102 0).f0),.slice A144_1 ((rd_T36 t102 0).f1).length c144_1] from (k36_mkF _ _ (⟨(rd_T36 t102 0).f0,(rd_T36 t102 0).f1⟩:S36) (Kd.V_reads' (Kd.V_mono (ok':=(fun k_=>some k_≠(.slice (some ad144) t102.length co11:Value).ownBlock∧some k_≠(.slice Ao14 t105.length co14:Value).ownBlock∧some k_≠(v139:Value).ownBlock)) (HL144_1.out) (fun k_ hk=>⟨hk.1.2,⟨hk.1.1,hk.2⟩⟩))).2.1 (Kd.V_F (Kd.V_mono (ok':=(fun k_=>some k_≠(.slice (some ad144) t102.length co11:Value).ownBlock∧some k_≠(.slice Ao14 t105.length co14:Value).ownBlock∧some k_≠(v139:Value).ownBlock)) (HL144_1.out) (fun k_ hk=>⟨hk.1.2,⟨hk.1.1,hk.2⟩⟩))))) (Reps.none _ _)))
                  intro v146 w56 ho57 hb hg_ hnew_
                  have HS0_:=(hb.cell (World.block_lt_of_cell? _ _ (hHeld.1))).trans (hHeld.1)
                  have HS1_:=(hb.cell (World.block_lt_of_cell? _ _ (hHeld.2))).trans (hHeld.2)
                  clear hg_ hnew_
                  (first|rw [←Ny145.out] at ho57|(simp only [Int.reduceToNat] at ho57;rw [←Ny145.out] at ho57))
                  have n0_:=mA (Kd.N_elder' (by (with_reducible repeat (first|apply nA|apply nN|apply nD));exact HO_4.out) (Kd.N_base ho57) hb)
                  have n1_:=mA (rB (by (with_reducible repeat (first|apply rA|apply rN|apply rD));exact HO_5.out) hb)
                  have n2_:=mA (Kd.V_elder' (by (with_reducible repeat (first|apply Kd.V_alloc|apply Kd.V_drewN|apply Kd.V_drew));exact HL144_1.out) (Kd.N_base ho57) hb)
                  have n3_:=mA (Kd.N_elder' (by (with_reducible repeat (first|apply nA|apply nN|apply nD));exact HO140.out) (Kd.N_base ho57) hb)
                  have n4_:=mA (Kd.N_lower ho57 (bZ (by repeat (first|(with_reducible first|exact HB.out|apply bA|apply bN|apply bD)|exact HB.out))))
                  have n5_:=mA (Kd.C_below (by repeat (first|(with_reducible exact HR144_1.out)|(with_reducible refine cA ?_ _)|(with_reducible refine cN ?_ _)|(with_reducible refine cD ?_)|exact HR144_1.out)) hb)
                  have n6_:=mA (bT (by repeat (first|(with_reducible first|exact HB.out|apply bA|apply bN|apply bD)|exact HB.out)) hb)
                  clear HO_4
                  clear HO_5
                  clear HL144_1
                  clear HO140
                  clear HR144_1
                  clear HB
                  have HO_4:=n0_
                  have HO_5:=n1_
                  have HL144_1:=n2_
                  have HO140:=n3_
                  have HO147:=n4_
                  have HR144_1:=n5_
                  have HB:=n6_
                  clear n0_ n1_ n2_ n3_ n4_ n5_ n6_
                  clear hb ho57
                  refine hK.out _ _ ⟨HS0_,HS1_⟩ (fun hHeld=>?_)
                  clear hK K
                  refine norm_ (a':=?_) ?_ ?_
                  rotate_left
                  ·show Act.put _ (some 84) _=_
                   simp only [Act.put,sA,sZ,sS,i64_w,i32_w]
                   rfl
                  refine one_ (i:=3) (N:=some 80) #[I,I,I,I,I,I,I,I,O,O,O] rfl rfl (one_of HT_.out (by kernel_rfl)) (by decide) (fun K hK=>?_)
                  refine Kd.N_append_rows_step k36 (w0:=w) w.heap.size (by rfl) (.tmp 78) (.tmp 79) 23 36 (.agg #[(.int .i64 0),(.slice none 0 0)]) 32 rfl Try.underlying23 info36 rfl (by decide) (by omega) v139 y138 t102 _ _ _ (fun k_=>some k_≠(.slice Ao14 t105.length co14:Value).ownBlock∧some k_≠(v146:Value).ownBlock) (fun k_=>((fun k_=>some k_≠(.slice Ao14 t105.length co14:Value).ownBlock∧some k_≠(v146:Value).ownBlock)) k_∧some k_≠(v139:Value).ownBlock) rfl rfl ?aO ?aR (fun _ hk=>hk) ?aF ?aB ?aS ?aL ?_
                  (case aR=>exact (by skip;exact Kd.N_F (Kd.N_mono (ok':=(fun k_=>((fun k_=>some k_≠(.slice Ao14 t105.length co14:Value).ownBlock∧some k_≠(v146:Value).ownBlock)) k_∧some k_≠(v139:Value).ownBlock)) (HO_4.out) (fun k_ hk=>⟨⟨hk.1.1,hk.2⟩,hk.1.2⟩))))
                  (case aB=>exact (by repeat (first|(with_reducible first|exact HB.out|apply bA|apply bN|apply bD)|exact HB.out)))
                  (case aF=>exact (fun k_ hk=>⟨Kd.fresh' (rL (by (with_reducible repeat (first|apply rA|apply rN|apply rD));exact HO_5.out)) k_ hk,Kd.fresh' (Kd.N_lt (by (with_reducible repeat (first|apply nA|apply nN|apply nD));exact HO147.out)) k_ hk⟩))
                  (case aO=>exact (by (with_reducible repeat (first|apply nA|apply nN|apply nD));exact Kd.N_mono HO140.out (fun _ hk=>⟨hk.1.2,hk.2⟩)))
                  (case aS=>exact (bZ (by repeat (first|(with_reducible first|exact HB.out|apply bA|apply bN|apply bD)|exact HB.out))))
                  (case aL=>have:=LMc44.out;omega)
                  intro v142 w58 ho hb hg hat
                  have HS0_:=cell_grown hg (hHeld.1) (by first|(rw [add_block];exact (by first|(intro e_;have h_:=HO140.out.1 _ e_.symm;first|exact h_ rfl|exact h_.1 rfl|exact h_.2 rfl|exact h_.1.1 rfl|exact h_.1.2 rfl|exact h_.2.1 rfl|exact h_.2.2 rfl|exact h_.1.1.1 rfl|exact h_.1.1.2 rfl|exact h_.2.2.1 rfl|exact h_.2.2.2 rfl)|(have h_:=HO_4.out.1 _ rfl;first|exact h_|exact h_.1|exact h_.2|exact h_.1.1|exact h_.1.2|exact h_.2.1|exact h_.2.2|exact h_.1.1.1|exact h_.1.1.2|exact h_.2.2.1|exact h_.2.2.2)))|(show some (Addr.add _ _).block≠_;rw [add_block];exact (by first|(intro e_;have h_:=HO140.out.1 _ e_.symm;first|exact h_ rfl|exact h_.1 rfl|exact h_.2 rfl|exact h_.1.1 rfl|exact h_.1.2 rfl|exact h_.2.1 rfl|exact h_.2.2 rfl|exact h_.1.1.1 rfl|exact h_.1.1.2 rfl|exact h_.2.2.1 rfl|exact h_.2.2.2 rfl)|(have h_:=HO_4.out.1 _ rfl;first|exact h_|exact h_.1|exact h_.2|exact h_.1.1|exact h_.1.2|exact h_.2.1|exact h_.2.2|exact h_.1.1.1|exact h_.1.1.2|exact h_.2.2.1|exact h_.2.2.2)))|exact (by first|(intro e_;have h_:=HO140.out.1 _ e_.symm;first|exact h_ rfl|exact h_.1 rfl|exact h_.2 rfl|exact h_.1.1 rfl|exact h_.1.2 rfl|exact h_.2.1 rfl|exact h_.2.2 rfl|exact h_.1.1.1 rfl|exact h_.1.1.2 rfl|exact h_.2.2.1 rfl|exact h_.2.2.2 rfl)|(have h_:=HO_4.out.1 _ rfl;first|exact h_|exact h_.1|exact h_.2|exact h_.1.1|exact h_.1.2|exact h_.2.1|exact h_.2.2|exact h_.1.1.1|exact h_.1.1.2|exact h_.2.2.1|exact h_.2.2.2)))
                  have HS1_:=cell_grown hg (hHeld.2) (by first|(rw [add_block];exact (by first|(intro e_;have h_:=HO140.out.1 _ e_.symm;first|exact h_ rfl|exact h_.1 rfl|exact h_.2 rfl|exact h_.1.1 rfl|exact h_.1.2 rfl|exact h_.2.1 rfl|exact h_.2.2 rfl|exact h_.1.1.1 rfl|exact h_.1.1.2 rfl|exact h_.2.2.1 rfl|exact h_.2.2.2 rfl)|(have h_:=HO_4.out.1 _ rfl;first|exact h_|exact h_.1|exact h_.2|exact h_.1.1|exact h_.1.2|exact h_.2.1|exact h_.2.2|exact h_.1.1.1|exact h_.1.1.2|exact h_.2.2.1|exact h_.2.2.2)))|(show some (Addr.add _ _).block≠_;rw [add_block];exact (by first|(intro e_;have h_:=HO140.out.1 _ e_.symm;first|exact h_ rfl|exact h_.1 rfl|exact h_.2 rfl|exact h_.1.1 rfl|exact h_.1.2 rfl|exact h_.2.1 rfl|exact h_.2.2 rfl|exact h_.1.1.1 rfl|exact h_.1.1.2 rfl|exact h_.2.2.1 rfl|exact h_.2.2.2 rfl)|(have h_:=HO_4.out.1 _ rfl;first|exact h_|exact h_.1|exact h_.2|exact h_.1.1|exact h_.1.2|exact h_.2.1|exact h_.2.2|exact h_.1.1.1|exact h_.1.1.2|exact h_.2.2.1|exact h_.2.2.2)))|exact (by first|(intro e_;have h_:=HO140.out.1 _ e_.symm;first|exact h_ rfl|exact h_.1 rfl|exact h_.2 rfl|exact h_.1.1 rfl|exact h_.1.2 rfl|exact h_.2.1 rfl|exact h_.2.2 rfl|exact h_.1.1.1 rfl|exact h_.1.1.2 rfl|exact h_.2.2.1 rfl|exact h_.2.2.2 rfl)|(have h_:=HO_4.out.1 _ rfl;first|exact h_|exact h_.1|exact h_.2|exact h_.1.1|exact h_.1.2|exact h_.2.1|exact h_.2.2|exact h_.1.1.1|exact h_.1.1.2|exact h_.2.2.1|exact h_.2.2.2)))
                  rw [←Ny141.out] at ho
                  have n0_:=mA (Kd.N_afterv (ok:=(fun k_=>some k_≠(.slice Ao14 t105.length co14:Value).ownBlock∧some k_≠(v146:Value).ownBlock)) (by (with_reducible repeat (first|apply nA|apply nN|apply nD));exact Kd.N_mono HO_4.out (fun _ hk=>⟨⟨hk.1.1,hk.2⟩,hk.1.2⟩)) hg hat)
                  have n1_:=mA (Kd.R_over' (by (with_reducible repeat (first|apply rA|apply rN|apply rD));exact HO_5.out) (Kd.N_typed (by (with_reducible repeat (first|apply nA|apply nN|apply nD));exact HO140.out)) (by decide) hg)
                  have n2_:=mA (Kd.V_afterv (ok:=(fun k_=>some k_≠(.slice (some ad144) t102.length co11:Value).ownBlock∧some k_≠(.slice Ao14 t105.length co14:Value).ownBlock∧some k_≠(v146:Value).ownBlock)) (by (with_reducible repeat (first|apply Kd.V_alloc|apply Kd.V_drewN|apply Kd.V_drew));exact Kd.V_mono HL144_1.out (fun _ hk=>⟨⟨hk.1.1.2,⟨hk.1.1.1,hk.2⟩⟩,hk.1.2⟩)) hg hat)
                  have n3_:=mA (Kd.N_afterv (ok:=(fun k_=>some k_≠(.slice (some ad144) t102.length co11:Value).ownBlock∧some k_≠(.slice Ao14 t105.length co14:Value).ownBlock)) (by (with_reducible repeat (first|apply nA|apply nN|apply nD));exact Kd.N_mono HO147.out (fun _ hk=>⟨⟨hk.1,hk.2.1⟩,hk.2.2⟩)) hg hat)
                  have n4_:=mA (hb)
                  have n5_:=mA (ho)
                  clear HO_4
                  clear HO_5
                  clear HL144_1
                  clear HO147
                  clear HB
                  clear HO140
                  have HO_4:=n0_
                  have HO_5:=n1_
                  have HL144_1:=n2_
                  have HO147:=n3_
                  have HB:=n4_
                  have HO143:=n5_
                  clear n0_ n1_ n2_ n3_ n4_ n5_
                  clear ho hb hg hat
                  refine hK.out _ _ ⟨HS0_,HS1_⟩ (fun hHeld=>?_)
                  clear hK K
                  refine norm_ (a':=?_) ?_ ?_
                  rotate_left
                  ·show Act.put _ (some 80) _=_
                   simp only [Act.put,sA,sZ,sS,i64_w,i32_w]
                   rfl
                  exact norm_ (by simp only [putAll,Act.put,sA,sZ,sS]) (hCont (v139,v142,v146) _ ⟨hHeld,(by (with_reducible repeat (first|apply Kd.V_alloc|apply Kd.V_drewN|apply Kd.V_drew));exact Kd.V_mono HL144_1.out (fun _ hk=>⟨hk.2,⟨hk.1.2.2,⟨hk.1.1,hk.1.2.1⟩⟩⟩)),(by (with_reducible repeat (first|apply nA|apply nN|apply nD));exact Kd.N_mono HO143.out (fun _ hk=>⟨hk.2,hk.1⟩)),(by (with_reducible repeat (first|apply nA|apply nN|apply nD));exact Kd.N_mono HO147.out (fun _ hk=>⟨hk.2,⟨hk.1.1,hk.1.2⟩⟩)),(by (with_reducible repeat (first|apply nA|apply nN|apply nD));exact Kd.N_mono HO_4.out (fun _ hk=>⟨hk.2,⟨hk.1.2,hk.1.1⟩⟩)),(by (with_reducible repeat (first|apply rA|apply rN|apply rD));exact HO_5.out),(by repeat (first|(with_reducible first|exact HB.out|apply bA|apply bN|apply bD)|exact HB.out))⟩)
                ·skip
                 refine Kd.N_lit_step k36 _ 36 ?hg (N':=84) ?hd (xs:=([(⟨(rd_T36 t102 0).f0,(rd_T36 t102 0).f1⟩:S36)]:List (S36))) (inner:=[.int .i64 ((rd_T36 t102 0).f0),.slice A144_1 ((rd_T36 t102 0).f1).length c144_1]) (ok:=(fun k_=>some k_≠(.slice (some ad144) t102.length co11:Value).ownBlock∧some k_≠(.slice Ao14 t105.length co14:Value).ownBlock)) (okp:=(fun k_=>some k_≠(.slice (some ad144) t102.length co11:Value).ownBlock∧some k_≠(.slice Ao14 t105.length co14:Value).ownBlock)) ?hr ?hp (fun _ hk=>hk) ((show ∀ k_,w53.heap.size≤k_→(fun k_=>some k_≠(.slice (some ad144) t102.length co11:Value).ownBlock∧some k_≠(.slice Ao14 t105.length co14:Value).ownBlock) k_ from fun k_ hk=>⟨Kd.fresh' (Kd.N_lt (by (with_reducible repeat (first|apply nA|apply nN|apply nD));exact HO_4.out)) k_ hk,Kd.fresh' (rL (by (with_reducible repeat (first|apply rA|apply rN|apply rD));exact HO_5.out)) k_ hk⟩) _ (Nat.le_refl _)) (Below.refl _ _) (Nat.le_refl _) (by simp) ?_;(case hd=>rfl);(case hg=>rfl);(case hr=>first|(go_simp;done)|(go_simp;rfl));(case hp=>exact (Reps.c2 (show Kd.FK k36 _ _ (⟨(rd_T36 t102 0).f0,(rd_T36 t102 0).f1⟩:S36) [.int .i64 ((rd_T36 t102 0).f0),.slice A144_1 ((rd_T36 t102 0).f1).length c144_1] from (k36_mkF _ _ (⟨(rd_T36 t102 0).f0,(rd_T36 t102 0).f1⟩:S36) (Kd.V_reads' (Kd.V_mono (ok':=(fun k_=>some k_≠(.slice (some ad144) t102.length co11:Value).ownBlock∧some k_≠(.slice Ao14 t105.length co14:Value).ownBlock)) (HL144_1.out) (fun k_ hk=>⟨hk.2,hk.1⟩))).2.1 (Kd.V_F (Kd.V_mono (ok':=(fun k_=>some k_≠(.slice (some ad144) t102.length co11:Value).ownBlock∧some k_≠(.slice Ao14 t105.length co14:Value).ownBlock)) (HL144_1.out) (fun k_ hk=>⟨hk.2,hk.1⟩))))) (Reps.none _ _)))
                 intro v146 w54 ho55 hb hg_ hnew_
                 have HS0_:=(hb.cell (World.block_lt_of_cell? _ _ (hHeld.1))).trans (hHeld.1)
                 have HS1_:=(hb.cell (World.block_lt_of_cell? _ _ (hHeld.2))).trans (hHeld.2)
                 clear hg_ hnew_
                 (first|rw [←Ny145.out] at ho55|(simp only [Int.reduceToNat] at ho55;rw [←Ny145.out] at ho55))
                 have n0_:=mA (Kd.N_elder' (by (with_reducible repeat (first|apply nA|apply nN|apply nD));exact HO_4.out) (Kd.N_base ho55) hb)
                 have n1_:=mA (rB (by (with_reducible repeat (first|apply rA|apply rN|apply rD));exact HO_5.out) hb)
                 have n2_:=mA (Kd.V_elder' (by (with_reducible repeat (first|apply Kd.V_alloc|apply Kd.V_drewN|apply Kd.V_drew));exact HL144_1.out) (Kd.N_base ho55) hb)
                 have n3_:=mA (Kd.N_lower ho55 (bZ (by repeat (first|(with_reducible first|exact HB.out|apply bA|apply bN|apply bD)|exact HB.out))))
                 have n4_:=mA (Kd.C_below (by repeat (first|(with_reducible exact HR144_1.out)|(with_reducible refine cA ?_ _)|(with_reducible refine cN ?_ _)|(with_reducible refine cD ?_)|exact HR144_1.out)) hb)
                 have n5_:=mA (bT (by repeat (first|(with_reducible first|exact HB.out|apply bA|apply bN|apply bD)|exact HB.out)) hb)
                 clear HO_4
                 clear HO_5
                 clear HL144_1
                 clear HR144_1
                 clear HB
                 have HO_4:=n0_
                 have HO_5:=n1_
                 have HL144_1:=n2_
                 have HO147:=n3_
                 have HR144_1:=n4_
                 have HB:=n5_
                 clear n0_ n1_ n2_ n3_ n4_ n5_
                 clear hb ho55
                 refine hK.out _ _ ⟨HS0_,HS1_⟩ (fun hHeld=>?_)
                 clear hK K
                 refine norm_ (a':=?_) ?_ ?_
                 rotate_left
                 ·show Act.put _ (some 84) _=_
                  simp only [Act.put,sA,sZ,sS,i64_w,i32_w]
                  rfl
                 refine one_ (i:=1) (N:=some 78) #[I,I,I,O,I,I,I,I,O,O,O] rfl rfl (one_of HT_.out (by kernel_rfl)) (by decide) (fun K hK=>?_)
                 refine Kd.N_lit_step k36 _ 36 ?hg (N':=78) ?hd (xs:=([]:List (S36))) (inner:=[]) (ok:=(fun k_=>some k_≠(.slice (some ad144) t102.length co11:Value).ownBlock∧some k_≠(.slice Ao14 t105.length co14:Value).ownBlock∧some k_≠(v146:Value).ownBlock)) (okp:=(fun k_=>some k_≠(.slice (some ad144) t102.length co11:Value).ownBlock∧some k_≠(.slice Ao14 t105.length co14:Value).ownBlock∧some k_≠(v146:Value).ownBlock)) ?hr ?hp (fun _ hk=>hk) ((show ∀ k_,w54.heap.size≤k_→(fun k_=>some k_≠(.slice (some ad144) t102.length co11:Value).ownBlock∧some k_≠(.slice Ao14 t105.length co14:Value).ownBlock∧some k_≠(v146:Value).ownBlock) k_ from fun k_ hk=>⟨Kd.fresh' (Kd.N_lt (by (with_reducible repeat (first|apply nA|apply nN|apply nD));exact HO_4.out)) k_ hk,Kd.fresh' (rL (by (with_reducible repeat (first|apply rA|apply rN|apply rD));exact HO_5.out)) k_ hk,Kd.fresh' (Kd.N_lt (by (with_reducible repeat (first|apply nA|apply nN|apply nD));exact HO147.out)) k_ hk⟩) _ (Nat.le_refl _)) (Below.refl _ _) (Nat.le_refl _) (by simp) ?_;(case hd=>rfl);(case hg=>rfl);(case hr=>first|(go_simp;done)|(go_simp;rfl));(case hp=>exact (Reps.none _ _))
                 intro v139 w56 ho57 hb hg_ hnew_
                 have HS0_:=(hb.cell (World.block_lt_of_cell? _ _ (hHeld.1))).trans (hHeld.1)
                 have HS1_:=(hb.cell (World.block_lt_of_cell? _ _ (hHeld.2))).trans (hHeld.2)
                 clear hg_ hnew_
                 (first|rw [←Ny138.out] at ho57|(simp only [Int.reduceToNat] at ho57;rw [←Ny138.out] at ho57))
                 have n0_:=mA (Kd.N_elder' (by (with_reducible repeat (first|apply nA|apply nN|apply nD));exact HO_4.out) (Kd.N_base ho57) hb)
                 have n1_:=mA (rB (by (with_reducible repeat (first|apply rA|apply rN|apply rD));exact HO_5.out) hb)
                 have n2_:=mA (Kd.V_elder' (by (with_reducible repeat (first|apply Kd.V_alloc|apply Kd.V_drewN|apply Kd.V_drew));exact HL144_1.out) (Kd.N_base ho57) hb)
                 have n3_:=mA (Kd.N_elder' (by (with_reducible repeat (first|apply nA|apply nN|apply nD));exact HO147.out) (Kd.N_base ho57) hb)
                 have n4_:=mA (Kd.N_lower ho57 (bZ (by repeat (first|(with_reducible first|exact HB.out|apply bA|apply bN|apply bD)|exact HB.out))))
                 have n5_:=mA (Kd.C_below (by repeat (first|(with_reducible exact HR144_1.out)|(with_reducible refine cA ?_ _)|(with_reducible refine cN ?_ _)|(with_reducible refine cD ?_)|exact HR144_1.out)) hb)
                 have n6_:=mA (bT (by repeat (first|(with_reducible first|exact HB.out|apply bA|apply bN|apply bD)|exact HB.out)) hb)
                 clear HO_4
                 clear HO_5
                 clear HL144_1
                 clear HO147
                 clear HR144_1
                 clear HB
                 have HO_4:=n0_
                 have HO_5:=n1_
                 have HL144_1:=n2_
                 have HO147:=n3_
                 have HO140:=n4_
                 have HR144_1:=n5_
                 have HB:=n6_
                 clear n0_ n1_ n2_ n3_ n4_ n5_ n6_
                 clear hb ho57
                 refine hK.out _ _ ⟨HS0_,HS1_⟩ (fun hHeld=>?_)
                 clear hK K
                 refine norm_ (a':=?_) ?_ ?_
                 rotate_left
                 ·show Act.put _ (some 78) _=_
                  simp only [Act.put,sA,sZ,sS,i64_w,i32_w]
                  rfl
                 refine one_ (i:=3) (N:=some 80) #[I,I,I,I,I,I,I,I,O,O,O] rfl rfl (one_of HT_.out (by kernel_rfl)) (by decide) (fun K hK=>?_)
                 refine Kd.N_append_rows_step k36 (w0:=w) w.heap.size (by rfl) (.tmp 78) (.tmp 79) 23 36 (.agg #[(.int .i64 0),(.slice none 0 0)]) 32 rfl Try.underlying23 info36 rfl (by decide) (by omega) v139 y138 t102 _ _ _ (fun k_=>some k_≠(.slice Ao14 t105.length co14:Value).ownBlock∧some k_≠(v146:Value).ownBlock) (fun k_=>((fun k_=>some k_≠(.slice Ao14 t105.length co14:Value).ownBlock∧some k_≠(v146:Value).ownBlock)) k_∧some k_≠(v139:Value).ownBlock) rfl rfl ?aO ?aR (fun _ hk=>hk) ?aF ?aB ?aS ?aL ?_
                 (case aR=>exact (by skip;exact Kd.N_F (Kd.N_mono (ok':=(fun k_=>((fun k_=>some k_≠(.slice Ao14 t105.length co14:Value).ownBlock∧some k_≠(v146:Value).ownBlock)) k_∧some k_≠(v139:Value).ownBlock)) (HO_4.out) (fun k_ hk=>⟨⟨hk.1.1,hk.1.2⟩,hk.2⟩))))
                 (case aB=>exact (by repeat (first|(with_reducible first|exact HB.out|apply bA|apply bN|apply bD)|exact HB.out)))
                 (case aF=>exact (fun k_ hk=>⟨Kd.fresh' (rL (by (with_reducible repeat (first|apply rA|apply rN|apply rD));exact HO_5.out)) k_ hk,Kd.fresh' (Kd.N_lt (by (with_reducible repeat (first|apply nA|apply nN|apply nD));exact HO147.out)) k_ hk⟩))
                 (case aO=>exact (by (with_reducible repeat (first|apply nA|apply nN|apply nD));exact Kd.N_mono HO140.out (fun _ hk=>⟨hk.2.1,hk.2.2⟩)))
                 (case aS=>exact (bZ (by repeat (first|(with_reducible first|exact HB.out|apply bA|apply bN|apply bD)|exact HB.out))))
                 (case aL=>have:=LMc44.out;omega)
                 intro v142 w58 ho hb hg hat
                 have HS0_:=cell_grown hg (hHeld.1) (by first|(rw [add_block];exact (by first|(intro e_;have h_:=HO140.out.1 _ e_.symm;first|exact h_ rfl|exact h_.1 rfl|exact h_.2 rfl|exact h_.1.1 rfl|exact h_.1.2 rfl|exact h_.2.1 rfl|exact h_.2.2 rfl|exact h_.1.1.1 rfl|exact h_.1.1.2 rfl|exact h_.2.2.1 rfl|exact h_.2.2.2 rfl)|(have h_:=HO_4.out.1 _ rfl;first|exact h_|exact h_.1|exact h_.2|exact h_.1.1|exact h_.1.2|exact h_.2.1|exact h_.2.2|exact h_.1.1.1|exact h_.1.1.2|exact h_.2.2.1|exact h_.2.2.2)))|(show some (Addr.add _ _).block≠_;rw [add_block];exact (by first|(intro e_;have h_:=HO140.out.1 _ e_.symm;first|exact h_ rfl|exact h_.1 rfl|exact h_.2 rfl|exact h_.1.1 rfl|exact h_.1.2 rfl|exact h_.2.1 rfl|exact h_.2.2 rfl|exact h_.1.1.1 rfl|exact h_.1.1.2 rfl|exact h_.2.2.1 rfl|exact h_.2.2.2 rfl)|(have h_:=HO_4.out.1 _ rfl;first|exact h_|exact h_.1|exact h_.2|exact h_.1.1|exact h_.1.2|exact h_.2.1|exact h_.2.2|exact h_.1.1.1|exact h_.1.1.2|exact h_.2.2.1|exact h_.2.2.2)))|exact (by first|(intro e_;have h_:=HO140.out.1 _ e_.symm;first|exact h_ rfl|exact h_.1 rfl|exact h_.2 rfl|exact h_.1.1 rfl|exact h_.1.2 rfl|exact h_.2.1 rfl|exact h_.2.2 rfl|exact h_.1.1.1 rfl|exact h_.1.1.2 rfl|exact h_.2.2.1 rfl|exact h_.2.2.2 rfl)|(have h_:=HO_4.out.1 _ rfl;first|exact h_|exact h_.1|exact h_.2|exact h_.1.1|exact h_.1.2|exact h_.2.1|exact h_.2.2|exact h_.1.1.1|exact h_.1.1.2|exact h_.2.2.1|exact h_.2.2.2)))
                 have HS1_:=cell_grown hg (hHeld.2) (by first|(rw [add_block];exact (by first|(intro e_;have h_:=HO140.out.1 _ e_.symm;first|exact h_ rfl|exact h_.1 rfl|exact h_.2 rfl|exact h_.1.1 rfl|exact h_.1.2 rfl|exact h_.2.1 rfl|exact h_.2.2 rfl|exact h_.1.1.1 rfl|exact h_.1.1.2 rfl|exact h_.2.2.1 rfl|exact h_.2.2.2 rfl)|(have h_:=HO_4.out.1 _ rfl;first|exact h_|exact h_.1|exact h_.2|exact h_.1.1|exact h_.1.2|exact h_.2.1|exact h_.2.2|exact h_.1.1.1|exact h_.1.1.2|exact h_.2.2.1|exact h_.2.2.2)))|(show some (Addr.add _ _).block≠_;rw [add_block];exact (by first|(intro e_;have h_:=HO140.out.1 _ e_.symm;first|exact h_ rfl|exact h_.1 rfl|exact h_.2 rfl|exact h_.1.1 rfl|exact h_.1.2 rfl|exact h_.2.1 rfl|exact h_.2.2 rfl|exact h_.1.1.1 rfl|exact h_.1.1.2 rfl|exact h_.2.2.1 rfl|exact h_.2.2.2 rfl)|(have h_:=HO_4.out.1 _ rfl;first|exact h_|exact h_.1|exact h_.2|exact h_.1.1|exact h_.1.2|exact h_.2.1|exact h_.2.2|exact h_.1.1.1|exact h_.1.1.2|exact h_.2.2.1|exact h_.2.2.2)))|exact (by first|(intro e_;have h_:=HO140.out.1 _ e_.symm;first|exact h_ rfl|exact h_.1 rfl|exact h_.2 rfl|exact h_.1.1 rfl|exact h_.1.2 rfl|exact h_.2.1 rfl|exact h_.2.2 rfl|exact h_.1.1.1 rfl|exact h_.1.1.2 rfl|exact h_.2.2.1 rfl|exact h_.2.2.2 rfl)|(have h_:=HO_4.out.1 _ rfl;first|exact h_|exact h_.1|exact h_.2|exact h_.1.1|exact h_.1.2|exact h_.2.1|exact h_.2.2|exact h_.1.1.1|exact h_.1.1.2|exact h_.2.2.1|exact h_.2.2.2)))
                 rw [←Ny141.out] at ho
                 have n0_:=mA (Kd.N_afterv (ok:=(fun k_=>some k_≠(.slice Ao14 t105.length co14:Value).ownBlock∧some k_≠(v146:Value).ownBlock)) (by (with_reducible repeat (first|apply nA|apply nN|apply nD));exact HO_4.out) hg hat)
                 have n1_:=mA (Kd.R_over' (by (with_reducible repeat (first|apply rA|apply rN|apply rD));exact HO_5.out) (Kd.N_typed (by (with_reducible repeat (first|apply nA|apply nN|apply nD));exact HO140.out)) (by decide) hg)
                 have n2_:=mA (Kd.V_afterv (ok:=(fun k_=>some k_≠(.slice (some ad144) t102.length co11:Value).ownBlock∧some k_≠(.slice Ao14 t105.length co14:Value).ownBlock∧some k_≠(v146:Value).ownBlock)) (by (with_reducible repeat (first|apply Kd.V_alloc|apply Kd.V_drewN|apply Kd.V_drew));exact Kd.V_mono HL144_1.out (fun _ hk=>⟨⟨hk.1.1.2,⟨hk.1.1.1,hk.1.2⟩⟩,hk.2⟩)) hg hat)
                 have n3_:=mA (Kd.N_afterv (ok:=(fun k_=>some k_≠(.slice (some ad144) t102.length co11:Value).ownBlock∧some k_≠(.slice Ao14 t105.length co14:Value).ownBlock)) (by (with_reducible repeat (first|apply nA|apply nN|apply nD));exact HO147.out) hg hat)
                 have n4_:=mA (hb)
                 have n5_:=mA (ho)
                 clear HO_4
                 clear HO_5
                 clear HL144_1
                 clear HO147
                 clear HB
                 clear HO140
                 have HO_4:=n0_
                 have HO_5:=n1_
                 have HL144_1:=n2_
                 have HO147:=n3_
                 have HB:=n4_
                 have HO143:=n5_
                 clear n0_ n1_ n2_ n3_ n4_ n5_
                 clear ho hb hg hat
                 refine hK.out _ _ ⟨HS0_,HS1_⟩ (fun hHeld=>?_)
                 clear hK K
                 refine norm_ (a':=?_) ?_ ?_
                 rotate_left
                 ·show Act.put _ (some 80) _=_
                  simp only [Act.put,sA,sZ,sS,i64_w,i32_w]
                  rfl
                 exact norm_ (by simp only [putAll,Act.put,sA,sZ,sS]) (hCont (v139,v142,v146) _ ⟨hHeld,(by (with_reducible repeat (first|apply Kd.V_alloc|apply Kd.V_drewN|apply Kd.V_drew));exact Kd.V_mono HL144_1.out (fun _ hk=>⟨hk.2,⟨hk.1.2.2,⟨hk.1.1,hk.1.2.1⟩⟩⟩)),(by (with_reducible repeat (first|apply nA|apply nN|apply nD));exact Kd.N_mono HO143.out (fun _ hk=>⟨hk.2,hk.1⟩)),(by (with_reducible repeat (first|apply nA|apply nN|apply nD));exact Kd.N_mono HO147.out (fun _ hk=>⟨hk.2,⟨hk.1.1,hk.1.2⟩⟩)),(by (with_reducible repeat (first|apply nA|apply nN|apply nD));exact Kd.N_mono HO_4.out (fun _ hk=>⟨hk.2,⟨hk.1.2,hk.1.1⟩⟩)),(by (with_reducible repeat (first|apply rA|apply rN|apply rD));exact HO_5.out),(by repeat (first|(with_reducible first|exact HB.out|apply bA|apply bN|apply bD)|exact HB.out))⟩)
               rintro ⟨v139,v142,v146⟩ w59 ⟨hS_,h0_,h1_,h2_,h3_,h4_,h5_⟩
               have n0_:Aside0 (Kd.V k33 33 w59 w.heap.size (fun k_=>some k_≠(v142:Value).ownBlock∧some k_≠(v146:Value).ownBlock∧some k_≠(.slice (some ad144) t102.length co11:Value).ownBlock∧some k_≠(.slice Ao14 t105.length co14:Value).ownBlock) (.slice A144_1 ((rd_T36 t102 0).f1).length c144_1) ((rd_T36 t102 0).f1)):=⟨h0_⟩
               have n1_:Aside0 (Kd.N k36 36 w59 w.heap.size (fun k_=>some k_≠(v146:Value).ownBlock∧some k_≠(.slice Ao14 t105.length co14:Value).ownBlock) v142 y141):=⟨h1_⟩
               have n2_:Aside0 (Kd.N k36 36 w59 w.heap.size (fun k_=>some k_≠(v142:Value).ownBlock∧some k_≠(.slice (some ad144) t102.length co11:Value).ownBlock∧some k_≠(.slice Ao14 t105.length co14:Value).ownBlock) v146 y145):=⟨h2_⟩
               have n3_:Aside0 (Kd.N k36 36 w59 w.heap.size (fun k_=>some k_≠(v142:Value).ownBlock∧some k_≠(v146:Value).ownBlock∧some k_≠(.slice Ao14 t105.length co14:Value).ownBlock) (.slice (some ad144) t102.length co11) t102):=⟨h3_⟩
               have n4_:Aside0 (Kd.R (Kd.int .i64) 3 w59 w.heap.size (fun _=>True) (.slice Ao14 t105.length co14) t105):=⟨h4_⟩
               have n5_:Aside0 (Below w.heap.size w w59):=⟨h5_⟩
               clear HO_4
               clear HO_5
               clear HB
               clear h0_ h1_ h2_ h3_ h4_ h5_
               have HL144_1:=n0_
               have HO143:=n1_
               have HO147:=n2_
               have HO_4:=n3_
               have HO_5:=n4_
               have HB:=n5_
               clear n0_ n1_ n2_ n3_ n4_ n5_
               have hHeld:w59.cell? ad144=some (.int .i64 ((rd_T36 t102 0).f0))∧w59.cell? ⟨ad144.block,ad144.off+1,none⟩=some (.slice A144_1 ((rd_T36 t102 0).f1).length c144_1):=hS_
               obtain ⟨Ao61,co61,eo61⟩:=Kd.N_slice HO147.out
               (first|subst eo61|(injection eo61 with f1_ f2_ f3_;have f4_:=f1_.symm;have f5_:=f3_.symm;clear f1_ f2_ f3_;subst f4_;subst f5_))
               refine norm_ (a':=?_) ?_ ?_
               rotate_left
               ·simp only [putAll,Act.put,sA,sZ,sS]
                rfl
               refine one_ (i:=8) (N:=some 85) #[I,I,I,I,I,I,I,I,I,O,O] rfl rfl (one_of HT_.out (by kernel_rfl)) (by decide) (fun K hK=>?_)
               refine Kd.N_append_rows_step k36 (w0:=w) w.heap.size (by rfl) (.tmp 80) (.tmp 84) 23 36 (.agg #[(.int .i64 0),(.slice none 0 0)]) 32 rfl Try.underlying23 info36 rfl (by decide) (by omega) v142 y141 y145 _ _ _ (fun k_=>some k_≠(.slice Ao14 t105.length co14:Value).ownBlock) (fun k_=>((fun k_=>some k_≠(.slice Ao14 t105.length co14:Value).ownBlock)) k_∧some k_≠(v142:Value).ownBlock) rfl rfl ?aO ?aR (fun _ hk=>hk) ?aF ?aB ?aS ?aL ?_
               (case aR=>exact (by skip;exact Kd.N_F (Kd.N_mono (ok':=(fun k_=>((fun k_=>some k_≠(.slice Ao14 t105.length co14:Value).ownBlock)) k_∧some k_≠(v142:Value).ownBlock)) (HO147.out) (fun k_ hk=>⟨hk.2.2,hk.1⟩))))
               (case aB=>exact (by repeat (first|(with_reducible first|exact HB.out|apply bA|apply bN|apply bD)|exact HB.out)))
               (case aF=>exact (fun k_ hk=>Kd.fresh' (rL (by (with_reducible repeat (first|apply rA|apply rN|apply rD));exact HO_5.out)) k_ hk))
               (case aO=>exact (by (with_reducible repeat (first|apply nA|apply nN|apply nD));exact Kd.N_mono HO143.out (fun _ hk=>hk.2)))
               (case aS=>exact (bZ (by repeat (first|(with_reducible first|exact HB.out|apply bA|apply bN|apply bD)|exact HB.out))))
               (case aL=>have:=LMc46.out;omega)
               intro v149 w60 ho hb hg hat
               have HS0_:=cell_grown hg (hHeld.1) (by first|(rw [add_block];exact (by first|(intro e_;have h_:=HO143.out.1 _ e_.symm;first|exact h_ rfl|exact h_.1 rfl|exact h_.2 rfl|exact h_.1.1 rfl|exact h_.1.2 rfl|exact h_.2.1 rfl|exact h_.2.2 rfl|exact h_.1.1.1 rfl|exact h_.1.1.2 rfl|exact h_.2.2.1 rfl|exact h_.2.2.2 rfl)|(have h_:=HO_4.out.1 _ rfl;first|exact h_|exact h_.1|exact h_.2|exact h_.1.1|exact h_.1.2|exact h_.2.1|exact h_.2.2|exact h_.1.1.1|exact h_.1.1.2|exact h_.2.2.1|exact h_.2.2.2)))|(show some (Addr.add _ _).block≠_;rw [add_block];exact (by first|(intro e_;have h_:=HO143.out.1 _ e_.symm;first|exact h_ rfl|exact h_.1 rfl|exact h_.2 rfl|exact h_.1.1 rfl|exact h_.1.2 rfl|exact h_.2.1 rfl|exact h_.2.2 rfl|exact h_.1.1.1 rfl|exact h_.1.1.2 rfl|exact h_.2.2.1 rfl|exact h_.2.2.2 rfl)|(have h_:=HO_4.out.1 _ rfl;first|exact h_|exact h_.1|exact h_.2|exact h_.1.1|exact h_.1.2|exact h_.2.1|exact h_.2.2|exact h_.1.1.1|exact h_.1.1.2|exact h_.2.2.1|exact h_.2.2.2)))|exact (by first|(intro e_;have h_:=HO143.out.1 _ e_.symm;first|exact h_ rfl|exact h_.1 rfl|exact h_.2 rfl|exact h_.1.1 rfl|exact h_.1.2 rfl|exact h_.2.1 rfl|exact h_.2.2 rfl|exact h_.1.1.1 rfl|exact h_.1.1.2 rfl|exact h_.2.2.1 rfl|exact h_.2.2.2 rfl)|(have h_:=HO_4.out.1 _ rfl;first|exact h_|exact h_.1|exact h_.2|exact h_.1.1|exact h_.1.2|exact h_.2.1|exact h_.2.2|exact h_.1.1.1|exact h_.1.1.2|exact h_.2.2.1|exact h_.2.2.2)))
               have HS1_:=cell_grown hg (hHeld.2) (by first|(rw [add_block];exact (by first|(intro e_;have h_:=HO143.out.1 _ e_.symm;first|exact h_ rfl|exact h_.1 rfl|exact h_.2 rfl|exact h_.1.1 rfl|exact h_.1.2 rfl|exact h_.2.1 rfl|exact h_.2.2 rfl|exact h_.1.1.1 rfl|exact h_.1.1.2 rfl|exact h_.2.2.1 rfl|exact h_.2.2.2 rfl)|(have h_:=HO_4.out.1 _ rfl;first|exact h_|exact h_.1|exact h_.2|exact h_.1.1|exact h_.1.2|exact h_.2.1|exact h_.2.2|exact h_.1.1.1|exact h_.1.1.2|exact h_.2.2.1|exact h_.2.2.2)))|(show some (Addr.add _ _).block≠_;rw [add_block];exact (by first|(intro e_;have h_:=HO143.out.1 _ e_.symm;first|exact h_ rfl|exact h_.1 rfl|exact h_.2 rfl|exact h_.1.1 rfl|exact h_.1.2 rfl|exact h_.2.1 rfl|exact h_.2.2 rfl|exact h_.1.1.1 rfl|exact h_.1.1.2 rfl|exact h_.2.2.1 rfl|exact h_.2.2.2 rfl)|(have h_:=HO_4.out.1 _ rfl;first|exact h_|exact h_.1|exact h_.2|exact h_.1.1|exact h_.1.2|exact h_.2.1|exact h_.2.2|exact h_.1.1.1|exact h_.1.1.2|exact h_.2.2.1|exact h_.2.2.2)))|exact (by first|(intro e_;have h_:=HO143.out.1 _ e_.symm;first|exact h_ rfl|exact h_.1 rfl|exact h_.2 rfl|exact h_.1.1 rfl|exact h_.1.2 rfl|exact h_.2.1 rfl|exact h_.2.2 rfl|exact h_.1.1.1 rfl|exact h_.1.1.2 rfl|exact h_.2.2.1 rfl|exact h_.2.2.2 rfl)|(have h_:=HO_4.out.1 _ rfl;first|exact h_|exact h_.1|exact h_.2|exact h_.1.1|exact h_.1.2|exact h_.2.1|exact h_.2.2|exact h_.1.1.1|exact h_.1.1.2|exact h_.2.2.1|exact h_.2.2.2)))
               rw [←Ny148.out] at ho
               have n0_:=mA (Kd.N_afterv (ok:=(fun k_=>some k_≠(.slice Ao14 t105.length co14:Value).ownBlock∧some k_≠(.slice Ao61 y145.length co61:Value).ownBlock)) (by (with_reducible repeat (first|apply nA|apply nN|apply nD));exact Kd.N_mono HO_4.out (fun _ hk=>⟨⟨hk.2.2,hk.2.1⟩,hk.1⟩)) hg hat)
               have n1_:=mA (Kd.R_over' (by (with_reducible repeat (first|apply rA|apply rN|apply rD));exact HO_5.out) (Kd.N_typed (by (with_reducible repeat (first|apply nA|apply nN|apply nD));exact HO143.out)) (by decide) hg)
               have n2_:=mA (Kd.V_afterv (ok:=(fun k_=>some k_≠(.slice (some ad144) t102.length co11:Value).ownBlock∧some k_≠(.slice Ao14 t105.length co14:Value).ownBlock∧some k_≠(.slice Ao61 y145.length co61:Value).ownBlock)) (by (with_reducible repeat (first|apply Kd.V_alloc|apply Kd.V_drewN|apply Kd.V_drew));exact Kd.V_mono HL144_1.out (fun _ hk=>⟨⟨hk.2.2.1,⟨hk.2.2.2,hk.2.1⟩⟩,hk.1⟩)) hg hat)
               have n3_:=mA (Kd.N_afterv (ok:=(fun k_=>some k_≠(.slice (some ad144) t102.length co11:Value).ownBlock∧some k_≠(.slice Ao14 t105.length co14:Value).ownBlock)) (by (with_reducible repeat (first|apply nA|apply nN|apply nD));exact Kd.N_mono HO147.out (fun _ hk=>⟨⟨hk.2.1,hk.2.2⟩,hk.1⟩)) hg hat)
               have n4_:=mA (hb)
               have n5_:=mA (ho)
               clear HO_4
               clear HO_5
               clear HL144_1
               clear HO147
               clear HB
               clear HO143
               have HO_4:=n0_
               have HO_5:=n1_
               have HL144_1:=n2_
               have HO147:=n3_
               have HB:=n4_
               have HO150:=n5_
               clear n0_ n1_ n2_ n3_ n4_ n5_
               clear ho hb hg hat
               obtain ⟨Ao62,co62,eo62⟩:=Kd.N_slice HO150.out
               (first|subst eo62|(injection eo62 with f1_ f2_ f3_;have f4_:=f1_.symm;have f5_:=f3_.symm;clear f1_ f2_ f3_;subst f4_;subst f5_))
               refine hK.out _ _ ⟨HS0_,HS1_⟩ (fun hHeld=>?_)
               clear hK K
               refine norm_ (a':=?_) ?_ ?_
               rotate_left
               ·show Act.put _ (some 85) _=_
                simp only [Act.put,sA,sZ,sS,i64_w,i32_w]
                rfl
               refine one_ (i:=9) (N:=some 86) #[I,I,I,I,I,I,I,I,I,I,O] rfl rfl (one_of HT_.out (by kernel_rfl)) (by decide) (fun K hK=>?_)
               refine goes_ Try.func85 (by kernel_rfl) rfl #[.int .i64 t101,.slice Ao62 y148.length co62] (by rfl) rfl rfl (by (try simp only [mT,mC,mN]);first|done|rfl|(simp only [lD,lT];rfl)) ?_
               with_reducible refine (impl_NeedlessClaims.calls kj37 t101 _ _ y148 t151 _ ?side1 ?side2 A47.out).mono ?_
               (case side1=>repeat (first|exact (Kd.N_reads' HO150.out).2.2|(with_reducible refine cA ?_ _)|(with_reducible refine cN ?_ _)|(with_reducible refine cD ?_)))
               (case side2=>exact (Kd.N_reads' HO150.out).2.1)
               rintro e w63 ⟨v152,rfl,ho0,hb⟩
               have HS0_:=(hb.cell (World.block_lt_of_cell? _ _ (hHeld.1))).trans (hHeld.1)
               have HS1_:=(hb.cell (World.block_lt_of_cell? _ _ (hHeld.2))).trans (hHeld.2)
               refine ⟨_,rfl,?_⟩
               have n0_:=mA (Kd.N_elder' (by (with_reducible repeat (first|apply nA|apply nN|apply nD));exact HO_4.out) (Kd.R_base ho0) hb)
               have n1_:=mA (Kd.R_elder' (by (with_reducible repeat (first|apply rA|apply rN|apply rD));exact HO_5.out) (Kd.R_base ho0) hb)
               have n2_:=mA (Kd.V_elder' (by (with_reducible repeat (first|apply Kd.V_alloc|apply Kd.V_drewN|apply Kd.V_drew));exact HL144_1.out) (Kd.R_base ho0) hb)
               have n3_:=mA (Kd.N_elder' (by (with_reducible repeat (first|apply nA|apply nN|apply nD));exact HO147.out) (Kd.R_base ho0) hb)
               have n4_:=mA (Kd.N_elder' (by (with_reducible repeat (first|apply nA|apply nN|apply nD));exact HO150.out) (Kd.R_base ho0) hb)
               have n5_:=mA (Kd.R_lower (Kd.R_new' ho0 (rL (by (with_reducible repeat (first|apply rA|apply rN|apply rD));exact HO_5.out))) (bZ (by repeat (first|(with_reducible first|exact HB.out|apply bA|apply bN|apply bD)|exact HB.out))))
               have n6_:=mA (bT (by repeat (first|(with_reducible first|exact HB.out|apply bA|apply bN|apply bD)|exact HB.out)) hb)
               clear HO_4
               clear HO_5
               clear HL144_1
               clear HO147
               clear HO150
               clear HB
               have HO_4:=n0_
               have HO_5:=n1_
               have HL144_1:=n2_
               have HO147:=n3_
               have HO150:=n4_
               have HO153:=n5_
               have HB:=n6_
               clear n0_ n1_ n2_ n3_ n4_ n5_ n6_
               (try clear hb)
               (try clear hb2)
               (try clear hk)
               (try clear hi)
               (try clear ho0)
               refine hK.out _ _ ⟨HS0_,HS1_⟩ (fun hHeld=>?_)
               clear hK K
               refine norm_ (a':=?_) ?_ ?_
               rotate_left
               ·show Act.put _ (some 86) _=_
                simp only [Act.put,sA,sZ,sS,i64_w,i32_w]
                rfl
               refine pure_ (i:=10) (N:=some 8) (v:=?_) (a':=?_) #[I,I,I,I,I,I,I,I,I,I,I] rfl rfl (any_of HT_.out (by kernel_rfl)) (fun _ _ _ h=>h) (Or.inl ⟨by rfl,?_⟩) ?_ ?_
               rotate_left
               ·intro w'
                go_simp
                with_reducible rfl
               rotate_left
               ·simp only [Act.put,sA,sZ,sS,i64_w,i32_w]
                rfl
               refine done_ (done_of HT_.out (by kernel_rfl)) ?_
               try go_wp2_with (first|((with_reducible refine gate_callee (f:=89) rfl ?_);refine goesL_ (some 88) rfl rfl Try.func89 (by kernel_rfl) rfl #[.slice Ao14 t105.length co14] rfl (by (try simp only [mT,mC,mN]);first|done|rfl|(simp only [lD,lT];rfl)) ?_;(with_reducible refine (laws_ascend.calls kj37 _ _ t105 true _ ?side1 ?side2 A48.out).mono ?_);(case side1=>repeat (first|exact (rR HO_5.out).2.2|(with_reducible refine cA ?_ _)|(with_reducible refine cN ?_ _)|(with_reducible refine cD ?_)));(case side2=>exact (rR HO_5.out).2.1);rintro e w' ⟨rfl,⟨nd,rfl⟩⟩;refine ⟨_,rfl,?_⟩;obtain ⟨Ao64,co64,eo64⟩:=Kd.R_slice HO153.out;subst eo64)|(go_at_call 88;(with_reducible refine (laws_hasInt.calls kj37 _ _ t151 0 true _ ?side1 ?side2 A50.out).mono ?_);(case side1=>repeat (first|exact (rR HO153.out).2.2|(with_reducible refine cA ?_ _)|(with_reducible refine cN ?_ _)|(with_reducible refine cD ?_)));(case side2=>exact (rR HO153.out).2.1);rintro e w' ⟨rfl,⟨nd,rfl⟩⟩)|(go_at_call 88;(with_reducible refine (laws_hasInt.calls kj37 _ _ t151 (t102.length:Int) t156 _ ?side1 ?side2 A52.out).mono ?_);(case side1=>repeat (first|exact (rR HO153.out).2.2|(with_reducible refine cA ?_ _)|(with_reducible refine cN ?_ _)|(with_reducible refine cD ?_)));(case side2=>exact (rR HO153.out).2.1);rintro e w' ⟨rfl,⟨nd,rfl⟩⟩))
               go_ret
               exact ⟨by first|rfl|(simp [errW_none,errW_some]<;>rfl)|(simp [*, errW_none,errW_some]<;>rfl),by repeat (first|(with_reducible first|exact HB.out|apply bA|apply bN|apply bD)|exact HB.out)⟩
              ·replace c51:=Bool.eq_false_iff.mpr c51
               subst c51
               have H1:(some false)=some r:=by rw [if_neg (show ¬ (false=true) by decide)] at H;exact H
               clear H
               have H:=H1
               clear H1
               exact absurd ((Option.some.inj H).trans hr_.out) (by decide)
             ·replace c49:=Bool.eq_false_iff.mpr c49
              subst c49
              have H1:(some false)=some r:=by rw [if_neg (show ¬ (false=true) by decide)] at H;exact H
              clear H
              have H:=H1
              clear H1
              exact absurd ((Option.some.inj H).trans hr_.out) (by decide)
            ·rw [if_neg c46] at H
             exact absurd H (by simp)
           ·rw [if_neg c45] at H
            exact absurd H (by simp)
          ·rw [if_neg c44] at H
           exact absurd H (by simp)
   ·replace c9:=Bool.eq_false_iff.mpr c9
    subst c9
    have H1:(if (t105.length:Int)=0 then ((laws_alive.f).bind fun t113=>(some t113)) else (some false))=some r:=by rw [if_neg (show ¬ (false=true) by decide)] at H;exact H
    clear H
    have H:=H1
    clear H1
    by_cases c65:(t105.length:Int)=0
    ·rw [if_pos c65] at H
     have c65b0:((t105.length:Int)==0)=true:=beq_iff_eq.mpr c65
     have c65b1:((t105.length:Int) != 0)=false:=bne_eq_false_iff_eq.mpr c65
     clear c65
     replace H:=Option.bind_eq_some_iff.mp H
     obtain ⟨t113,A660,H⟩:=H
     replace H:(some t113)=some r:=H
     have A66:=mA A660
     clear A660
     obtain rfl:=Option.some.inj H
     go_enter Try.func18,Try.ntmps18
     go_wp2_with (first|((with_reducible refine gate_callee (f:=84) rfl ?_);refine goesL_ (some 14) rfl rfl Try.func84 (by kernel_rfl) rfl #[.slice A0 l0.length c0] rfl (by (try simp only [mT,mC,mN]);first|done|rfl|(simp only [lD,lT];rfl)) ?_;(with_reducible refine (spec_DrawNeedlessClaims.calls k _ _ l0 t101 t102 _ ?side1 ?side2 A3.out).mono ?_);(case side1=>repeat (first|exact HR0.out|(with_reducible refine cA ?_ _)|(with_reducible refine cN ?_ _)|(with_reducible refine cD ?_)));(case side2=>exact HC0.out);rintro e w67 ⟨v103,rfl,ho0,hb⟩;refine ⟨_,rfl,?_⟩;have n0_:=mA (Kd.N_lower (Kd.N_mono (ok':=fun k_=>True) (Kd.S_N (Kd.S_bound ho0)) (fun k_ hk_=>trivial)) (bZ (by repeat (first|(with_reducible first|exact HB.out|apply bA|apply bN|apply bD)|exact HB.out))));have n1_:=mA (bT (by repeat (first|(with_reducible first|exact HB.out|apply bA|apply bN|apply bD)|exact HB.out)) hb);clear HB;have HO104:=n0_;have HB:=n1_;clear n0_ n1_;(try clear hb);(try clear hb2);(try clear hk);(try clear hi);(try clear ho0);obtain ⟨Ao68,co68,eo68⟩:=Kd.N_slice HO104.out;subst eo68)|((with_reducible refine gate_callee (f:=85) rfl ?_);refine goesL_ (some 19) rfl rfl Try.func85 (by kernel_rfl) rfl #[.int .i64 t101,.slice Ao68 t102.length co68] rfl (by (try simp only [mT,mC,mN]);first|done|rfl|(simp only [lD,lT];rfl)) ?_;(with_reducible refine (impl_NeedlessClaims.calls k t101 _ _ t102 t105 _ ?side1 ?side2 A4.out).mono ?_);(case side1=>repeat (first|exact (Kd.N_reads' HO104.out).2.2|(with_reducible refine cA ?_ _)|(with_reducible refine cN ?_ _)|(with_reducible refine cD ?_)));(case side2=>exact (Kd.N_reads' HO104.out).2.1);rintro e w69 ⟨v106,rfl,ho0,hb⟩;refine ⟨_,rfl,?_⟩;have n0_:=mA (Kd.N_elder' (by (with_reducible repeat (first|apply nA|apply nN|apply nD));exact HO104.out) (Kd.R_base ho0) hb);have n1_:=mA (Kd.R_lower ho0 (bZ (by repeat (first|(with_reducible first|exact HB.out|apply bA|apply bN|apply bD)|exact HB.out))));have n2_:=mA (bT (by repeat (first|(with_reducible first|exact HB.out|apply bA|apply bN|apply bD)|exact HB.out)) hb);clear HO104 HB;have HO104:=n0_;have HO107:=n1_;have HB:=n2_;clear n0_ n1_ n2_;(try clear hb);(try clear hb2);(try clear hk);(try clear hi);(try clear ho0))|((with_reducible refine gate_callee (f:=87) rfl ?_);refine goesL_ (some 23) rfl rfl Try.func87 (by kernel_rfl) rfl #[.int .i64 t101,.slice Ao68 t102.length co68] rfl (by (try simp only [mT,mC,mN]);first|done|rfl|(simp only [lD,lT];rfl)) ?_;(with_reducible refine (spec_NeedlessClaims.calls k t101 _ _ t102 t108 _ ?side1 ?side2 A5.out).mono ?_);(case side1=>repeat (first|exact (Kd.N_reads' HO104.out).2.2|(with_reducible refine cA ?_ _)|(with_reducible refine cN ?_ _)|(with_reducible refine cD ?_)));(case side2=>exact (Kd.N_reads' HO104.out).2.1);rintro e w70 ⟨v109,rfl,ho0,hb⟩;refine ⟨_,rfl,?_⟩;have n0_:=mA (Kd.N_elder' (by (with_reducible repeat (first|apply nA|apply nN|apply nD));exact HO104.out) (Kd.R_base ho0) hb);have n1_:=mA (Kd.R_elder' (by (with_reducible repeat (first|apply rA|apply rN|apply rD));exact HO107.out) (Kd.R_base ho0) hb);have n2_:=mA (Kd.R_lower (Kd.R_new' ho0 (rL (by (with_reducible repeat (first|apply rA|apply rN|apply rD));exact HO107.out))) (bZ (by repeat (first|(with_reducible first|exact HB.out|apply bA|apply bN|apply bD)|exact HB.out))));have n3_:=mA (bT (by repeat (first|(with_reducible first|exact HB.out|apply bA|apply bN|apply bD)|exact HB.out)) hb);clear HO104 HO107 HB;have HO104:=n0_;have HO107:=n1_;have HO110:=n2_;have HB:=n3_;clear n0_ n1_ n2_ n3_;(try clear hb);(try clear hb2);(try clear hk);(try clear hi);(try clear ho0);obtain ⟨Ao71,co71,eo71⟩:=Kd.R_slice HO107.out;subst eo71;obtain ⟨Ao72,co72,eo72⟩:=Kd.R_slice HO110.out;subst eo72)|((with_reducible refine gate_callee (f:=86) rfl ?_);refine goesL_ (some 24) rfl rfl Try.func86 (by kernel_rfl) rfl #[.slice Ao71 t105.length co71,.slice Ao72 t108.length co72] rfl (by (try simp only [mT,mC,mN]);first|done|rfl|(simp only [lD,lT];rfl)) ?_;(with_reducible refine (laws_sameInts.calls k _ _ t105 _ _ t108 true _ ?side1 ?side2 ?side3 ?side4 A6.out).mono ?_);(case side1=>repeat (first|exact (rR HO107.out).2.2|(with_reducible refine cA ?_ _)|(with_reducible refine cN ?_ _)|(with_reducible refine cD ?_)));(case side2=>exact (rR HO107.out).2.1);(case side3=>repeat (first|exact (rR HO110.out).2.2|(with_reducible refine cA ?_ _)|(with_reducible refine cN ?_ _)|(with_reducible refine cD ?_)));(case side4=>exact (rR HO110.out).2.1);rintro e w' ⟨rfl,⟨nd,rfl⟩⟩;refine ⟨_,rfl,?_⟩)|((with_reducible refine gate_callee (f:=25) rfl ?_);refine goesL_ (some 28) rfl rfl Try.func25 (by kernel_rfl) rfl #[.int .i64 t101,.slice Ao68 t102.length co68] rfl (by (try simp only [mT,mC,mN]);first|done|rfl|(simp only [lD,lT];rfl)) ?_;(with_reducible refine (spec_StoryOk.calls k t101 _ _ t102 false _ ?side1 ?side2 A8.out).mono ?_);(case side1=>repeat (first|exact (Kd.N_reads' HO104.out).2.2|(with_reducible refine cA ?_ _)|(with_reducible refine cN ?_ _)|(with_reducible refine cD ?_)));(case side2=>exact (Kd.N_reads' HO104.out).2.1);rintro e w73 ⟨rfl,hb⟩;refine ⟨_,rfl,?_⟩;have n0_:=mA (Kd.N_below (by (with_reducible repeat (first|apply nA|apply nN|apply nD));exact HO104.out) hb);have n1_:=mA (rB (by (with_reducible repeat (first|apply rA|apply rN|apply rD));exact HO107.out) hb);have n2_:=mA (rB (by (with_reducible repeat (first|apply rA|apply rN|apply rD));exact HO110.out) hb);have n3_:=mA (bT (by repeat (first|(with_reducible first|exact HB.out|apply bA|apply bN|apply bD)|exact HB.out)) hb);clear HO104 HO107 HO110 HB;have HO104:=n0_;have HO107:=n1_;have HO110:=n2_;have HB:=n3_;clear n0_ n1_ n2_ n3_;(try clear hb);(try clear hb2);(try clear hk);(try clear hi))|(go_at_call 26;(with_reducible refine (laws_alive.calls  t113 _ A66.out).mono ?_);rintro e w' ⟨rfl,⟨nd,rfl⟩⟩))
     go_ret
     exact ⟨by first|rfl|(simp [errW_none,errW_some]<;>rfl)|(simp [*, errW_none,errW_some]<;>rfl),by repeat (first|(with_reducible first|exact HB.out|apply bA|apply bN|apply bD)|exact HB.out)⟩
    ·rw [if_neg c65] at H
     have c65b0:((t105.length:Int)==0)=false:=beq_eq_false_iff_ne.mpr c65
     have c65b1:((t105.length:Int) != 0)=true:=bne_iff_ne.mpr c65
     have c65b2 : ¬ (t105=[]):=fun h_=>c65 (by rw [h_];rfl)
     exact absurd ((Option.some.inj H).trans hr_.out) (by decide)
  ·replace c7:=Bool.eq_false_iff.mpr c7
   subst c7
   have H1:(some false)=some r:=by rw [if_neg (show ¬ (false=true) by decide)] at H;exact H
   clear H
   have H:=H1
   clear H1
   exact absurd ((Option.some.inj H).trans hr_.out) (by decide)

/-- THE ONE PURE STATEMENT of laws_FnNeedlessClaims: yours. -/
def laws_FnNeedlessClaims.Pure:Prop:=∀ (l0:List Int),l0.length≤maxLen→l0.length*1≤140737488351232→(∀ x∈l0,(Lit.int .u8 x).wf=true) → ∃ k,laws_FnNeedlessClaims.f k l0=some true
theorem laws_FnNeedlessClaims.walk (P:laws_FnNeedlessClaims.Pure) (a0:Option Addr) (len0 cap0:Nat) (z0:List Int) (w:World) (w0:(a0=none∧len0=0∧cap0=0∧z0=[]) ∨ ∃ x,a0=some x∧len0≤cap0∧cap0≤maxLen∧z0.length=cap0∧(∀ i,i<z0.length→w.cell? (x.add i)=some (.int .u8 (z0.getD i 0))) ∧ ∀ n∈z0,(Lit.int .u8 n).wf=true) (y0:len0*1≤140737488351232) :
  Calls Try.prog 18 #[.slice a0 len0 cap0] w fun e w'=>e = .returned (.bool true)∧Below w.heap.size w w':=by
 obtain ⟨l0,rfl,hr0,hm0,hw0,hc0⟩:=ReadsInt.ofRowC w0
 obtain ⟨k,h⟩:=P l0 hm0 y0 hw0
 refine (laws_FnNeedlessClaims.calls k _ _ l0 true w (Kd.C_of_reads (d:=(0:Int)) (h1:=fun _=>rfl) hr0) hc0 ⟨rfl⟩ h).mono ?_
 rintro e w' ⟨rfl,hd⟩
 exact ⟨rfl,hd⟩
end Go.Proofs.Ytpampekijfjlkab.X
/- Drawn claims. -/
namespace Go.Proofs.Ytpampekijfjlkab.L
open Go.RowKit Go.Proofs.Ytpampekijfjlkab.X Go.Proofs.YtpampekijfjlkabW.PrintWords Go.Proofs.YtpampekijfjlkabW.PrintLast Go.Proofs.YtpampekijfjlkabW.PrintMore
open Go.Proofs.YtpampekijfjlkabW.PrintWords renaming Aside0.mk → mA, pw_below_drewN → bN, below_drew1 → bD, below_alloc → bA, below_size → bZ, below_step → bT, Kd.R_alloc → rA, Kd.R_drewN → rN, Kd.R_drew → rD, Kd.R_mono → rM, Kd.R_reads' → rR, Kd.R_lt → rL, Kd.R_below → rB, Kd.N_alloc → nA, Kd.N_drewN → nN, Kd.N_drew → nD, Kd.C_alloc → cA, Kd.C_drewN → cN, Kd.C_drew → cD
open List renaming setIfInBounds_toArray → sA, set_cons_zero → sZ, set_cons_succ → sS, length_take → lT, length_drop → lD, map_toArray → mT, map_cons → mC, map_nil → mN
open Bool renaming true → I, false → O
theorem l20Claim_ev {s:List Int} (hs:Rd s) {n:Int} (h0:0≤n) (h1:n≤500000) (P m:Int) (hP:P≤1000) (hm0 : -1000≤m) (hm:m≤400) :
  ∃ (i:Int) (t:List M) (n':Int),Ev (fun k=>spec_l20Claim.f k s n P m) (i,t,n') ∧ -1≤i∧i≤1000∧t.length≤16∧Sm t∧n≤n'∧n'≤n+100:=by
 have hmx:1≤mx P 1∧mx P 1≤1000:=by unfold mx;split<;>omega
 obtain ⟨a,ha,ha0,ha1⟩:=pick_ev hs (p:=n) (by omega) (by omega) (mx P 1) (by omega)
 have ha2:=ha1 (by omega)
 obtain ⟨t,p',ht,h2,h3,h4,h5⟩:=l20Term_ev hs (p:=n+1) (by omega) (by omega) P (m*2) (by omega)
 obtain ⟨b,p2,hb,hb0,hb1⟩:=odd_ev hs (p:=p') (by omega) (by omega) m (by omega)
 cases b with
 | false =>
  refine ⟨a,t,p2,?_,by omega,by omega,h2,h3,by omega,by omega⟩
  unfold spec_l20Claim.f
  simp only [w64 (x:=m*2) (by omega) (by omega)]
  exact Ev.bind ha (Ev.bind ht (Ev.bind hb (Ev.no (by simp) (Ev.some _))))
 | true =>
  obtain ⟨c,hc,hc0,hc1⟩:=pick_ev hs (p:=p2) (by omega) (by omega) 2 (by omega)
  have hc2:=hc1 (by omega)
  refine ⟨rd [-1,4] c,t,p2+1,?_,?_,?_,h2,h3,by omega,by omega⟩
  ·unfold spec_l20Claim.f
   simp only [w64 (x:=m*2) (by omega) (by omega),Option.bind_some]
   exact Ev.bind ha (Ev.bind ht (Ev.bind hb (Ev.yes rfl (Ev.bind hc (Ev.yes hc0 (Ev.yes (by simpa using hc2) (Ev.some _)))))))
  ·obtain rfl|rfl:c=0∨c=1:=by omega
   ·decide
   ·decide
  ·obtain rfl|rfl:c=0∨c=1:=by omega
   ·decide
   ·decide
end Go.Proofs.Ytpampekijfjlkab.L
