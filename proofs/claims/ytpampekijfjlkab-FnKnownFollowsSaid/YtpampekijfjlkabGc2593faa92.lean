/- Joined by a program of this session's: X32, LDC, LDSTO, LH, LTB, LTY, LO, LCB, LST, X39, LSM, X67. -/
import Derived.Test.YtpampekijfjlkabG44e43c9cff
import Derived.Test.YtpampekijfjlkabG47e08af4a9
import Derived.Test.YtpampekijfjlkabG84f2d8842f
import Derived.Test.YtpampekijfjlkabG884ba293af
import Derived.Test.YtpampekijfjlkabG338a3a8524
import Derived.Laws.BitsLemmas
import Derived.Test.YtpampekijfjlkabGb8887b9914
import Derived.Test.YtpampekijfjlkabGdeb6bb95be

namespace Go.Proofs.Ytpampekijfjlkab.X
open Go.RowKit Go.Proofs.YtpampekijfjlkabW.PrintWords Go.Proofs.YtpampekijfjlkabW.PrintLast Go.Proofs.YtpampekijfjlkabW.PrintMore
open Go.Proofs.YtpampekijfjlkabW.PrintWords renaming Aside0.mk → mA, pw_below_drewN → bN, below_drew1 → bD, below_alloc → bA, below_set → bS, blk_alloc → kA, blk_drewN → kN, blk_drew → kD, blk_cell → kC, blk_frozen → kF, below_size → bZ, below_step → bT, Kd.R_alloc → rA, Kd.R_drewN → rN, Kd.R_drew → rD, Kd.R_mono → rM, Kd.R_reads' → rR, Kd.R_lt → rL, Kd.R_typed → rT, Kd.R_below → rB, Kd.N_alloc → nA, Kd.N_drewN → nN, Kd.N_drew → nD, Kd.C_alloc → cA, Kd.C_drewN → cN, Kd.C_drew → cD
open List renaming length_take → lT, length_drop → lD, map_toArray → mT, map_cons → mC, map_nil → mN
attribute [local go_sem] max2_int min2_int max_two min_two max_three min_three max_four min_four   -- for this text's walks alone
set_option linter.unusedVariables false
set_option linter.unusedSimpArgs false
/-! ### laws_FnKnownFollows: function 3 -/
mutual
def laws_FnKnownFollows.l0:Nat→Int→List (S36)→List Int→Int→Bool→Int→Option (Bool)
 | 0,_,_,_,_,_,_=>none
 | k+1,x3,x4,x5,x6,x7,x8=>if x8<(x5.length:Int) then (laws_FnKnownFollows.j1 k x3 x4 x5 x6 x7 x8 x7) else (laws_FnKnownFollows.j1 k x3 x4 x5 x6 x7 x8 false)
def laws_FnKnownFollows.j1:Nat→Int→List (S36)→List Int→Int→Bool→Int→Bool→Option (Bool)
 | 0,_,_,_,_,_,_,_=>none
 | k+1,x3,x4,x5,x6,x7,x8,x34=>if x34=true then (if 0≤x8 then (if x8<(x5.length:Int) then (if (Int.tmod (shr .i64 x6 x8) 2)=(rd x5 x8) then (laws_FnKnownFollows.l0 k x3 x4 x5 x6 x7 (wrap64 (x8+1))) else (some false)) else (none)) else (none)) else ((spec_StoryOk.f k x3 x4).bind fun t111=>(if t111=true then (laws_FnKnownFollows.j2 k x3 x4 x5 (decide ((x4.length:Int)≥6))) else (laws_FnKnownFollows.j2 k x3 x4 x5 true)))
def laws_FnKnownFollows.j2:Nat→Int→List (S36)→List Int→Bool→Option (Bool)
 | 0,_,_,_,_=>none
 | k+1,x3,x4,x5,x54=>if x54=true then ((laws_alive.f).bind fun t112=>(some t112)) else ((some (([]:List (S36)):List (S36))).bind fun y113=>(if y113.length+x4.length<4398046511104 then ((some (y113++x4:List (S36))).bind fun y116=>(if y116.length<4398046511104 then ((impl_KnownPeople.f k x3 (y116++[(⟨0,(([(⟨1,0⟩:S33)]:List (S33)))⟩:S36)])).bind fun t125=>(laws_FnKnownFollows.l1 k x3 x5 t125 0)) else (none))) else (none)))
def laws_FnKnownFollows.l1:Nat→Int→List Int→List Int→Int→Option (Bool)
 | 0,_,_,_,_=>none
 | k+1,x3,x5,x9,x10=>if x10<(x9.length:Int) then (laws_FnKnownFollows.j4 k x3 x5 x9 x10 (decide (x10<(x5.length:Int)))) else (laws_FnKnownFollows.j4 k x3 x5 x9 x10 false)
def laws_FnKnownFollows.j4:Nat→Int→List Int→List Int→Int→Bool→Option (Bool)
 | 0,_,_,_,_,_=>none
 | k+1,x3,x5,x9,x10,x75=>if x75=true then (if 0≤x10 then (if x10<(x5.length:Int) then (if (rd x5 x10)≥0 then (if x10<(x9.length:Int) then (if (rd x9 x10)=(rd x5 x10) then (laws_FnKnownFollows.l1 k x3 x5 x9 (wrap64 (x10+1))) else (some false)) else (none)) else (laws_FnKnownFollows.l1 k x3 x5 x9 (wrap64 (x10+1)))) else (none)) else (none)) else ((laws_alive.f).bind fun t131=>(if t131=true then (if (x9.length:Int)=0 then (some true) else (some ((x5.length:Int)==x3))) else (some false)))
end
def laws_FnKnownFollows.f (k:Nat) (l0:List Int):Option (Bool):=if (l0.length:Int)>1048576 then (some true) else ((spec_DrawKnownPeople.f k l0).bind fun bt101=>((impl_KnownPeople.f k bt101.1 bt101.2).bind fun t105=>((impl_OnlyWorld.f k bt101.1 bt101.2).bind fun bt108=>(laws_FnKnownFollows.l0 k bt101.1 bt101.2 t105 bt108.1 bt108.2 0))))
theorem laws_FnKnownFollows.mono_l : ∀ k,(∀ y0 y1 y2 y3 y4 y5,LeO (laws_FnKnownFollows.l0 k y0 y1 y2 y3 y4 y5) (laws_FnKnownFollows.l0 (k+1) y0 y1 y2 y3 y4 y5))∧(∀ y0 y1 y2 y3 y4 y5 y6,LeO (laws_FnKnownFollows.j1 k y0 y1 y2 y3 y4 y5 y6) (laws_FnKnownFollows.j1 (k+1) y0 y1 y2 y3 y4 y5 y6))∧(∀ y0 y1 y2 y3,LeO (laws_FnKnownFollows.j2 k y0 y1 y2 y3) (laws_FnKnownFollows.j2 (k+1) y0 y1 y2 y3))∧(∀ y0 y1 y2 y3,LeO (laws_FnKnownFollows.l1 k y0 y1 y2 y3) (laws_FnKnownFollows.l1 (k+1) y0 y1 y2 y3))∧(∀ y0 y1 y2 y3 y4,LeO (laws_FnKnownFollows.j4 k y0 y1 y2 y3 y4) (laws_FnKnownFollows.j4 (k+1) y0 y1 y2 y3 y4))
 | 0=>⟨fun _ _ _ _ _ _ r h=>by simp [laws_FnKnownFollows.l0] at h,fun _ _ _ _ _ _ _ r h=>by simp [laws_FnKnownFollows.j1] at h,fun _ _ _ _ r h=>by simp [laws_FnKnownFollows.j2] at h,fun _ _ _ _ r h=>by simp [laws_FnKnownFollows.l1] at h,fun _ _ _ _ _ r h=>by simp [laws_FnKnownFollows.j4] at h⟩
 | k+1=>by
  obtain ⟨ih0,ih1,ih2,ih3,ih4⟩:=laws_FnKnownFollows.mono_l k
  refine ⟨?_,?_,?_,?_,?_⟩
  ·intro y0 y1 y2 y3 y4 y5
   unfold laws_FnKnownFollows.l0
   repeat' first
   | (with_reducible exact ih0 _ _ _ _ _ _)
   | (with_reducible exact ih1 _ _ _ _ _ _ _)
   | (with_reducible exact ih2 _ _ _ _)
   | (with_reducible exact ih3 _ _ _ _)
   | (with_reducible exact ih4 _ _ _ _ _)
   | (with_reducible exact impl_KnownPeople.mono _ _ _)
   | (with_reducible exact impl_OnlyWorld.mono _ _ _)
   | (with_reducible exact spec_DrawKnownPeople.mono _ _)
   | (with_reducible exact spec_StoryOk.mono _ _ _)
   | (with_reducible exact LeO.refl _)
   | (with_reducible exact LeO.none _)
   | (with_reducible refine LeO.ite ?_ ?_)
   | (with_reducible refine LeO.bind ?_ (fun _=>?_))
   | exact ih0 _ _ _ _ _ _
   | exact ih1 _ _ _ _ _ _ _
   | exact ih2 _ _ _ _
   | exact ih3 _ _ _ _
   | exact ih4 _ _ _ _ _
   | exact impl_KnownPeople.mono _ _ _
   | exact impl_OnlyWorld.mono _ _ _
   | exact spec_DrawKnownPeople.mono _ _
   | exact spec_StoryOk.mono _ _ _
   | exact LeO.none _
   | refine LeO.ite ?_ ?_
   | refine LeO.bind ?_ (fun _=>?_)
  ·intro y0 y1 y2 y3 y4 y5 y6
   unfold laws_FnKnownFollows.j1
   repeat' first
   | (with_reducible exact ih0 _ _ _ _ _ _)
   | (with_reducible exact ih1 _ _ _ _ _ _ _)
   | (with_reducible exact ih2 _ _ _ _)
   | (with_reducible exact ih3 _ _ _ _)
   | (with_reducible exact ih4 _ _ _ _ _)
   | (with_reducible exact impl_KnownPeople.mono _ _ _)
   | (with_reducible exact impl_OnlyWorld.mono _ _ _)
   | (with_reducible exact spec_DrawKnownPeople.mono _ _)
   | (with_reducible exact spec_StoryOk.mono _ _ _)
   | (with_reducible exact LeO.refl _)
   | (with_reducible exact LeO.none _)
   | (with_reducible refine LeO.ite ?_ ?_)
   | (with_reducible refine LeO.bind ?_ (fun _=>?_))
   | exact ih0 _ _ _ _ _ _
   | exact ih1 _ _ _ _ _ _ _
   | exact ih2 _ _ _ _
   | exact ih3 _ _ _ _
   | exact ih4 _ _ _ _ _
   | exact impl_KnownPeople.mono _ _ _
   | exact impl_OnlyWorld.mono _ _ _
   | exact spec_DrawKnownPeople.mono _ _
   | exact spec_StoryOk.mono _ _ _
   | exact LeO.none _
   | refine LeO.ite ?_ ?_
   | refine LeO.bind ?_ (fun _=>?_)
  ·intro y0 y1 y2 y3
   unfold laws_FnKnownFollows.j2
   repeat' first
   | (with_reducible exact ih0 _ _ _ _ _ _)
   | (with_reducible exact ih1 _ _ _ _ _ _ _)
   | (with_reducible exact ih2 _ _ _ _)
   | (with_reducible exact ih3 _ _ _ _)
   | (with_reducible exact ih4 _ _ _ _ _)
   | (with_reducible exact impl_KnownPeople.mono _ _ _)
   | (with_reducible exact impl_OnlyWorld.mono _ _ _)
   | (with_reducible exact spec_DrawKnownPeople.mono _ _)
   | (with_reducible exact spec_StoryOk.mono _ _ _)
   | (with_reducible exact LeO.refl _)
   | (with_reducible exact LeO.none _)
   | (with_reducible refine LeO.ite ?_ ?_)
   | (with_reducible refine LeO.bind ?_ (fun _=>?_))
   | exact ih0 _ _ _ _ _ _
   | exact ih1 _ _ _ _ _ _ _
   | exact ih2 _ _ _ _
   | exact ih3 _ _ _ _
   | exact ih4 _ _ _ _ _
   | exact impl_KnownPeople.mono _ _ _
   | exact impl_OnlyWorld.mono _ _ _
   | exact spec_DrawKnownPeople.mono _ _
   | exact spec_StoryOk.mono _ _ _
   | exact LeO.none _
   | refine LeO.ite ?_ ?_
   | refine LeO.bind ?_ (fun _=>?_)
  ·intro y0 y1 y2 y3
   unfold laws_FnKnownFollows.l1
   repeat' first
   | (with_reducible exact ih0 _ _ _ _ _ _)
   | (with_reducible exact ih1 _ _ _ _ _ _ _)
   | (with_reducible exact ih2 _ _ _ _)
   | (with_reducible exact ih3 _ _ _ _)
   | (with_reducible exact ih4 _ _ _ _ _)
   | (with_reducible exact impl_KnownPeople.mono _ _ _)
   | (with_reducible exact impl_OnlyWorld.mono _ _ _)
   | (with_reducible exact spec_DrawKnownPeople.mono _ _)
   | (with_reducible exact spec_StoryOk.mono _ _ _)
   | (with_reducible exact LeO.refl _)
   | (with_reducible exact LeO.none _)
   | (with_reducible refine LeO.ite ?_ ?_)
   | (with_reducible refine LeO.bind ?_ (fun _=>?_))
   | exact ih0 _ _ _ _ _ _
   | exact ih1 _ _ _ _ _ _ _
   | exact ih2 _ _ _ _
   | exact ih3 _ _ _ _
   | exact ih4 _ _ _ _ _
   | exact impl_KnownPeople.mono _ _ _
   | exact impl_OnlyWorld.mono _ _ _
   | exact spec_DrawKnownPeople.mono _ _
   | exact spec_StoryOk.mono _ _ _
   | exact LeO.none _
   | refine LeO.ite ?_ ?_
   | refine LeO.bind ?_ (fun _=>?_)
  ·intro y0 y1 y2 y3 y4
   unfold laws_FnKnownFollows.j4
   repeat' first
   | (with_reducible exact ih0 _ _ _ _ _ _)
   | (with_reducible exact ih1 _ _ _ _ _ _ _)
   | (with_reducible exact ih2 _ _ _ _)
   | (with_reducible exact ih3 _ _ _ _)
   | (with_reducible exact ih4 _ _ _ _ _)
   | (with_reducible exact impl_KnownPeople.mono _ _ _)
   | (with_reducible exact impl_OnlyWorld.mono _ _ _)
   | (with_reducible exact spec_DrawKnownPeople.mono _ _)
   | (with_reducible exact spec_StoryOk.mono _ _ _)
   | (with_reducible exact LeO.refl _)
   | (with_reducible exact LeO.none _)
   | (with_reducible refine LeO.ite ?_ ?_)
   | (with_reducible refine LeO.bind ?_ (fun _=>?_))
   | exact ih0 _ _ _ _ _ _
   | exact ih1 _ _ _ _ _ _ _
   | exact ih2 _ _ _ _
   | exact ih3 _ _ _ _
   | exact ih4 _ _ _ _ _
   | exact impl_KnownPeople.mono _ _ _
   | exact impl_OnlyWorld.mono _ _ _
   | exact spec_DrawKnownPeople.mono _ _
   | exact spec_StoryOk.mono _ _ _
   | exact LeO.none _
   | refine LeO.ite ?_ ?_
   | refine LeO.bind ?_ (fun _=>?_)
theorem laws_FnKnownFollows.mono : ∀ a0 k,LeO (laws_FnKnownFollows.f k a0) (laws_FnKnownFollows.f (k+1) a0):=by
 intro a0 k
 obtain ⟨ih0,ih1,ih2,ih3,ih4⟩:=laws_FnKnownFollows.mono_l k
 unfold laws_FnKnownFollows.f
 repeat' first
   | (with_reducible exact ih0 _ _ _ _ _ _)
   | (with_reducible exact ih1 _ _ _ _ _ _ _)
   | (with_reducible exact ih2 _ _ _ _)
   | (with_reducible exact ih3 _ _ _ _)
   | (with_reducible exact ih4 _ _ _ _ _)
   | (with_reducible exact impl_KnownPeople.mono _ _ _)
   | (with_reducible exact impl_OnlyWorld.mono _ _ _)
   | (with_reducible exact spec_DrawKnownPeople.mono _ _)
   | (with_reducible exact spec_StoryOk.mono _ _ _)
   | (with_reducible exact LeO.refl _)
   | (with_reducible exact LeO.none _)
   | (with_reducible refine LeO.ite ?_ ?_)
   | (with_reducible refine LeO.bind ?_ (fun _=>?_))
   | exact ih0 _ _ _ _ _ _
   | exact ih1 _ _ _ _ _ _ _
   | exact ih2 _ _ _ _
   | exact ih3 _ _ _ _
   | exact ih4 _ _ _ _ _
   | exact impl_KnownPeople.mono _ _ _
   | exact impl_OnlyWorld.mono _ _ _
   | exact spec_DrawKnownPeople.mono _ _
   | exact spec_StoryOk.mono _ _ _
   | exact LeO.none _
   | refine LeO.ite ?_ ?_
   | refine LeO.bind ?_ (fun _=>?_)
set_option maxHeartbeats 8000000 in
set_option maxRecDepth 100000 in
theorem laws_FnKnownFollows.calls (k:Nat) (A0:Option Addr) (c0:Nat) (l0:List Int) (r:Bool) (w:World) (hr0:Kd.C (Kd.int .u8) w A0 l0.length l0) (hc0:l0.length≤c0) (hr_:Aside0 (r=true)) (h:laws_FnKnownFollows.f k l0=some r) :
  Calls Try.prog 3 #[.slice A0 l0.length c0] w fun e w'=>e = .returned (.bool r)∧Below w.heap.size w w':=by
 have hu33:=Try.underlying33
 have hu36:=Try.underlying36
 have HR0:=mA hr0
 have HC0:=mA hc0
 clear hr0 hc0
 have HB:=mA (Below.refl w.heap.size w)
 have H:(if (l0.length:Int)>1048576 then (some true) else ((spec_DrawKnownPeople.f k l0).bind fun bt101=>((impl_KnownPeople.f k bt101.1 bt101.2).bind fun t105=>((impl_OnlyWorld.f k bt101.1 bt101.2).bind fun bt108=>(laws_FnKnownFollows.l0 k bt101.1 bt101.2 t105 bt108.1 bt108.2 0)))))=some r:=h
 clear h
 by_cases c2:(l0.length:Int)>1048576
 ·rw [if_pos c2] at H
  have c2b0:decide (1048576<(l0.length:Int))=true:=decide_eq_true c2
  have c2b1:decide (1048576<l0.length)=true:=decide_eq_true (by omega)
  clear c2
  obtain rfl:=Option.some.inj H
  go_enter Try.func3,Try.ntmps3
  go_wp2
  repeat (go_quiet (fail);try go_wp2)
  go_ret
  exact ⟨by first|rfl|(simp [errW_none,errW_some]<;>rfl)|(simp [*, errW_none,errW_some]<;>rfl),by repeat (first|(with_reducible first|exact HB.out|apply bA|apply bN|apply bD)|exact HB.out)⟩
 ·rw [if_neg c2] at H
  have c2b0:decide (1048576<(l0.length:Int))=false:=decide_eq_false c2
  have c2b1:decide (1048576<l0.length)=false:=decide_eq_false (by omega)
  clear c2
  replace H:=Option.bind_eq_some_iff.mp H
  obtain ⟨⟨t101,t102⟩,A30,H⟩:=H
  replace H:((impl_KnownPeople.f k t101 t102).bind fun t105=>((impl_OnlyWorld.f k t101 t102).bind fun bt108=>(laws_FnKnownFollows.l0 k t101 t102 t105 bt108.1 bt108.2 0)))=some r:=H
  have A3:=mA A30
  clear A30
  replace H:=Option.bind_eq_some_iff.mp H
  obtain ⟨t105,A40,H⟩:=H
  replace H:((impl_OnlyWorld.f k t101 t102).bind fun bt108=>(laws_FnKnownFollows.l0 k t101 t102 t105 bt108.1 bt108.2 0))=some r:=H
  have A4:=mA A40
  clear A40
  replace H:=Option.bind_eq_some_iff.mp H
  obtain ⟨⟨t108,t109⟩,A50,H⟩:=H
  replace H:(laws_FnKnownFollows.l0 k t101 t102 t105 t108 t109 0)=some r:=H
  have A5:=mA A50
  clear A50
  have H':=mA H
  clear H
  go_enter Try.func3,Try.ntmps3
  go_wp2_with (first|(go_at_call 22;(with_reducible refine (spec_DrawKnownPeople.calls k _ _ l0 t101 t102 _ ?side1 ?side2 A3.out).mono ?_);(case side1=>repeat (first|exact HR0.out|(with_reducible refine cA ?_ _)|(with_reducible refine cN ?_ _)|(with_reducible refine cD ?_)));(case side2=>exact HC0.out);rintro e w6 ⟨v103,rfl,ho0,hb⟩;have n0_:=mA (Kd.N_lower (Kd.N_mono (ok':=fun k_=>True) (Kd.S_N (Kd.S_bound ho0)) (fun k_ hk_=>trivial)) (bZ (by repeat (first|(with_reducible first|exact HB.out|apply bA|apply bN|apply bD)|exact HB.out))));have n1_:=mA (bT (by repeat (first|(with_reducible first|exact HB.out|apply bA|apply bN|apply bD)|exact HB.out)) hb);clear HB;have HO104:=n0_;have HB:=n1_;clear n0_ n1_;(try clear hb);(try clear hb2);(try clear hk);(try clear hi);(try clear ho0);obtain ⟨Ao7,co7,eo7⟩:=Kd.N_slice HO104.out;subst eo7)|(go_at_call 23;(with_reducible refine (impl_KnownPeople.calls k t101 _ _ t102 t105 _ ?side1 ?side2 A4.out).mono ?_);(case side1=>repeat (first|exact (Kd.N_reads' HO104.out).2.2|(with_reducible refine cA ?_ _)|(with_reducible refine cN ?_ _)|(with_reducible refine cD ?_)));(case side2=>exact (Kd.N_reads' HO104.out).2.1);rintro e w8 ⟨v106,rfl,ho0,hb⟩;have n0_:=mA (Kd.N_elder' (by (with_reducible repeat (first|apply nA|apply nN|apply nD));exact HO104.out) (Kd.R_base ho0) hb);have n1_:=mA (Kd.R_lower ho0 (bZ (by repeat (first|(with_reducible first|exact HB.out|apply bA|apply bN|apply bD)|exact HB.out))));have n2_:=mA (bT (by repeat (first|(with_reducible first|exact HB.out|apply bA|apply bN|apply bD)|exact HB.out)) hb);clear HO104 HB;have HO104:=n0_;have HO107:=n1_;have HB:=n2_;clear n0_ n1_ n2_;(try clear hb);(try clear hb2);(try clear hk);(try clear hi);(try clear ho0))|(go_at_call 24;(with_reducible refine (impl_OnlyWorld.calls k t101 _ _ t102 t108 t109 _ ?side1 ?side2 A5.out).mono ?_);(case side1=>repeat (first|exact (Kd.N_reads' HO104.out).2.2|(with_reducible refine cA ?_ _)|(with_reducible refine cN ?_ _)|(with_reducible refine cD ?_)));(case side2=>exact (Kd.N_reads' HO104.out).2.1);rintro e w9 ⟨rfl,hb⟩;have n0_:=mA (Kd.N_below (by (with_reducible repeat (first|apply nA|apply nN|apply nD));exact HO104.out) hb);have n1_:=mA (rB (by (with_reducible repeat (first|apply rA|apply rN|apply rD));exact HO107.out) hb);have n2_:=mA (bT (by repeat (first|(with_reducible first|exact HB.out|apply bA|apply bN|apply bD)|exact HB.out)) hb);clear HO104 HO107 HB;have HO104:=n0_;have HO107:=n1_;have HB:=n2_;clear n0_ n1_ n2_;(try clear hb);(try clear hb2);(try clear hk);(try clear hi)))
  repeat (go_quiet (first|(go_at_call 22;(with_reducible refine (spec_DrawKnownPeople.calls k _ _ l0 t101 t102 _ ?side1 ?side2 A3.out).mono ?_);(case side1=>repeat (first|exact HR0.out|(with_reducible refine cA ?_ _)|(with_reducible refine cN ?_ _)|(with_reducible refine cD ?_)));(case side2=>exact HC0.out);rintro e w6 ⟨v103,rfl,ho0,hb⟩;have n0_:=mA (Kd.N_lower (Kd.N_mono (ok':=fun k_=>True) (Kd.S_N (Kd.S_bound ho0)) (fun k_ hk_=>trivial)) (bZ (by repeat (first|(with_reducible first|exact HB.out|apply bA|apply bN|apply bD)|exact HB.out))));have n1_:=mA (bT (by repeat (first|(with_reducible first|exact HB.out|apply bA|apply bN|apply bD)|exact HB.out)) hb);clear HB;have HO104:=n0_;have HB:=n1_;clear n0_ n1_;(try clear hb);(try clear hb2);(try clear hk);(try clear hi);(try clear ho0);obtain ⟨Ao7,co7,eo7⟩:=Kd.N_slice HO104.out;subst eo7)|(go_at_call 23;(with_reducible refine (impl_KnownPeople.calls k t101 _ _ t102 t105 _ ?side1 ?side2 A4.out).mono ?_);(case side1=>repeat (first|exact (Kd.N_reads' HO104.out).2.2|(with_reducible refine cA ?_ _)|(with_reducible refine cN ?_ _)|(with_reducible refine cD ?_)));(case side2=>exact (Kd.N_reads' HO104.out).2.1);rintro e w8 ⟨v106,rfl,ho0,hb⟩;have n0_:=mA (Kd.N_elder' (by (with_reducible repeat (first|apply nA|apply nN|apply nD));exact HO104.out) (Kd.R_base ho0) hb);have n1_:=mA (Kd.R_lower ho0 (bZ (by repeat (first|(with_reducible first|exact HB.out|apply bA|apply bN|apply bD)|exact HB.out))));have n2_:=mA (bT (by repeat (first|(with_reducible first|exact HB.out|apply bA|apply bN|apply bD)|exact HB.out)) hb);clear HO104 HB;have HO104:=n0_;have HO107:=n1_;have HB:=n2_;clear n0_ n1_ n2_;(try clear hb);(try clear hb2);(try clear hk);(try clear hi);(try clear ho0))|(go_at_call 24;(with_reducible refine (impl_OnlyWorld.calls k t101 _ _ t102 t108 t109 _ ?side1 ?side2 A5.out).mono ?_);(case side1=>repeat (first|exact (Kd.N_reads' HO104.out).2.2|(with_reducible refine cA ?_ _)|(with_reducible refine cN ?_ _)|(with_reducible refine cD ?_)));(case side2=>exact (Kd.N_reads' HO104.out).2.1);rintro e w9 ⟨rfl,hb⟩;have n0_:=mA (Kd.N_below (by (with_reducible repeat (first|apply nA|apply nN|apply nD));exact HO104.out) hb);have n1_:=mA (rB (by (with_reducible repeat (first|apply rA|apply rN|apply rD));exact HO107.out) hb);have n2_:=mA (bT (by repeat (first|(with_reducible first|exact HB.out|apply bA|apply bN|apply bD)|exact HB.out)) hb);clear HO104 HO107 HB;have HO104:=n0_;have HO107:=n1_;have HB:=n2_;clear n0_ n1_ n2_;(try clear hb);(try clear hb2);(try clear hk);(try clear hi)));try go_wp2_with (first|(go_at_call 22;(with_reducible refine (spec_DrawKnownPeople.calls k _ _ l0 t101 t102 _ ?side1 ?side2 A3.out).mono ?_);(case side1=>repeat (first|exact HR0.out|(with_reducible refine cA ?_ _)|(with_reducible refine cN ?_ _)|(with_reducible refine cD ?_)));(case side2=>exact HC0.out);rintro e w6 ⟨v103,rfl,ho0,hb⟩;have n0_:=mA (Kd.N_lower (Kd.N_mono (ok':=fun k_=>True) (Kd.S_N (Kd.S_bound ho0)) (fun k_ hk_=>trivial)) (bZ (by repeat (first|(with_reducible first|exact HB.out|apply bA|apply bN|apply bD)|exact HB.out))));have n1_:=mA (bT (by repeat (first|(with_reducible first|exact HB.out|apply bA|apply bN|apply bD)|exact HB.out)) hb);clear HB;have HO104:=n0_;have HB:=n1_;clear n0_ n1_;(try clear hb);(try clear hb2);(try clear hk);(try clear hi);(try clear ho0);obtain ⟨Ao7,co7,eo7⟩:=Kd.N_slice HO104.out;subst eo7)|(go_at_call 23;(with_reducible refine (impl_KnownPeople.calls k t101 _ _ t102 t105 _ ?side1 ?side2 A4.out).mono ?_);(case side1=>repeat (first|exact (Kd.N_reads' HO104.out).2.2|(with_reducible refine cA ?_ _)|(with_reducible refine cN ?_ _)|(with_reducible refine cD ?_)));(case side2=>exact (Kd.N_reads' HO104.out).2.1);rintro e w8 ⟨v106,rfl,ho0,hb⟩;have n0_:=mA (Kd.N_elder' (by (with_reducible repeat (first|apply nA|apply nN|apply nD));exact HO104.out) (Kd.R_base ho0) hb);have n1_:=mA (Kd.R_lower ho0 (bZ (by repeat (first|(with_reducible first|exact HB.out|apply bA|apply bN|apply bD)|exact HB.out))));have n2_:=mA (bT (by repeat (first|(with_reducible first|exact HB.out|apply bA|apply bN|apply bD)|exact HB.out)) hb);clear HO104 HB;have HO104:=n0_;have HO107:=n1_;have HB:=n2_;clear n0_ n1_ n2_;(try clear hb);(try clear hb2);(try clear hk);(try clear hi);(try clear ho0))|(go_at_call 24;(with_reducible refine (impl_OnlyWorld.calls k t101 _ _ t102 t108 t109 _ ?side1 ?side2 A5.out).mono ?_);(case side1=>repeat (first|exact (Kd.N_reads' HO104.out).2.2|(with_reducible refine cA ?_ _)|(with_reducible refine cN ?_ _)|(with_reducible refine cD ?_)));(case side2=>exact (Kd.N_reads' HO104.out).2.1);rintro e w9 ⟨rfl,hb⟩;have n0_:=mA (Kd.N_below (by (with_reducible repeat (first|apply nA|apply nN|apply nD));exact HO104.out) hb);have n1_:=mA (rB (by (with_reducible repeat (first|apply rA|apply rN|apply rD));exact HO107.out) hb);have n2_:=mA (bT (by repeat (first|(with_reducible first|exact HB.out|apply bA|apply bN|apply bD)|exact HB.out)) hb);clear HO104 HO107 HB;have HO104:=n0_;have HO107:=n1_;have HB:=n2_;clear n0_ n1_ n2_;(try clear hb);(try clear hb2);(try clear hk);(try clear hi))))
  go_loopg [8] k (fun kq v8 w'=>∃ (x8_1:Int),v8 = .int .i64 x8_1∧Aside0 (laws_FnKnownFollows.l0 kq t101 t102 t105 t108 t109 x8_1=some r)∧Aside0 (kq≤k)∧Aside0 (Kd.N k36 36 w' w.heap.size (fun k_=>some k_≠(v106:Value).ownBlock) (.slice Ao7 t102.length co7) t102)∧Aside0 (Kd.R (Kd.int .i64) 3 w' w.heap.size (fun _=>True) v106 t105)∧Aside0 (Below w.heap.size w w'))
  case atStart=>exact ⟨(0),(by first|rfl|(simp;done)|(simp [*];done)),H',⟨Nat.le_refl _⟩,⟨by (with_reducible repeat (first|apply nA|apply nN|apply nD));exact Kd.N_mono HO104.out (fun _ hk=>hk.2)⟩,⟨by (with_reducible repeat (first|apply rA|apply rN|apply rD));exact HO107.out⟩,⟨by repeat (first|(with_reducible first|exact HB.out|apply bA|apply bN|apply bD)|exact HB.out)⟩⟩
  case round =>
   clear H'
   try clear c2
   try clear c2b0
   try clear c2b1
   try clear p2
   try clear c3
   obtain ⟨x8_1,rfl,HA,HK1,HO_4,HO_5,HB⟩:=hrel
   cases gk with
   | zero=>exact absurd HA.out (by simp [laws_FnKnownFollows.l0])
   | succ k1 =>
    have H:=HA.out
    clear HA
    simp only [laws_FnKnownFollows.l0] at H
    have HC10:=mA H
    clear H
    go_upto_region 7 with (fail)
    repeat (go_quiet (fail);go_upto_region 7 with (fail))
    go_cut [34] (fun v34 wc=>∃ (kq:Nat) (x34_9:Bool),v34 = .bool x34_9∧Aside0 (laws_FnKnownFollows.j1 kq t101 t102 t105 t108 t109 x8_1 x34_9=some r)∧Aside0 (kq≤k1)∧Aside0 (Kd.N k36 36 wc w.heap.size (fun k_=>some k_≠(v106:Value).ownBlock) (.slice Ao7 t102.length co7) t102)∧Aside0 (Kd.R (Kd.int .i64) 3 wc w.heap.size (fun _=>True) v106 t105)∧Aside0 (Below w.heap.size w wc))
    case first =>
     have H:=HC10.out
     clear HC10
     by_cases c11:x8_1<(t105.length:Int)
     ·rw [if_pos c11] at H
      have c11b0:decide (x8_1<(t105.length:Int))=true:=decide_eq_true c11
      clear c11
      (first|rw [c11b0]|(simp only [i64_w,i32_w];rw [c11b0])|skip)
      have H':=mA H
      clear H
      obtain ⟨Ao12,co12,eo12⟩:=Kd.R_slice HO_5.out
      subst eo12
      go_wp2
      repeat (go_quiet (fail);try go_wp2)
      go_meet
      case rel=>exact ⟨_,(t109),(by first|rfl|(simp;done)|(simp [*];done)),H',⟨by have:=HK1.out;first|omega|exact Nat.le_refl _⟩,⟨by (with_reducible repeat (first|apply nA|apply nN|apply nD));exact HO_4.out⟩,⟨by (with_reducible repeat (first|apply rA|apply rN|apply rD));exact HO_5.out⟩,⟨by repeat (first|(with_reducible first|exact HB.out|apply bA|apply bN|apply bD)|exact HB.out)⟩⟩
     ·rw [if_neg c11] at H
      have c11b0:decide (x8_1<(t105.length:Int))=false:=decide_eq_false c11
      clear c11
      (first|rw [c11b0]|(simp only [i64_w,i32_w];rw [c11b0])|skip)
      have H':=mA H
      clear H
      obtain ⟨Ao13,co13,eo13⟩:=Kd.R_slice HO_5.out
      subst eo13
      go_wp2
      repeat (go_quiet (fail);try go_wp2)
      go_meet
      case rel=>exact ⟨_,(false),(by first|rfl|(simp;done)|(simp [*];done)),H',⟨by have:=HK1.out;first|omega|exact Nat.le_refl _⟩,⟨by (with_reducible repeat (first|apply nA|apply nN|apply nD));exact HO_4.out⟩,⟨by (with_reducible repeat (first|apply rA|apply rN|apply rD));exact HO_5.out⟩,⟨by repeat (first|(with_reducible first|exact HB.out|apply bA|apply bN|apply bD)|exact HB.out)⟩⟩
    case rest =>
     clear HC10
     try clear c1
     try clear c2
     try clear c2b0
     try clear c2b1
     try clear p2
     try clear c3
     try clear c11
     try clear c11b0
     try clear p2
     obtain ⟨kq,x34_9,rfl,HA,HJ9,HO_4,HO_5,HB⟩:=hcut
     cases kq with
     | zero=>exact absurd HA.out (by simp [laws_FnKnownFollows.j1])
     | succ kj9 =>
      have H:=HA.out
      clear HA
      simp only [laws_FnKnownFollows.j1] at H
      by_cases c14:x34_9=true
      ·subst c14
       have H1:(if 0≤x8_1 then (if x8_1<(t105.length:Int) then (if (Int.tmod (shr .i64 t108 x8_1) 2)=(rd t105 x8_1) then (laws_FnKnownFollows.l0 kj9 t101 t102 t105 t108 t109 (wrap64 (x8_1+1))) else (some false)) else (none)) else (none))=some r:=by rw [if_pos rfl] at H;exact H
       clear H
       have H:=H1
       clear H1
       by_cases c15:0≤x8_1
       ·rw [if_pos c15] at H
        have c15b0:=eq_true c15
        have c15b1:decide (0≤x8_1)=true:=decide_eq_true c15
        clear c15
        obtain ⟨ji16,hji16⟩ : ∃ j_:Int,(shr .i64 t108 x8_1)=j_:=⟨_,rfl⟩
        replace H:(if x8_1<(t105.length:Int) then (if (Int.tmod (ji16) 2)=(rd t105 x8_1) then (laws_FnKnownFollows.l0 kj9 t101 t102 t105 t108 t109 (wrap64 (x8_1+1))) else (some false)) else (none))=some r:=by first|(rw [hji16] at H;exact H)|(simp only [hji16] at H ⊢;exact H)
        have hji16_:(t108 / 2^min x8_1.toNat 64)=ji16:=hji16
        have hji16z:x8_1≤64→(t108 / 2^x8_1.toNat)=ji16:=shr_small hji16
        by_cases c17:x8_1<(t105.length:Int)
        ·rw [if_pos c17] at H
         have c17b0:decide (x8_1<(t105.length:Int))=true:=decide_eq_true c17
         clear c17
         by_cases c18:(Int.tmod (ji16) 2)=(rd t105 x8_1)
         ·rw [if_pos c18] at H
          have c18b0:((Int.tmod (ji16) 2)==(rd t105 x8_1))=true:=beq_iff_eq.mpr c18
          have c18b1:((Int.tmod (ji16) 2) != (rd t105 x8_1))=false:=bne_eq_false_iff_eq.mpr c18
          clear c18
          have H':=mA H
          clear H
          obtain ⟨Ao19,co19,eo19⟩:=Kd.R_slice HO_5.out
          subst eo19
          have p110:0≤(x8_1:Int):=of_decide_eq_true (by first|(with_reducible assumption)|assumption)
          have q110:x8_1<(t105.length:Int):=of_decide_eq_true (by first|(with_reducible assumption)|assumption)
          obtain ⟨ad110,e110,hx110_0⟩:=Kd.at_int (rR HO_5.out).2.2 x8_1 p110 q110
          cases e110
          replace p110:=eq_true p110
          replace q110:=eq_true q110
          go_wp2
          repeat (go_quiet (fail);try go_wp2)
          go_roundg kj9
          case measure=>have:=HK1.out;have:=HJ9.out;omega
          case rel=>exact ⟨(wrap64 (x8_1+1)),(by first|rfl|(simp;done)|(simp [*];done)),H',⟨by have:=HK1.out;have:=HJ9.out;omega⟩,⟨by (with_reducible repeat (first|apply nA|apply nN|apply nD));exact HO_4.out⟩,⟨by (with_reducible repeat (first|apply rA|apply rN|apply rD));exact HO_5.out⟩,⟨by repeat (first|(with_reducible first|exact HB.out|apply bA|apply bN|apply bD)|exact HB.out)⟩⟩
         ·rw [if_neg c18] at H
          have c18b0:((Int.tmod (ji16) 2)==(rd t105 x8_1))=false:=beq_eq_false_iff_ne.mpr c18
          have c18b1:((Int.tmod (ji16) 2) != (rd t105 x8_1))=true:=bne_iff_ne.mpr c18
          exact absurd ((Option.some.inj H).trans hr_.out) (by decide)
        ·rw [if_neg c17] at H
         exact absurd H (by simp)
       ·rw [if_neg c15] at H
        exact absurd H (by simp)
      ·replace c14:=Bool.eq_false_iff.mpr c14
       subst c14
       have H1:((spec_StoryOk.f kj9 t101 t102).bind fun t111=>(if t111=true then (laws_FnKnownFollows.j2 kj9 t101 t102 t105 (decide ((t102.length:Int)≥6))) else (laws_FnKnownFollows.j2 kj9 t101 t102 t105 true)))=some r:=by rw [if_neg (show ¬ (false=true) by decide)] at H;exact H
       clear H
       have H:=H1
       clear H1
       have HC20:=mA H
       clear H
       go_upto_region 11 with (fail)
       repeat (go_quiet (fail);go_upto_region 11 with (fail))
       go_cut [54] (fun v54 wc=>∃ (kq:Nat) (x54_19:Bool),v54 = .bool x54_19∧Aside0 (laws_FnKnownFollows.j2 kq t101 t102 t105 x54_19=some r)∧Aside0 (kq≤kj9)∧Aside0 (Kd.N k36 36 wc w.heap.size (fun k_=>some k_≠(v106:Value).ownBlock) (.slice Ao7 t102.length co7) t102)∧Aside0 (Kd.R (Kd.int .i64) 3 wc w.heap.size (fun _=>True) v106 t105)∧Aside0 (Below w.heap.size w wc))
       case first =>
        have H:=HC20.out
        clear HC20
        replace H:=Option.bind_eq_some_iff.mp H
        obtain ⟨t111,A210,H⟩:=H
        replace H:(if t111=true then (laws_FnKnownFollows.j2 kj9 t101 t102 t105 (decide ((t102.length:Int)≥6))) else (laws_FnKnownFollows.j2 kj9 t101 t102 t105 true))=some r:=H
        have A21:=mA A210
        clear A210
        by_cases c22:t111=true
        ·subst c22
         have H1:(laws_FnKnownFollows.j2 kj9 t101 t102 t105 (decide ((t102.length:Int)≥6)))=some r:=by rw [if_pos rfl] at H;exact H
         clear H
         have H:=H1
         clear H1
         have H':=mA H
         clear H
         go_wp2_with (first|(go_at_call 25;(with_reducible refine (spec_StoryOk.calls kj9 t101 _ _ t102 true _ ?side1 ?side2 A21.out).mono ?_);(case side1=>repeat (first|exact (Kd.N_reads' HO_4.out).2.2|(with_reducible refine cA ?_ _)|(with_reducible refine cN ?_ _)|(with_reducible refine cD ?_)));(case side2=>exact (Kd.N_reads' HO_4.out).2.1);rintro e w23 ⟨rfl,hb⟩;have n0_:=mA (Kd.N_below (by (with_reducible repeat (first|apply nA|apply nN|apply nD));exact HO_4.out) hb);have n1_:=mA (rB (by (with_reducible repeat (first|apply rA|apply rN|apply rD));exact HO_5.out) hb);have n2_:=mA (bT (by repeat (first|(with_reducible first|exact HB.out|apply bA|apply bN|apply bD)|exact HB.out)) hb);clear HO_4 HO_5 HB;have HO_4:=n0_;have HO_5:=n1_;have HB:=n2_;clear n0_ n1_ n2_;(try clear hb);(try clear hb2);(try clear hk);(try clear hi)))
         repeat (go_quiet (first|(go_at_call 25;(with_reducible refine (spec_StoryOk.calls kj9 t101 _ _ t102 true _ ?side1 ?side2 A21.out).mono ?_);(case side1=>repeat (first|exact (Kd.N_reads' HO_4.out).2.2|(with_reducible refine cA ?_ _)|(with_reducible refine cN ?_ _)|(with_reducible refine cD ?_)));(case side2=>exact (Kd.N_reads' HO_4.out).2.1);rintro e w23 ⟨rfl,hb⟩;have n0_:=mA (Kd.N_below (by (with_reducible repeat (first|apply nA|apply nN|apply nD));exact HO_4.out) hb);have n1_:=mA (rB (by (with_reducible repeat (first|apply rA|apply rN|apply rD));exact HO_5.out) hb);have n2_:=mA (bT (by repeat (first|(with_reducible first|exact HB.out|apply bA|apply bN|apply bD)|exact HB.out)) hb);clear HO_4 HO_5 HB;have HO_4:=n0_;have HO_5:=n1_;have HB:=n2_;clear n0_ n1_ n2_;(try clear hb);(try clear hb2);(try clear hk);(try clear hi)));try go_wp2_with (first|(go_at_call 25;(with_reducible refine (spec_StoryOk.calls kj9 t101 _ _ t102 true _ ?side1 ?side2 A21.out).mono ?_);(case side1=>repeat (first|exact (Kd.N_reads' HO_4.out).2.2|(with_reducible refine cA ?_ _)|(with_reducible refine cN ?_ _)|(with_reducible refine cD ?_)));(case side2=>exact (Kd.N_reads' HO_4.out).2.1);rintro e w23 ⟨rfl,hb⟩;have n0_:=mA (Kd.N_below (by (with_reducible repeat (first|apply nA|apply nN|apply nD));exact HO_4.out) hb);have n1_:=mA (rB (by (with_reducible repeat (first|apply rA|apply rN|apply rD));exact HO_5.out) hb);have n2_:=mA (bT (by repeat (first|(with_reducible first|exact HB.out|apply bA|apply bN|apply bD)|exact HB.out)) hb);clear HO_4 HO_5 HB;have HO_4:=n0_;have HO_5:=n1_;have HB:=n2_;clear n0_ n1_ n2_;(try clear hb);(try clear hb2);(try clear hk);(try clear hi))))
         go_meet
         case rel=>exact ⟨_,(decide ((t102.length:Int)≥6)),(by first|rfl|(simp;done)|(simp [*];done)),H',⟨by have:=HK1.out;have:=HJ9.out;first|omega|exact Nat.le_refl _⟩,⟨by (with_reducible repeat (first|apply nA|apply nN|apply nD));exact HO_4.out⟩,⟨by (with_reducible repeat (first|apply rA|apply rN|apply rD));exact HO_5.out⟩,⟨by repeat (first|(with_reducible first|exact HB.out|apply bA|apply bN|apply bD)|exact HB.out)⟩⟩
        ·replace c22:=Bool.eq_false_iff.mpr c22
         subst c22
         have H1:(laws_FnKnownFollows.j2 kj9 t101 t102 t105 true)=some r:=by rw [if_neg (show ¬ (false=true) by decide)] at H;exact H
         clear H
         have H:=H1
         clear H1
         have H':=mA H
         clear H
         go_wp2_with (first|(go_at_call 25;(with_reducible refine (spec_StoryOk.calls kj9 t101 _ _ t102 false _ ?side1 ?side2 A21.out).mono ?_);(case side1=>repeat (first|exact (Kd.N_reads' HO_4.out).2.2|(with_reducible refine cA ?_ _)|(with_reducible refine cN ?_ _)|(with_reducible refine cD ?_)));(case side2=>exact (Kd.N_reads' HO_4.out).2.1);rintro e w24 ⟨rfl,hb⟩;have n0_:=mA (Kd.N_below (by (with_reducible repeat (first|apply nA|apply nN|apply nD));exact HO_4.out) hb);have n1_:=mA (rB (by (with_reducible repeat (first|apply rA|apply rN|apply rD));exact HO_5.out) hb);have n2_:=mA (bT (by repeat (first|(with_reducible first|exact HB.out|apply bA|apply bN|apply bD)|exact HB.out)) hb);clear HO_4 HO_5 HB;have HO_4:=n0_;have HO_5:=n1_;have HB:=n2_;clear n0_ n1_ n2_;(try clear hb);(try clear hb2);(try clear hk);(try clear hi)))
         repeat (go_quiet (first|(go_at_call 25;(with_reducible refine (spec_StoryOk.calls kj9 t101 _ _ t102 false _ ?side1 ?side2 A21.out).mono ?_);(case side1=>repeat (first|exact (Kd.N_reads' HO_4.out).2.2|(with_reducible refine cA ?_ _)|(with_reducible refine cN ?_ _)|(with_reducible refine cD ?_)));(case side2=>exact (Kd.N_reads' HO_4.out).2.1);rintro e w24 ⟨rfl,hb⟩;have n0_:=mA (Kd.N_below (by (with_reducible repeat (first|apply nA|apply nN|apply nD));exact HO_4.out) hb);have n1_:=mA (rB (by (with_reducible repeat (first|apply rA|apply rN|apply rD));exact HO_5.out) hb);have n2_:=mA (bT (by repeat (first|(with_reducible first|exact HB.out|apply bA|apply bN|apply bD)|exact HB.out)) hb);clear HO_4 HO_5 HB;have HO_4:=n0_;have HO_5:=n1_;have HB:=n2_;clear n0_ n1_ n2_;(try clear hb);(try clear hb2);(try clear hk);(try clear hi)));try go_wp2_with (first|(go_at_call 25;(with_reducible refine (spec_StoryOk.calls kj9 t101 _ _ t102 false _ ?side1 ?side2 A21.out).mono ?_);(case side1=>repeat (first|exact (Kd.N_reads' HO_4.out).2.2|(with_reducible refine cA ?_ _)|(with_reducible refine cN ?_ _)|(with_reducible refine cD ?_)));(case side2=>exact (Kd.N_reads' HO_4.out).2.1);rintro e w24 ⟨rfl,hb⟩;have n0_:=mA (Kd.N_below (by (with_reducible repeat (first|apply nA|apply nN|apply nD));exact HO_4.out) hb);have n1_:=mA (rB (by (with_reducible repeat (first|apply rA|apply rN|apply rD));exact HO_5.out) hb);have n2_:=mA (bT (by repeat (first|(with_reducible first|exact HB.out|apply bA|apply bN|apply bD)|exact HB.out)) hb);clear HO_4 HO_5 HB;have HO_4:=n0_;have HO_5:=n1_;have HB:=n2_;clear n0_ n1_ n2_;(try clear hb);(try clear hb2);(try clear hk);(try clear hi))))
         go_meet
         case rel=>exact ⟨_,(true),(by first|rfl|(simp;done)|(simp [*];done)),H',⟨by have:=HK1.out;have:=HJ9.out;first|omega|exact Nat.le_refl _⟩,⟨by (with_reducible repeat (first|apply nA|apply nN|apply nD));exact HO_4.out⟩,⟨by (with_reducible repeat (first|apply rA|apply rN|apply rD));exact HO_5.out⟩,⟨by repeat (first|(with_reducible first|exact HB.out|apply bA|apply bN|apply bD)|exact HB.out)⟩⟩
       case rest =>
        clear HC20
        try clear c1
        try clear p1
        try clear q1
        try clear hx1
        try clear c2
        try clear c2b0
        try clear c2b1
        try clear p2
        try clear c3
        try clear p6
        try clear c11
        try clear c11b0
        try clear p11
        try clear q11
        try clear hx11
        try clear c14
        try clear c15
        try clear c15b0
        try clear c15b1
        try clear c17
        try clear c17b0
        try clear c18
        try clear c18b0
        try clear c18b1
        try clear c22
        try clear hx110_0
        try clear p110
        try clear p2
        try clear q110
        obtain ⟨kq,x54_19,rfl,HA,HJ19,HO_4,HO_5,HB⟩:=hcut
        cases kq with
        | zero=>exact absurd HA.out (by simp [laws_FnKnownFollows.j2])
        | succ kj19 =>
         have H:=HA.out
         clear HA
         simp only [laws_FnKnownFollows.j2] at H
         by_cases c25:x54_19=true
         ·subst c25
          have H1:((laws_alive.f).bind fun t112=>(some t112))=some r:=by rw [if_pos rfl] at H;exact H
          clear H
          have H:=H1
          clear H1
          replace H:=Option.bind_eq_some_iff.mp H
          obtain ⟨t112,A260,H⟩:=H
          replace H:(some t112)=some r:=H
          have A26:=mA A260
          clear A260
          obtain rfl:=Option.some.inj H
          go_wp2_with (first|(go_at_call 26;(with_reducible refine (laws_alive.calls  t112 _ A26.out).mono ?_);rintro e w' ⟨rfl,⟨nd,rfl⟩⟩;(try first|exact ⟨rfl,_,World.drewN_drewN _ _ _⟩|exact ⟨rfl,_,Eq.trans (World.drewN_drewN _ _ _) (congrArg (World.drewN _) (Nat.add_assoc _ _ _))⟩)))
          repeat (go_quiet (first|(go_at_call 26;(with_reducible refine (laws_alive.calls  t112 _ A26.out).mono ?_);rintro e w' ⟨rfl,⟨nd,rfl⟩⟩;(try first|exact ⟨rfl,_,World.drewN_drewN _ _ _⟩|exact ⟨rfl,_,Eq.trans (World.drewN_drewN _ _ _) (congrArg (World.drewN _) (Nat.add_assoc _ _ _))⟩)));try go_wp2_with (first|(go_at_call 26;(with_reducible refine (laws_alive.calls  t112 _ A26.out).mono ?_);rintro e w' ⟨rfl,⟨nd,rfl⟩⟩;(try first|exact ⟨rfl,_,World.drewN_drewN _ _ _⟩|exact ⟨rfl,_,Eq.trans (World.drewN_drewN _ _ _) (congrArg (World.drewN _) (Nat.add_assoc _ _ _))⟩))))
          go_ret
          exact ⟨by first|rfl|(simp [errW_none,errW_some]<;>rfl)|(simp [*, errW_none,errW_some]<;>rfl),by repeat (first|(with_reducible first|exact HB.out|apply bA|apply bN|apply bD)|exact HB.out)⟩
         ·replace c25:=Bool.eq_false_iff.mpr c25
          subst c25
          have H1:((some (([]:List (S36)):List (S36))).bind fun y113=>(if y113.length+t102.length<4398046511104 then ((some (y113++t102:List (S36))).bind fun y116=>(if y116.length<4398046511104 then ((impl_KnownPeople.f kj19 t101 (y116++[(⟨0,(([(⟨1,0⟩:S33)]:List (S33)))⟩:S36)])).bind fun t125=>(laws_FnKnownFollows.l1 kj19 t101 t105 t125 0)) else (none))) else (none)))=some r:=by rw [if_neg (show ¬ (false=true) by decide)] at H;exact H
          clear H
          have H:=H1
          clear H1
          obtain ⟨y113,hy113⟩ : ∃ y_:List (S36),y_=(([]:List (S36))):=⟨_,rfl⟩
          replace H:(if y113.length+t102.length<4398046511104 then ((some (y113++t102:List (S36))).bind fun y116=>(if y116.length<4398046511104 then ((impl_KnownPeople.f kj19 t101 (y116++[(⟨0,(([(⟨1,0⟩:S33)]:List (S33)))⟩:S36)])).bind fun t125=>(laws_FnKnownFollows.l1 kj19 t101 t105 t125 0)) else (none))) else (none))=some r:=by first|(rw [hy113];with_reducible exact H)|(have H2_:=(Option.bind_some _ _).symm.trans H;rw [hy113];with_reducible exact H2_)|(have H2_:=(Option.bind_some _ _).symm.trans H;with_reducible exact H2_)|with_reducible exact H|(rw [hy113];exact H)|exact H
          have Ny113:=mA hy113
          clear hy113
          by_cases c27:y113.length+t102.length<4398046511104
          ·rw [if_pos c27] at H
           have LMc27:=mA c27
           clear c27
           obtain ⟨y116,hy116⟩ : ∃ y_:List (S36),y_=(y113++t102):=⟨_,rfl⟩
           replace H:(if y116.length<4398046511104 then ((impl_KnownPeople.f kj19 t101 (y116++[(⟨0,(([(⟨1,0⟩:S33)]:List (S33)))⟩:S36)])).bind fun t125=>(laws_FnKnownFollows.l1 kj19 t101 t105 t125 0)) else (none))=some r:=by first|(rw [hy116];with_reducible exact H)|(have H2_:=(Option.bind_some _ _).symm.trans H;rw [hy116];with_reducible exact H2_)|(have H2_:=(Option.bind_some _ _).symm.trans H;with_reducible exact H2_)|with_reducible exact H|(rw [hy116];exact H)|exact H
           have Ny116:=mA hy116
           clear hy116
           obtain ⟨y119,hy119⟩ : ∃ y_:List (S33),y_=(([(⟨1,0⟩:S33)]:List (S33))):=⟨_,rfl⟩
           replace H:(if y116.length<4398046511104 then ((impl_KnownPeople.f kj19 t101 (y116++[(⟨0,y119⟩:S36)])).bind fun t125=>(laws_FnKnownFollows.l1 kj19 t101 t105 t125 0)) else (none))=some r:=by first|(rw [hy119];with_reducible exact H)|(have H2_:=(Option.bind_some _ _).symm.trans H;rw [hy119];with_reducible exact H2_)|(have H2_:=(Option.bind_some _ _).symm.trans H;with_reducible exact H2_)|with_reducible exact H|(rw [hy119];exact H)|exact H
           have Ny119:=mA hy119
           clear hy119
           by_cases c28:y116.length<4398046511104
           ·rw [if_pos c28] at H
            have LMc28:=mA c28
            clear c28
            obtain ⟨y122,hy122⟩ : ∃ y_:List (S36),y_=(y116++[(⟨0,y119⟩:S36)]):=⟨_,rfl⟩
            replace H:((impl_KnownPeople.f kj19 t101 y122).bind fun t125=>(laws_FnKnownFollows.l1 kj19 t101 t105 t125 0))=some r:=by first|(rw [hy122];with_reducible exact H)|(have H2_:=(Option.bind_some _ _).symm.trans H;rw [hy122];with_reducible exact H2_)|(have H2_:=(Option.bind_some _ _).symm.trans H;with_reducible exact H2_)|with_reducible exact H|(rw [hy122];exact H)|exact H
            have Ny122:=mA hy122
            clear hy122
            replace H:=Option.bind_eq_some_iff.mp H
            obtain ⟨t125,A290,H⟩:=H
            replace H:(laws_FnKnownFollows.l1 kj19 t101 t105 t125 0)=some r:=H
            have A29:=mA A290
            clear A290
            have H':=mA H
            clear H
            go_wp2_with (first|((with_reducible refine gate_dst (N:=57) rfl ?_);(try (refine gate_guard (by rfl) ?_;dsimp only));refine Kd.N_lit k36 _ 36 ?hg (N':=57) ?hd (xs:=([]:List (S36))) (inner:=[]) (ok:=(fun k_=>some k_≠(.slice Ao7 t102.length co7:Value).ownBlock∧some k_≠(v106:Value).ownBlock)) (okp:=(fun k_=>some k_≠(.slice Ao7 t102.length co7:Value).ownBlock∧some k_≠(v106:Value).ownBlock)) ?hr ?hp (fun _ hk=>hk) ((show ∀ k_,wc.heap.size≤k_→(fun k_=>some k_≠(.slice Ao7 t102.length co7:Value).ownBlock∧some k_≠(v106:Value).ownBlock) k_ from fun k_ hk=>⟨Kd.fresh' (Kd.N_lt (by (with_reducible repeat (first|apply nA|apply nN|apply nD));exact HO_4.out)) k_ hk,Kd.fresh' (rL (by (with_reducible repeat (first|apply rA|apply rN|apply rD));exact HO_5.out)) k_ hk⟩) _ (Nat.le_refl _)) (Below.refl _ _) (Nat.le_refl _) (by simp) ?_;(case hd=>rfl);(case hg=>rfl);(case hr=>first|(go_simp;done)|(go_simp;rfl));(case hp=>exact (Reps.none _ _));intro v114 w30 ho31 hb hg_ hnew_;clear hg_ hnew_;(first|rw [←Ny113.out] at ho31|(simp only [Int.reduceToNat] at ho31;rw [←Ny113.out] at ho31));have n0_:=mA (Kd.N_elder' (by (with_reducible repeat (first|apply nA|apply nN|apply nD));exact HO_4.out) (Kd.N_base ho31) hb);have n1_:=mA (rB (by (with_reducible repeat (first|apply rA|apply rN|apply rD));exact HO_5.out) hb);have n2_:=mA (Kd.N_lower ho31 (bZ (by repeat (first|(with_reducible first|exact HB.out|apply bA|apply bN|apply bD)|exact HB.out))));have n3_:=mA (bT (by repeat (first|(with_reducible first|exact HB.out|apply bA|apply bN|apply bD)|exact HB.out)) hb);clear HO_4 HO_5 HB;have HO_4:=n0_;have HO_5:=n1_;have HO115:=n2_;have HB:=n3_;clear n0_ n1_ n2_ n3_ hb ho31)|((with_reducible refine gate_builtin (b:=.append) (xs:=#[.tmp 57,.tmp 58]) rfl ?_);(try (refine gate_guard (by rfl) ?_;dsimp only));at_builtin;refine Kd.N_append_rows k36 (w0:=w) w.heap.size rfl (.tmp 57) (.tmp 58) 23 36 (.agg #[(.int .i64 0),(.slice none 0 0)]) 32 rfl Try.underlying23 info36 rfl (by decide) (by omega) v114 y113 t102 _ _ _ (fun k_=>some k_≠(v106:Value).ownBlock) (fun k_=>((fun k_=>some k_≠(v106:Value).ownBlock)) k_∧some k_≠(v114:Value).ownBlock) rfl rfl ?aO ?aR (fun _ hk=>hk) ?aF ?aB ?aS ?aL ?_;(case aR=>exact (by skip;exact Kd.N_F (Kd.N_mono (ok':=(fun k_=>((fun k_=>some k_≠(v106:Value).ownBlock)) k_∧some k_≠(v114:Value).ownBlock)) (HO_4.out) (fun k_ hk=>⟨hk.1,hk.2⟩))));(case aB=>exact (by repeat (first|(with_reducible first|exact HB.out|apply bA|apply bN|apply bD)|exact HB.out)));(case aF=>exact (fun k_ hk=>Kd.fresh' (rL (by (with_reducible repeat (first|apply rA|apply rN|apply rD));exact HO_5.out)) k_ hk));(case aO=>exact (by (with_reducible repeat (first|apply nA|apply nN|apply nD));exact Kd.N_mono HO115.out (fun _ hk=>hk.2)));(case aS=>exact (bZ (by repeat (first|(with_reducible first|exact HB.out|apply bA|apply bN|apply bD)|exact HB.out))));(case aL=>have:=LMc27.out;omega);intro v117 w32 ho hb hg hat;rw [←Ny116.out] at ho;have n0_:=mA (Kd.N_afterv (ok:=(fun k_=>some k_≠(v106:Value).ownBlock)) (by (with_reducible repeat (first|apply nA|apply nN|apply nD));exact HO_4.out) hg hat);have n1_:=mA (Kd.R_over' (by (with_reducible repeat (first|apply rA|apply rN|apply rD));exact HO_5.out) (Kd.N_typed (by (with_reducible repeat (first|apply nA|apply nN|apply nD));exact HO115.out)) (by decide) hg);have n2_:=mA (hb);have n3_:=mA (ho);clear HO_4 HO_5 HB HO115;have HO_4:=n0_;have HO_5:=n1_;have HB:=n2_;have HO118:=n3_;clear n0_ n1_ n2_ n3_ ho hb hg hat)|((with_reducible refine gate_dst (N:=61) rfl ?_);(try (refine gate_guard (by rfl) ?_;dsimp only));refine Kd.R_lit k33 _ 33 ?hg (N:=61) ?hd (xs:=([(⟨1,0⟩:S33)]:List (S33))) (inner:=[.int .i64 1,.int .i64 0]) (ok:=fun _=>True) (okp:=fun _=>True) ?hr ?hp (fun _ hk=>hk) trivial (Below.refl _ _) (Nat.le_refl _) (by simp) ?_;(case hd=>rfl);(case hg=>rfl);(case hr=>first|(go_simp;done)|(go_simp;rfl));(case hp=>exact (Reps.c2 (show Kd.M k33 _ _ _ (⟨1,0⟩:S33) [.int .i64 1,.int .i64 0] from (k33_mkM _ _ _ (⟨1,0⟩:S33) )) (Reps.none _ _)));intro v120 w33 ho34 hb hg_ hnew_;clear hg_ hnew_;(first|rw [←Ny119.out] at ho34|(simp only [Int.reduceToNat] at ho34;rw [←Ny119.out] at ho34));have n0_:=mA (Kd.N_elder' (by (with_reducible repeat (first|apply nA|apply nN|apply nD));exact HO_4.out) (Kd.R_base ho34) hb);have n1_:=mA (rB (by (with_reducible repeat (first|apply rA|apply rN|apply rD));exact HO_5.out) hb);have n2_:=mA (Kd.N_elder' (by (with_reducible repeat (first|apply nA|apply nN|apply nD));exact HO118.out) (Kd.R_base ho34) hb);have n3_:=mA (Kd.R_lower ho34 (bZ (by repeat (first|(with_reducible first|exact HB.out|apply bA|apply bN|apply bD)|exact HB.out))));have n4_:=mA (bT (by repeat (first|(with_reducible first|exact HB.out|apply bA|apply bN|apply bD)|exact HB.out)) hb);clear HO_4 HO_5 HO118 HB;have HO_4:=n0_;have HO_5:=n1_;have HO118:=n2_;have HO121:=n3_;have HB:=n4_;clear n0_ n1_ n2_ n3_ n4_ hb ho34;obtain ⟨Ao35,co35,eo35⟩:=Kd.R_slice HO121.out;subst eo35)|((with_reducible refine gate_builtin (b:=.append) (xs:=#[.tmp 59,.tmp 63]) rfl ?_);(try (refine gate_guard (by rfl) ?_;dsimp only));at_builtin;refine Kd.N_append k36 (w0:=w) w.heap.size rfl (.tmp 59) (.tmp 63) 23 36 (.agg #[(.int .i64 0),(.slice none 0 0)]) 32 rfl Try.underlying23 info36 rfl (by decide) (by omega) v117 y116 (⟨0,y119⟩:S36) [.int .i64 0,.slice Ao35 y119.length co35] (fun k_=>some k_≠(v106:Value).ownBlock) (fun k_=>((fun k_=>some k_≠(v106:Value).ownBlock)) k_∧some k_≠(v117:Value).ownBlock) rfl rfl ?aP (fun _ hk=>hk) ?aF ?aO ?aB ?aS ?aL ?_;(case aP=>exact (k36_mkF _ _ (⟨0,y119⟩:S36) (rR (rM (ok':=(fun k_=>((fun k_=>some k_≠(v106:Value).ownBlock)) k_∧some k_≠(v117:Value).ownBlock)) (Kd.R_apart' (Kd.R_apart' (HO121.out) (rT HO_5.out) (by decide)) (Kd.N_typed HO118.out) (by decide)) (fun k_ hk=>⟨hk.1.2,hk.2⟩))).2.1 (Kd.R_F (rM (ok':=(fun k_=>((fun k_=>some k_≠(v106:Value).ownBlock)) k_∧some k_≠(v117:Value).ownBlock)) (Kd.R_apart' (Kd.R_apart' (HO121.out) (rT HO_5.out) (by decide)) (Kd.N_typed HO118.out) (by decide)) (fun k_ hk=>⟨hk.1.2,hk.2⟩)))));(case aB=>exact (by repeat (first|(with_reducible first|exact HB.out|apply bA|apply bN|apply bD)|exact HB.out)));(case aF=>exact (fun k_ hk=>Kd.fresh' (rL (by (with_reducible repeat (first|apply rA|apply rN|apply rD));exact HO_5.out)) k_ hk));(case aO=>exact (by (with_reducible repeat (first|apply nA|apply nN|apply nD));exact Kd.N_mono HO118.out (fun _ hk=>hk.1)));(case aS=>exact (bZ (by repeat (first|(with_reducible first|exact HB.out|apply bA|apply bN|apply bD)|exact HB.out))));(case aL=>have:=LMc28.out;omega);intro v123 w36 ho hb hg hat;rw [←Ny122.out] at ho;have n0_:=mA (Kd.N_afterv (ok:=(fun k_=>some k_≠(v106:Value).ownBlock∧some k_≠(.slice Ao35 y119.length co35:Value).ownBlock)) (by (with_reducible repeat (first|apply nA|apply nN|apply nD));exact Kd.N_mono HO_4.out (fun _ hk=>⟨⟨hk.1.1,hk.2⟩,hk.1.2⟩)) hg hat);have n1_:=mA (Kd.R_over' (by (with_reducible repeat (first|apply rA|apply rN|apply rD));exact HO_5.out) (Kd.N_typed (by (with_reducible repeat (first|apply nA|apply nN|apply nD));exact HO118.out)) (by decide) hg);have n2_:=mA (hb);have n3_:=mA (ho);clear HO_4 HO_5 HB HO118 HO121;have HO_4:=n0_;have HO_5:=n1_;have HB:=n2_;have HO124:=n3_;clear n0_ n1_ n2_ n3_ ho hb hg hat;obtain ⟨Ao37,co37,eo37⟩:=Kd.N_slice HO124.out;subst eo37)|(go_at_call 23;(with_reducible refine (impl_KnownPeople.calls kj19 t101 _ _ y122 t125 _ ?side1 ?side2 A29.out).mono ?_);(case side1=>repeat (first|exact (Kd.N_reads' HO124.out).2.2|(with_reducible refine cA ?_ _)|(with_reducible refine cN ?_ _)|(with_reducible refine cD ?_)));(case side2=>exact (Kd.N_reads' HO124.out).2.1);rintro e w38 ⟨v126,rfl,ho0,hb⟩;have n0_:=mA (Kd.N_elder' (by (with_reducible repeat (first|apply nA|apply nN|apply nD));exact HO_4.out) (Kd.R_base ho0) hb);have n1_:=mA (Kd.R_elder' (by (with_reducible repeat (first|apply rA|apply rN|apply rD));exact HO_5.out) (Kd.R_base ho0) hb);have n2_:=mA (Kd.N_elder' (by (with_reducible repeat (first|apply nA|apply nN|apply nD));exact HO124.out) (Kd.R_base ho0) hb);have n3_:=mA (Kd.R_lower (Kd.R_new' ho0 (rL (by (with_reducible repeat (first|apply rA|apply rN|apply rD));exact HO_5.out))) (bZ (by repeat (first|(with_reducible first|exact HB.out|apply bA|apply bN|apply bD)|exact HB.out))));have n4_:=mA (bT (by repeat (first|(with_reducible first|exact HB.out|apply bA|apply bN|apply bD)|exact HB.out)) hb);clear HO_4 HO_5 HO124 HB;have HO_4:=n0_;have HO_5:=n1_;have HO124:=n2_;have HO127:=n3_;have HB:=n4_;clear n0_ n1_ n2_ n3_ n4_;(try clear hb);(try clear hb2);(try clear hk);(try clear hi);(try clear ho0)))
            repeat (go_quiet (first|((with_reducible refine gate_dst (N:=57) rfl ?_);(try (refine gate_guard (by rfl) ?_;dsimp only));refine Kd.N_lit k36 _ 36 ?hg (N':=57) ?hd (xs:=([]:List (S36))) (inner:=[]) (ok:=(fun k_=>some k_≠(.slice Ao7 t102.length co7:Value).ownBlock∧some k_≠(v106:Value).ownBlock)) (okp:=(fun k_=>some k_≠(.slice Ao7 t102.length co7:Value).ownBlock∧some k_≠(v106:Value).ownBlock)) ?hr ?hp (fun _ hk=>hk) ((show ∀ k_,wc.heap.size≤k_→(fun k_=>some k_≠(.slice Ao7 t102.length co7:Value).ownBlock∧some k_≠(v106:Value).ownBlock) k_ from fun k_ hk=>⟨Kd.fresh' (Kd.N_lt (by (with_reducible repeat (first|apply nA|apply nN|apply nD));exact HO_4.out)) k_ hk,Kd.fresh' (rL (by (with_reducible repeat (first|apply rA|apply rN|apply rD));exact HO_5.out)) k_ hk⟩) _ (Nat.le_refl _)) (Below.refl _ _) (Nat.le_refl _) (by simp) ?_;(case hd=>rfl);(case hg=>rfl);(case hr=>first|(go_simp;done)|(go_simp;rfl));(case hp=>exact (Reps.none _ _));intro v114 w30 ho31 hb hg_ hnew_;clear hg_ hnew_;(first|rw [←Ny113.out] at ho31|(simp only [Int.reduceToNat] at ho31;rw [←Ny113.out] at ho31));have n0_:=mA (Kd.N_elder' (by (with_reducible repeat (first|apply nA|apply nN|apply nD));exact HO_4.out) (Kd.N_base ho31) hb);have n1_:=mA (rB (by (with_reducible repeat (first|apply rA|apply rN|apply rD));exact HO_5.out) hb);have n2_:=mA (Kd.N_lower ho31 (bZ (by repeat (first|(with_reducible first|exact HB.out|apply bA|apply bN|apply bD)|exact HB.out))));have n3_:=mA (bT (by repeat (first|(with_reducible first|exact HB.out|apply bA|apply bN|apply bD)|exact HB.out)) hb);clear HO_4 HO_5 HB;have HO_4:=n0_;have HO_5:=n1_;have HO115:=n2_;have HB:=n3_;clear n0_ n1_ n2_ n3_ hb ho31)|((with_reducible refine gate_builtin (b:=.append) (xs:=#[.tmp 57,.tmp 58]) rfl ?_);(try (refine gate_guard (by rfl) ?_;dsimp only));at_builtin;refine Kd.N_append_rows k36 (w0:=w) w.heap.size rfl (.tmp 57) (.tmp 58) 23 36 (.agg #[(.int .i64 0),(.slice none 0 0)]) 32 rfl Try.underlying23 info36 rfl (by decide) (by omega) v114 y113 t102 _ _ _ (fun k_=>some k_≠(v106:Value).ownBlock) (fun k_=>((fun k_=>some k_≠(v106:Value).ownBlock)) k_∧some k_≠(v114:Value).ownBlock) rfl rfl ?aO ?aR (fun _ hk=>hk) ?aF ?aB ?aS ?aL ?_;(case aR=>exact (by skip;exact Kd.N_F (Kd.N_mono (ok':=(fun k_=>((fun k_=>some k_≠(v106:Value).ownBlock)) k_∧some k_≠(v114:Value).ownBlock)) (HO_4.out) (fun k_ hk=>⟨hk.1,hk.2⟩))));(case aB=>exact (by repeat (first|(with_reducible first|exact HB.out|apply bA|apply bN|apply bD)|exact HB.out)));(case aF=>exact (fun k_ hk=>Kd.fresh' (rL (by (with_reducible repeat (first|apply rA|apply rN|apply rD));exact HO_5.out)) k_ hk));(case aO=>exact (by (with_reducible repeat (first|apply nA|apply nN|apply nD));exact Kd.N_mono HO115.out (fun _ hk=>hk.2)));(case aS=>exact (bZ (by repeat (first|(with_reducible first|exact HB.out|apply bA|apply bN|apply bD)|exact HB.out))));(case aL=>have:=LMc27.out;omega);intro v117 w32 ho hb hg hat;rw [←Ny116.out] at ho;have n0_:=mA (Kd.N_afterv (ok:=(fun k_=>some k_≠(v106:Value).ownBlock)) (by (with_reducible repeat (first|apply nA|apply nN|apply nD));exact HO_4.out) hg hat);have n1_:=mA (Kd.R_over' (by (with_reducible repeat (first|apply rA|apply rN|apply rD));exact HO_5.out) (Kd.N_typed (by (with_reducible repeat (first|apply nA|apply nN|apply nD));exact HO115.out)) (by decide) hg);have n2_:=mA (hb);have n3_:=mA (ho);clear HO_4 HO_5 HB HO115;have HO_4:=n0_;have HO_5:=n1_;have HB:=n2_;have HO118:=n3_;clear n0_ n1_ n2_ n3_ ho hb hg hat)|((with_reducible refine gate_dst (N:=61) rfl ?_);(try (refine gate_guard (by rfl) ?_;dsimp only));refine Kd.R_lit k33 _ 33 ?hg (N:=61) ?hd (xs:=([(⟨1,0⟩:S33)]:List (S33))) (inner:=[.int .i64 1,.int .i64 0]) (ok:=fun _=>True) (okp:=fun _=>True) ?hr ?hp (fun _ hk=>hk) trivial (Below.refl _ _) (Nat.le_refl _) (by simp) ?_;(case hd=>rfl);(case hg=>rfl);(case hr=>first|(go_simp;done)|(go_simp;rfl));(case hp=>exact (Reps.c2 (show Kd.M k33 _ _ _ (⟨1,0⟩:S33) [.int .i64 1,.int .i64 0] from (k33_mkM _ _ _ (⟨1,0⟩:S33) )) (Reps.none _ _)));intro v120 w33 ho34 hb hg_ hnew_;clear hg_ hnew_;(first|rw [←Ny119.out] at ho34|(simp only [Int.reduceToNat] at ho34;rw [←Ny119.out] at ho34));have n0_:=mA (Kd.N_elder' (by (with_reducible repeat (first|apply nA|apply nN|apply nD));exact HO_4.out) (Kd.R_base ho34) hb);have n1_:=mA (rB (by (with_reducible repeat (first|apply rA|apply rN|apply rD));exact HO_5.out) hb);have n2_:=mA (Kd.N_elder' (by (with_reducible repeat (first|apply nA|apply nN|apply nD));exact HO118.out) (Kd.R_base ho34) hb);have n3_:=mA (Kd.R_lower ho34 (bZ (by repeat (first|(with_reducible first|exact HB.out|apply bA|apply bN|apply bD)|exact HB.out))));have n4_:=mA (bT (by repeat (first|(with_reducible first|exact HB.out|apply bA|apply bN|apply bD)|exact HB.out)) hb);clear HO_4 HO_5 HO118 HB;have HO_4:=n0_;have HO_5:=n1_;have HO118:=n2_;have HO121:=n3_;have HB:=n4_;clear n0_ n1_ n2_ n3_ n4_ hb ho34;obtain ⟨Ao35,co35,eo35⟩:=Kd.R_slice HO121.out;subst eo35)|((with_reducible refine gate_builtin (b:=.append) (xs:=#[.tmp 59,.tmp 63]) rfl ?_);(try (refine gate_guard (by rfl) ?_;dsimp only));at_builtin;refine Kd.N_append k36 (w0:=w) w.heap.size rfl (.tmp 59) (.tmp 63) 23 36 (.agg #[(.int .i64 0),(.slice none 0 0)]) 32 rfl Try.underlying23 info36 rfl (by decide) (by omega) v117 y116 (⟨0,y119⟩:S36) [.int .i64 0,.slice Ao35 y119.length co35] (fun k_=>some k_≠(v106:Value).ownBlock) (fun k_=>((fun k_=>some k_≠(v106:Value).ownBlock)) k_∧some k_≠(v117:Value).ownBlock) rfl rfl ?aP (fun _ hk=>hk) ?aF ?aO ?aB ?aS ?aL ?_;(case aP=>exact (k36_mkF _ _ (⟨0,y119⟩:S36) (rR (rM (ok':=(fun k_=>((fun k_=>some k_≠(v106:Value).ownBlock)) k_∧some k_≠(v117:Value).ownBlock)) (Kd.R_apart' (Kd.R_apart' (HO121.out) (rT HO_5.out) (by decide)) (Kd.N_typed HO118.out) (by decide)) (fun k_ hk=>⟨hk.1.2,hk.2⟩))).2.1 (Kd.R_F (rM (ok':=(fun k_=>((fun k_=>some k_≠(v106:Value).ownBlock)) k_∧some k_≠(v117:Value).ownBlock)) (Kd.R_apart' (Kd.R_apart' (HO121.out) (rT HO_5.out) (by decide)) (Kd.N_typed HO118.out) (by decide)) (fun k_ hk=>⟨hk.1.2,hk.2⟩)))));(case aB=>exact (by repeat (first|(with_reducible first|exact HB.out|apply bA|apply bN|apply bD)|exact HB.out)));(case aF=>exact (fun k_ hk=>Kd.fresh' (rL (by (with_reducible repeat (first|apply rA|apply rN|apply rD));exact HO_5.out)) k_ hk));(case aO=>exact (by (with_reducible repeat (first|apply nA|apply nN|apply nD));exact Kd.N_mono HO118.out (fun _ hk=>hk.1)));(case aS=>exact (bZ (by repeat (first|(with_reducible first|exact HB.out|apply bA|apply bN|apply bD)|exact HB.out))));(case aL=>have:=LMc28.out;omega);intro v123 w36 ho hb hg hat;rw [←Ny122.out] at ho;have n0_:=mA (Kd.N_afterv (ok:=(fun k_=>some k_≠(v106:Value).ownBlock∧some k_≠(.slice Ao35 y119.length co35:Value).ownBlock)) (by (with_reducible repeat (first|apply nA|apply nN|apply nD));exact Kd.N_mono HO_4.out (fun _ hk=>⟨⟨hk.1.1,hk.2⟩,hk.1.2⟩)) hg hat);have n1_:=mA (Kd.R_over' (by (with_reducible repeat (first|apply rA|apply rN|apply rD));exact HO_5.out) (Kd.N_typed (by (with_reducible repeat (first|apply nA|apply nN|apply nD));exact HO118.out)) (by decide) hg);have n2_:=mA (hb);have n3_:=mA (ho);clear HO_4 HO_5 HB HO118 HO121;have HO_4:=n0_;have HO_5:=n1_;have HB:=n2_;have HO124:=n3_;clear n0_ n1_ n2_ n3_ ho hb hg hat;obtain ⟨Ao37,co37,eo37⟩:=Kd.N_slice HO124.out;subst eo37)|(go_at_call 23;(with_reducible refine (impl_KnownPeople.calls kj19 t101 _ _ y122 t125 _ ?side1 ?side2 A29.out).mono ?_);(case side1=>repeat (first|exact (Kd.N_reads' HO124.out).2.2|(with_reducible refine cA ?_ _)|(with_reducible refine cN ?_ _)|(with_reducible refine cD ?_)));(case side2=>exact (Kd.N_reads' HO124.out).2.1);rintro e w38 ⟨v126,rfl,ho0,hb⟩;have n0_:=mA (Kd.N_elder' (by (with_reducible repeat (first|apply nA|apply nN|apply nD));exact HO_4.out) (Kd.R_base ho0) hb);have n1_:=mA (Kd.R_elder' (by (with_reducible repeat (first|apply rA|apply rN|apply rD));exact HO_5.out) (Kd.R_base ho0) hb);have n2_:=mA (Kd.N_elder' (by (with_reducible repeat (first|apply nA|apply nN|apply nD));exact HO124.out) (Kd.R_base ho0) hb);have n3_:=mA (Kd.R_lower (Kd.R_new' ho0 (rL (by (with_reducible repeat (first|apply rA|apply rN|apply rD));exact HO_5.out))) (bZ (by repeat (first|(with_reducible first|exact HB.out|apply bA|apply bN|apply bD)|exact HB.out))));have n4_:=mA (bT (by repeat (first|(with_reducible first|exact HB.out|apply bA|apply bN|apply bD)|exact HB.out)) hb);clear HO_4 HO_5 HO124 HB;have HO_4:=n0_;have HO_5:=n1_;have HO124:=n2_;have HO127:=n3_;have HB:=n4_;clear n0_ n1_ n2_ n3_ n4_;(try clear hb);(try clear hb2);(try clear hk);(try clear hi);(try clear ho0)));try go_wp2_with (first|((with_reducible refine gate_dst (N:=57) rfl ?_);(try (refine gate_guard (by rfl) ?_;dsimp only));refine Kd.N_lit k36 _ 36 ?hg (N':=57) ?hd (xs:=([]:List (S36))) (inner:=[]) (ok:=(fun k_=>some k_≠(.slice Ao7 t102.length co7:Value).ownBlock∧some k_≠(v106:Value).ownBlock)) (okp:=(fun k_=>some k_≠(.slice Ao7 t102.length co7:Value).ownBlock∧some k_≠(v106:Value).ownBlock)) ?hr ?hp (fun _ hk=>hk) ((show ∀ k_,wc.heap.size≤k_→(fun k_=>some k_≠(.slice Ao7 t102.length co7:Value).ownBlock∧some k_≠(v106:Value).ownBlock) k_ from fun k_ hk=>⟨Kd.fresh' (Kd.N_lt (by (with_reducible repeat (first|apply nA|apply nN|apply nD));exact HO_4.out)) k_ hk,Kd.fresh' (rL (by (with_reducible repeat (first|apply rA|apply rN|apply rD));exact HO_5.out)) k_ hk⟩) _ (Nat.le_refl _)) (Below.refl _ _) (Nat.le_refl _) (by simp) ?_;(case hd=>rfl);(case hg=>rfl);(case hr=>first|(go_simp;done)|(go_simp;rfl));(case hp=>exact (Reps.none _ _));intro v114 w30 ho31 hb hg_ hnew_;clear hg_ hnew_;(first|rw [←Ny113.out] at ho31|(simp only [Int.reduceToNat] at ho31;rw [←Ny113.out] at ho31));have n0_:=mA (Kd.N_elder' (by (with_reducible repeat (first|apply nA|apply nN|apply nD));exact HO_4.out) (Kd.N_base ho31) hb);have n1_:=mA (rB (by (with_reducible repeat (first|apply rA|apply rN|apply rD));exact HO_5.out) hb);have n2_:=mA (Kd.N_lower ho31 (bZ (by repeat (first|(with_reducible first|exact HB.out|apply bA|apply bN|apply bD)|exact HB.out))));have n3_:=mA (bT (by repeat (first|(with_reducible first|exact HB.out|apply bA|apply bN|apply bD)|exact HB.out)) hb);clear HO_4 HO_5 HB;have HO_4:=n0_;have HO_5:=n1_;have HO115:=n2_;have HB:=n3_;clear n0_ n1_ n2_ n3_ hb ho31)|((with_reducible refine gate_builtin (b:=.append) (xs:=#[.tmp 57,.tmp 58]) rfl ?_);(try (refine gate_guard (by rfl) ?_;dsimp only));at_builtin;refine Kd.N_append_rows k36 (w0:=w) w.heap.size rfl (.tmp 57) (.tmp 58) 23 36 (.agg #[(.int .i64 0),(.slice none 0 0)]) 32 rfl Try.underlying23 info36 rfl (by decide) (by omega) v114 y113 t102 _ _ _ (fun k_=>some k_≠(v106:Value).ownBlock) (fun k_=>((fun k_=>some k_≠(v106:Value).ownBlock)) k_∧some k_≠(v114:Value).ownBlock) rfl rfl ?aO ?aR (fun _ hk=>hk) ?aF ?aB ?aS ?aL ?_;(case aR=>exact (by skip;exact Kd.N_F (Kd.N_mono (ok':=(fun k_=>((fun k_=>some k_≠(v106:Value).ownBlock)) k_∧some k_≠(v114:Value).ownBlock)) (HO_4.out) (fun k_ hk=>⟨hk.1,hk.2⟩))));(case aB=>exact (by repeat (first|(with_reducible first|exact HB.out|apply bA|apply bN|apply bD)|exact HB.out)));(case aF=>exact (fun k_ hk=>Kd.fresh' (rL (by (with_reducible repeat (first|apply rA|apply rN|apply rD));exact HO_5.out)) k_ hk));(case aO=>exact (by (with_reducible repeat (first|apply nA|apply nN|apply nD));exact Kd.N_mono HO115.out (fun _ hk=>hk.2)));(case aS=>exact (bZ (by repeat (first|(with_reducible first|exact HB.out|apply bA|apply bN|apply bD)|exact HB.out))));(case aL=>have:=LMc27.out;omega);intro v117 w32 ho hb hg hat;rw [←Ny116.out] at ho;have n0_:=mA (Kd.N_afterv (ok:=(fun k_=>some k_≠(v106:Value).ownBlock)) (by (with_reducible repeat (first|apply nA|apply nN|apply nD));exact HO_4.out) hg hat);have n1_:=mA (Kd.R_over' (by (with_reducible repeat (first|apply rA|apply rN|apply rD));exact HO_5.out) (Kd.N_typed (by (with_reducible repeat (first|apply nA|apply nN|apply nD));exact HO115.out)) (by decide) hg);have n2_:=mA (hb);have n3_:=mA (ho);clear HO_4 HO_5 HB HO115;have HO_4:=n0_;have HO_5:=n1_;have HB:=n2_;have HO118:=n3_;clear n0_ n1_ n2_ n3_ ho hb hg hat)|((with_reducible refine gate_dst (N:=61) rfl ?_);(try (refine gate_guard (by rfl) ?_;dsimp only));refine Kd.R_lit k33 _ 33 ?hg (N:=61) ?hd (xs:=([(⟨1,0⟩:S33)]:List (S33))) (inner:=[.int .i64 1,.int .i64 0]) (ok:=fun _=>True) (okp:=fun _=>True) ?hr ?hp (fun _ hk=>hk) trivial (Below.refl _ _) (Nat.le_refl _) (by simp) ?_;(case hd=>rfl);(case hg=>rfl);(case hr=>first|(go_simp;done)|(go_simp;rfl));(case hp=>exact (Reps.c2 (show Kd.M k33 _ _ _ (⟨1,0⟩:S33) [.int .i64 1,.int .i64 0] from (k33_mkM _ _ _ (⟨1,0⟩:S33) )) (Reps.none _ _)));intro v120 w33 ho34 hb hg_ hnew_;clear hg_ hnew_;(first|rw [←Ny119.out] at ho34|(simp only [Int.reduceToNat] at ho34;rw [←Ny119.out] at ho34));have n0_:=mA (Kd.N_elder' (by (with_reducible repeat (first|apply nA|apply nN|apply nD));exact HO_4.out) (Kd.R_base ho34) hb);have n1_:=mA (rB (by (with_reducible repeat (first|apply rA|apply rN|apply rD));exact HO_5.out) hb);have n2_:=mA (Kd.N_elder' (by (with_reducible repeat (first|apply nA|apply nN|apply nD));exact HO118.out) (Kd.R_base ho34) hb);have n3_:=mA (Kd.R_lower ho34 (bZ (by repeat (first|(with_reducible first|exact HB.out|apply bA|apply bN|apply bD)|exact HB.out))));have n4_:=mA (bT (by repeat (first|(with_reducible first|exact HB.out|apply bA|apply bN|apply bD)|exact HB.out)) hb);clear HO_4 HO_5 HO118 HB;have HO_4:=n0_;have HO_5:=n1_;have HO118:=n2_;have HO121:=n3_;have HB:=n4_;clear n0_ n1_ n2_ n3_ n4_ hb ho34;obtain ⟨Ao35,co35,eo35⟩:=Kd.R_slice HO121.out;subst eo35)|((with_reducible refine gate_builtin (b:=.append) (xs:=#[.tmp 59,.tmp 63]) rfl ?_);(try (refine gate_guard (by rfl) ?_;dsimp only));at_builtin;refine Kd.N_append k36 (w0:=w) w.heap.size rfl (.tmp 59) (.tmp 63) 23 36 (.agg #[(.int .i64 0),(.slice none 0 0)]) 32 rfl Try.underlying23 info36 rfl (by decide) (by omega) v117 y116 (⟨0,y119⟩:S36) [.int .i64 0,.slice Ao35 y119.length co35] (fun k_=>some k_≠(v106:Value).ownBlock) (fun k_=>((fun k_=>some k_≠(v106:Value).ownBlock)) k_∧some k_≠(v117:Value).ownBlock) rfl rfl ?aP (fun _ hk=>hk) ?aF ?aO ?aB ?aS ?aL ?_;(case aP=>exact (k36_mkF _ _ (⟨0,y119⟩:S36) (rR (rM (ok':=(fun k_=>((fun k_=>some k_≠(v106:Value).ownBlock)) k_∧some k_≠(v117:Value).ownBlock)) (Kd.R_apart' (Kd.R_apart' (HO121.out) (rT HO_5.out) (by decide)) (Kd.N_typed HO118.out) (by decide)) (fun k_ hk=>⟨hk.1.2,hk.2⟩))).2.1 (Kd.R_F (rM (ok':=(fun k_=>((fun k_=>some k_≠(v106:Value).ownBlock)) k_∧some k_≠(v117:Value).ownBlock)) (Kd.R_apart' (Kd.R_apart' (HO121.out) (rT HO_5.out) (by decide)) (Kd.N_typed HO118.out) (by decide)) (fun k_ hk=>⟨hk.1.2,hk.2⟩)))));(case aB=>exact (by repeat (first|(with_reducible first|exact HB.out|apply bA|apply bN|apply bD)|exact HB.out)));(case aF=>exact (fun k_ hk=>Kd.fresh' (rL (by (with_reducible repeat (first|apply rA|apply rN|apply rD));exact HO_5.out)) k_ hk));(case aO=>exact (by (with_reducible repeat (first|apply nA|apply nN|apply nD));exact Kd.N_mono HO118.out (fun _ hk=>hk.1)));(case aS=>exact (bZ (by repeat (first|(with_reducible first|exact HB.out|apply bA|apply bN|apply bD)|exact HB.out))));(case aL=>have:=LMc28.out;omega);intro v123 w36 ho hb hg hat;rw [←Ny122.out] at ho;have n0_:=mA (Kd.N_afterv (ok:=(fun k_=>some k_≠(v106:Value).ownBlock∧some k_≠(.slice Ao35 y119.length co35:Value).ownBlock)) (by (with_reducible repeat (first|apply nA|apply nN|apply nD));exact Kd.N_mono HO_4.out (fun _ hk=>⟨⟨hk.1.1,hk.2⟩,hk.1.2⟩)) hg hat);have n1_:=mA (Kd.R_over' (by (with_reducible repeat (first|apply rA|apply rN|apply rD));exact HO_5.out) (Kd.N_typed (by (with_reducible repeat (first|apply nA|apply nN|apply nD));exact HO118.out)) (by decide) hg);have n2_:=mA (hb);have n3_:=mA (ho);clear HO_4 HO_5 HB HO118 HO121;have HO_4:=n0_;have HO_5:=n1_;have HB:=n2_;have HO124:=n3_;clear n0_ n1_ n2_ n3_ ho hb hg hat;obtain ⟨Ao37,co37,eo37⟩:=Kd.N_slice HO124.out;subst eo37)|(go_at_call 23;(with_reducible refine (impl_KnownPeople.calls kj19 t101 _ _ y122 t125 _ ?side1 ?side2 A29.out).mono ?_);(case side1=>repeat (first|exact (Kd.N_reads' HO124.out).2.2|(with_reducible refine cA ?_ _)|(with_reducible refine cN ?_ _)|(with_reducible refine cD ?_)));(case side2=>exact (Kd.N_reads' HO124.out).2.1);rintro e w38 ⟨v126,rfl,ho0,hb⟩;have n0_:=mA (Kd.N_elder' (by (with_reducible repeat (first|apply nA|apply nN|apply nD));exact HO_4.out) (Kd.R_base ho0) hb);have n1_:=mA (Kd.R_elder' (by (with_reducible repeat (first|apply rA|apply rN|apply rD));exact HO_5.out) (Kd.R_base ho0) hb);have n2_:=mA (Kd.N_elder' (by (with_reducible repeat (first|apply nA|apply nN|apply nD));exact HO124.out) (Kd.R_base ho0) hb);have n3_:=mA (Kd.R_lower (Kd.R_new' ho0 (rL (by (with_reducible repeat (first|apply rA|apply rN|apply rD));exact HO_5.out))) (bZ (by repeat (first|(with_reducible first|exact HB.out|apply bA|apply bN|apply bD)|exact HB.out))));have n4_:=mA (bT (by repeat (first|(with_reducible first|exact HB.out|apply bA|apply bN|apply bD)|exact HB.out)) hb);clear HO_4 HO_5 HO124 HB;have HO_4:=n0_;have HO_5:=n1_;have HO124:=n2_;have HO127:=n3_;have HB:=n4_;clear n0_ n1_ n2_ n3_ n4_;(try clear hb);(try clear hb2);(try clear hk);(try clear hi);(try clear ho0))))
            go_loopg [10] kj19 (fun kq v10 w'=>∃ (x10_4:Int),v10 = .int .i64 x10_4∧Aside0 (laws_FnKnownFollows.l1 kq t101 t105 t125 x10_4=some r)∧Aside0 (kq≤kj19)∧Aside0 (Kd.R (Kd.int .i64) 3 w' w.heap.size (fun k_=>some k_≠(v126:Value).ownBlock) v106 t105)∧Aside0 (Kd.R (Kd.int .i64) 3 w' w.heap.size (fun k_=>some k_≠(v106:Value).ownBlock) v126 t125)∧Aside0 (Below w.heap.size w w'))
            case atStart=>exact ⟨(0),(by first|rfl|(simp;done)|(simp [*];done)),H',⟨Nat.le_refl _⟩,⟨by (with_reducible repeat (first|apply rA|apply rN|apply rD));exact rM HO_5.out (fun _ hk=>hk.2)⟩,⟨by (with_reducible repeat (first|apply rA|apply rN|apply rD));exact rM HO127.out (fun _ hk=>hk.2)⟩,⟨by repeat (first|(with_reducible first|exact HB.out|apply bA|apply bN|apply bD)|exact HB.out)⟩⟩
            case round =>
             clear H'
             try clear c1
             try clear p1
             try clear q1
             try clear hx1
             try clear c2
             try clear c2b0
             try clear c2b1
             try clear p2
             try clear c3
             try clear p6
             try clear c11
             try clear c11b0
             try clear p11
             try clear q11
             try clear hx11
             try clear c14
             try clear c15
             try clear c15b0
             try clear c15b1
             try clear c17
             try clear c17b0
             try clear c18
             try clear c18b0
             try clear c18b1
             try clear c22
             try clear c25
             try clear c27
             try clear c28
             try clear hx110_0
             try clear p1
             try clear p11
             try clear p110
             try clear p2
             try clear p6
             try clear q1
             try clear q11
             try clear q110
             obtain ⟨x10_4,rfl,HA,HK4,HO_5,HO_9,HB⟩:=hrel
             cases gk with
             | zero=>exact absurd HA.out (by simp [laws_FnKnownFollows.l1])
             | succ k4 =>
              have H:=HA.out
              clear HA
              simp only [laws_FnKnownFollows.l1] at H
              have HC39:=mA H
              clear H
              go_upto_region 15 with (fail)
              repeat (go_quiet (fail);go_upto_region 15 with (fail))
              go_cut [75] (fun v75 wc=>∃ (kq:Nat) (x75_38:Bool),v75 = .bool x75_38∧Aside0 (laws_FnKnownFollows.j4 kq t101 t105 t125 x10_4 x75_38=some r)∧Aside0 (kq≤k4)∧Aside0 (Kd.R (Kd.int .i64) 3 wc w.heap.size (fun k_=>some k_≠(v126:Value).ownBlock) v106 t105)∧Aside0 (Kd.R (Kd.int .i64) 3 wc w.heap.size (fun k_=>some k_≠(v106:Value).ownBlock) v126 t125)∧Aside0 (Below w.heap.size w wc))
              case first =>
               have H:=HC39.out
               clear HC39
               by_cases c40:x10_4<(t125.length:Int)
               ·rw [if_pos c40] at H
                have c40b0:decide (x10_4<(t125.length:Int))=true:=decide_eq_true c40
                clear c40
                (first|rw [c40b0]|(simp only [i64_w,i32_w];rw [c40b0])|skip)
                have H':=mA H
                clear H
                obtain ⟨Ao41,co41,eo41⟩:=Kd.R_slice HO_9.out
                subst eo41
                obtain ⟨Ao42,co42,eo42⟩:=Kd.R_slice HO_5.out
                subst eo42
                go_wp2
                repeat (go_quiet (fail);try go_wp2)
                go_meet
                case rel=>exact ⟨_,(decide (x10_4<(t105.length:Int))),(by first|rfl|(simp;done)|(simp [*];done)),H',⟨by have:=HK1.out;have:=HJ9.out;have:=HJ19.out;have:=HK4.out;first|omega|exact Nat.le_refl _⟩,⟨by (with_reducible repeat (first|apply rA|apply rN|apply rD));exact HO_5.out⟩,⟨by (with_reducible repeat (first|apply rA|apply rN|apply rD));exact HO_9.out⟩,⟨by repeat (first|(with_reducible first|exact HB.out|apply bA|apply bN|apply bD)|exact HB.out)⟩⟩
               ·rw [if_neg c40] at H
                have c40b0:decide (x10_4<(t125.length:Int))=false:=decide_eq_false c40
                clear c40
                (first|rw [c40b0]|(simp only [i64_w,i32_w];rw [c40b0])|skip)
                have H':=mA H
                clear H
                obtain ⟨Ao43,co43,eo43⟩:=Kd.R_slice HO_9.out
                subst eo43
                go_wp2
                repeat (go_quiet (fail);try go_wp2)
                go_meet
                case rel=>exact ⟨_,(false),(by first|rfl|(simp;done)|(simp [*];done)),H',⟨by have:=HK1.out;have:=HJ9.out;have:=HJ19.out;have:=HK4.out;first|omega|exact Nat.le_refl _⟩,⟨by (with_reducible repeat (first|apply rA|apply rN|apply rD));exact HO_5.out⟩,⟨by (with_reducible repeat (first|apply rA|apply rN|apply rD));exact HO_9.out⟩,⟨by repeat (first|(with_reducible first|exact HB.out|apply bA|apply bN|apply bD)|exact HB.out)⟩⟩
              case rest =>
               clear HC39
               try clear c1
               try clear p1
               try clear q1
               try clear hx1
               try clear c2
               try clear c2b0
               try clear c2b1
               try clear p2
               try clear c3
               try clear c4
               try clear p6
               try clear c11
               try clear c11b0
               try clear p11
               try clear q11
               try clear hx11
               try clear c14
               try clear c15
               try clear c15b0
               try clear c15b1
               try clear c17
               try clear c17b0
               try clear c18
               try clear c18b0
               try clear c18b1
               try clear c22
               try clear c25
               try clear c27
               try clear c28
               try clear c40
               try clear c40b0
               try clear hx110_0
               try clear p1
               try clear p11
               try clear p110
               try clear p2
               try clear p6
               try clear q1
               try clear q11
               try clear q110
               obtain ⟨kq,x75_38,rfl,HA,HJ38,HO_5,HO_9,HB⟩:=hcut
               cases kq with
               | zero=>exact absurd HA.out (by simp [laws_FnKnownFollows.j4])
               | succ kj38 =>
                have H:=HA.out
                clear HA
                simp only [laws_FnKnownFollows.j4] at H
                by_cases c44:x75_38=true
                ·subst c44
                 have H1:(if 0≤x10_4 then (if x10_4<(t105.length:Int) then (if (rd t105 x10_4)≥0 then (if x10_4<(t125.length:Int) then (if (rd t125 x10_4)=(rd t105 x10_4) then (laws_FnKnownFollows.l1 kj38 t101 t105 t125 (wrap64 (x10_4+1))) else (some false)) else (none)) else (laws_FnKnownFollows.l1 kj38 t101 t105 t125 (wrap64 (x10_4+1)))) else (none)) else (none))=some r:=by rw [if_pos rfl] at H;exact H
                 clear H
                 have H:=H1
                 clear H1
                 by_cases c45:0≤x10_4
                 ·rw [if_pos c45] at H
                  have c45b0:decide (0≤x10_4)=true:=decide_eq_true c45
                  clear c45
                  by_cases c46:x10_4<(t105.length:Int)
                  ·rw [if_pos c46] at H
                   have c46b0:decide (x10_4<(t105.length:Int))=true:=decide_eq_true c46
                   clear c46
                   by_cases c47:(rd t105 x10_4)≥0
                   ·rw [if_pos c47] at H
                    have c47b0:decide (0≤(rd t105 x10_4))=true:=decide_eq_true c47
                    clear c47
                    by_cases c48:x10_4<(t125.length:Int)
                    ·rw [if_pos c48] at H
                     have c48b0:decide (x10_4<(t125.length:Int))=true:=decide_eq_true c48
                     clear c48
                     by_cases c49:(rd t125 x10_4)=(rd t105 x10_4)
                     ·rw [if_pos c49] at H
                      have c49b0:((rd t125 x10_4)==(rd t105 x10_4))=true:=beq_iff_eq.mpr c49
                      have c49b1:((rd t125 x10_4) != (rd t105 x10_4))=false:=bne_eq_false_iff_eq.mpr c49
                      clear c49
                      have H':=mA H
                      clear H
                      obtain ⟨Ao50,co50,eo50⟩:=Kd.R_slice HO_5.out
                      subst eo50
                      have p128:0≤(x10_4:Int):=of_decide_eq_true (by first|(with_reducible assumption)|assumption)
                      have q128:x10_4<(t105.length:Int):=of_decide_eq_true (by first|(with_reducible assumption)|assumption)
                      obtain ⟨ad128,e128,hx128_0⟩:=Kd.at_int (rR HO_5.out).2.2 x10_4 p128 q128
                      cases e128
                      replace p128:=eq_true p128
                      replace q128:=eq_true q128
                      obtain ⟨Ao51,co51,eo51⟩:=Kd.R_slice HO_9.out
                      subst eo51
                      have p129:0≤(x10_4:Int):=of_decide_eq_true (by first|(with_reducible assumption)|assumption)
                      have q129:x10_4<(t125.length:Int):=of_decide_eq_true (by first|(with_reducible assumption)|assumption)
                      obtain ⟨ad129,e129,hx129_0⟩:=Kd.at_int (rR HO_9.out).2.2 x10_4 p129 q129
                      cases e129
                      replace p129:=eq_true p129
                      replace q129:=eq_true q129
                      have p130:0≤(x10_4:Int):=of_decide_eq_true (by first|(with_reducible assumption)|assumption)
                      have q130:x10_4<(t105.length:Int):=of_decide_eq_true (by first|(with_reducible assumption)|assumption)
                      obtain ⟨ad130,e130,hx130_0⟩:=Kd.at_int (rR HO_5.out).2.2 x10_4 p130 q130
                      obtain rfl:ad128=ad130:=(by injection e130)
                      replace p130:=eq_true p130
                      replace q130:=eq_true q130
                      go_wp2
                      repeat (go_quiet (fail);try go_wp2)
                      go_roundg kj38
                      case measure=>have:=HK1.out;have:=HJ9.out;have:=HJ19.out;have:=HK4.out;have:=HJ38.out;omega
                      case rel=>exact ⟨(wrap64 (x10_4+1)),(by first|rfl|(simp;done)|(simp [*];done)),H',⟨by have:=HK1.out;have:=HJ9.out;have:=HJ19.out;have:=HK4.out;have:=HJ38.out;omega⟩,⟨by (with_reducible repeat (first|apply rA|apply rN|apply rD));exact HO_5.out⟩,⟨by (with_reducible repeat (first|apply rA|apply rN|apply rD));exact HO_9.out⟩,⟨by repeat (first|(with_reducible first|exact HB.out|apply bA|apply bN|apply bD)|exact HB.out)⟩⟩
                     ·rw [if_neg c49] at H
                      have c49b0:((rd t125 x10_4)==(rd t105 x10_4))=false:=beq_eq_false_iff_ne.mpr c49
                      have c49b1:((rd t125 x10_4) != (rd t105 x10_4))=true:=bne_iff_ne.mpr c49
                      exact absurd ((Option.some.inj H).trans hr_.out) (by decide)
                    ·rw [if_neg c48] at H
                     exact absurd H (by simp)
                   ·rw [if_neg c47] at H
                    have c47b0:decide (0≤(rd t105 x10_4))=false:=decide_eq_false c47
                    clear c47
                    have H':=mA H
                    clear H
                    obtain ⟨Ao52,co52,eo52⟩:=Kd.R_slice HO_5.out
                    subst eo52
                    have p128:0≤(x10_4:Int):=of_decide_eq_true (by first|(with_reducible assumption)|assumption)
                    have q128:x10_4<(t105.length:Int):=of_decide_eq_true (by first|(with_reducible assumption)|assumption)
                    obtain ⟨ad128,e128,hx128_0⟩:=Kd.at_int (rR HO_5.out).2.2 x10_4 p128 q128
                    cases e128
                    replace p128:=eq_true p128
                    replace q128:=eq_true q128
                    go_wp2
                    repeat (go_quiet (fail);try go_wp2)
                    go_roundg kj38
                    case measure=>have:=HK1.out;have:=HJ9.out;have:=HJ19.out;have:=HK4.out;have:=HJ38.out;omega
                    case rel=>exact ⟨(wrap64 (x10_4+1)),(by first|rfl|(simp;done)|(simp [*];done)),H',⟨by have:=HK1.out;have:=HJ9.out;have:=HJ19.out;have:=HK4.out;have:=HJ38.out;omega⟩,⟨by (with_reducible repeat (first|apply rA|apply rN|apply rD));exact HO_5.out⟩,⟨by (with_reducible repeat (first|apply rA|apply rN|apply rD));exact HO_9.out⟩,⟨by repeat (first|(with_reducible first|exact HB.out|apply bA|apply bN|apply bD)|exact HB.out)⟩⟩
                  ·rw [if_neg c46] at H
                   exact absurd H (by simp)
                 ·rw [if_neg c45] at H
                  exact absurd H (by simp)
                ·replace c44:=Bool.eq_false_iff.mpr c44
                 subst c44
                 have H1:((laws_alive.f).bind fun t131=>(if t131=true then (if (t125.length:Int)=0 then (some true) else (some ((t105.length:Int)==t101))) else (some false)))=some r:=by rw [if_neg (show ¬ (false=true) by decide)] at H;exact H
                 clear H
                 have H:=H1
                 clear H1
                 replace H:=Option.bind_eq_some_iff.mp H
                 obtain ⟨t131,A530,H⟩:=H
                 replace H:(if t131=true then (if (t125.length:Int)=0 then (some true) else (some ((t105.length:Int)==t101))) else (some false))=some r:=H
                 have A53:=mA A530
                 clear A530
                 by_cases c54:t131=true
                 ·subst c54
                  have H1:(if (t125.length:Int)=0 then (some true) else (some ((t105.length:Int)==t101)))=some r:=by rw [if_pos rfl] at H;exact H
                  clear H
                  have H:=H1
                  clear H1
                  by_cases c55:(t125.length:Int)=0
                  ·rw [if_pos c55] at H
                   have c55b0:((t125.length:Int)==0)=true:=beq_iff_eq.mpr c55
                   have c55b1:((t125.length:Int) != 0)=false:=bne_eq_false_iff_eq.mpr c55
                   clear c55
                   obtain rfl:=Option.some.inj H
                   go_wp2_with (first|(go_at_call 26;(with_reducible refine (laws_alive.calls  true _ A53.out).mono ?_);rintro e w' ⟨rfl,⟨nd,rfl⟩⟩;(try first|exact ⟨rfl,_,World.drewN_drewN _ _ _⟩|exact ⟨rfl,_,Eq.trans (World.drewN_drewN _ _ _) (congrArg (World.drewN _) (Nat.add_assoc _ _ _))⟩);obtain ⟨Ao56,co56,eo56⟩:=Kd.R_slice HO_9.out;subst eo56))
                   repeat (go_quiet (first|(go_at_call 26;(with_reducible refine (laws_alive.calls  true _ A53.out).mono ?_);rintro e w' ⟨rfl,⟨nd,rfl⟩⟩;(try first|exact ⟨rfl,_,World.drewN_drewN _ _ _⟩|exact ⟨rfl,_,Eq.trans (World.drewN_drewN _ _ _) (congrArg (World.drewN _) (Nat.add_assoc _ _ _))⟩);obtain ⟨Ao56,co56,eo56⟩:=Kd.R_slice HO_9.out;subst eo56));try go_wp2_with (first|(go_at_call 26;(with_reducible refine (laws_alive.calls  true _ A53.out).mono ?_);rintro e w' ⟨rfl,⟨nd,rfl⟩⟩;(try first|exact ⟨rfl,_,World.drewN_drewN _ _ _⟩|exact ⟨rfl,_,Eq.trans (World.drewN_drewN _ _ _) (congrArg (World.drewN _) (Nat.add_assoc _ _ _))⟩);obtain ⟨Ao56,co56,eo56⟩:=Kd.R_slice HO_9.out;subst eo56)))
                   go_ret
                   exact ⟨by first|rfl|(simp [errW_none,errW_some]<;>rfl)|(simp [*, errW_none,errW_some]<;>rfl),by repeat (first|(with_reducible first|exact HB.out|apply bA|apply bN|apply bD)|exact HB.out)⟩
                  ·rw [if_neg c55] at H
                   have c55b0:((t125.length:Int)==0)=false:=beq_eq_false_iff_ne.mpr c55
                   have c55b1:((t125.length:Int) != 0)=true:=bne_iff_ne.mpr c55
                   have c55b2 : ¬ (t125=[]):=fun h_=>c55 (by rw [h_];rfl)
                   obtain rfl:=Option.some.inj H
                   go_wp2_with (first|(go_at_call 26;(with_reducible refine (laws_alive.calls  true _ A53.out).mono ?_);rintro e w' ⟨rfl,⟨nd,rfl⟩⟩;(try first|exact ⟨rfl,_,World.drewN_drewN _ _ _⟩|exact ⟨rfl,_,Eq.trans (World.drewN_drewN _ _ _) (congrArg (World.drewN _) (Nat.add_assoc _ _ _))⟩);obtain ⟨Ao57,co57,eo57⟩:=Kd.R_slice HO_9.out;subst eo57;obtain ⟨Ao58,co58,eo58⟩:=Kd.R_slice HO_5.out;subst eo58))
                   repeat (go_quiet (first|(go_at_call 26;(with_reducible refine (laws_alive.calls  true _ A53.out).mono ?_);rintro e w' ⟨rfl,⟨nd,rfl⟩⟩;(try first|exact ⟨rfl,_,World.drewN_drewN _ _ _⟩|exact ⟨rfl,_,Eq.trans (World.drewN_drewN _ _ _) (congrArg (World.drewN _) (Nat.add_assoc _ _ _))⟩);obtain ⟨Ao57,co57,eo57⟩:=Kd.R_slice HO_9.out;subst eo57;obtain ⟨Ao58,co58,eo58⟩:=Kd.R_slice HO_5.out;subst eo58));try go_wp2_with (first|(go_at_call 26;(with_reducible refine (laws_alive.calls  true _ A53.out).mono ?_);rintro e w' ⟨rfl,⟨nd,rfl⟩⟩;(try first|exact ⟨rfl,_,World.drewN_drewN _ _ _⟩|exact ⟨rfl,_,Eq.trans (World.drewN_drewN _ _ _) (congrArg (World.drewN _) (Nat.add_assoc _ _ _))⟩);obtain ⟨Ao57,co57,eo57⟩:=Kd.R_slice HO_9.out;subst eo57;obtain ⟨Ao58,co58,eo58⟩:=Kd.R_slice HO_5.out;subst eo58)))
                   go_ret
                   exact ⟨by first|rfl|(simp [errW_none,errW_some]<;>rfl)|(simp [*, errW_none,errW_some]<;>rfl),by repeat (first|(with_reducible first|exact HB.out|apply bA|apply bN|apply bD)|exact HB.out)⟩
                 ·replace c54:=Bool.eq_false_iff.mpr c54
                  subst c54
                  have H1:(some false)=some r:=by rw [if_neg (show ¬ (false=true) by decide)] at H;exact H
                  clear H
                  have H:=H1
                  clear H1
                  exact absurd ((Option.some.inj H).trans hr_.out) (by decide)
           ·rw [if_neg c28] at H
            exact absurd H (by simp)
          ·rw [if_neg c27] at H
           exact absurd H (by simp)

/-- THE ONE PURE STATEMENT of laws_FnKnownFollows: yours. -/
def laws_FnKnownFollows.Pure:Prop:=∀ (l0:List Int),l0.length≤maxLen→l0.length*1≤140737488351232→(∀ x∈l0,(Lit.int .u8 x).wf=true) → ∃ k,laws_FnKnownFollows.f k l0=some true
theorem laws_FnKnownFollows.walk (P:laws_FnKnownFollows.Pure) (a0:Option Addr) (len0 cap0:Nat) (z0:List Int) (w:World) (w0:(a0=none∧len0=0∧cap0=0∧z0=[]) ∨ ∃ x,a0=some x∧len0≤cap0∧cap0≤maxLen∧z0.length=cap0∧(∀ i,i<z0.length→w.cell? (x.add i)=some (.int .u8 (z0.getD i 0))) ∧ ∀ n∈z0,(Lit.int .u8 n).wf=true) (y0:len0*1≤140737488351232) :
  Calls Try.prog 3 #[.slice a0 len0 cap0] w fun e w'=>e = .returned (.bool true)∧Below w.heap.size w w':=by
 obtain ⟨l0,rfl,hr0,hm0,hw0,hc0⟩:=ReadsInt.ofRowC w0
 obtain ⟨k,h⟩:=P l0 hm0 y0 hw0
 refine (laws_FnKnownFollows.calls k _ _ l0 true w (Kd.C_of_reads (d:=(0:Int)) (h1:=fun _=>rfl) hr0) hc0 ⟨rfl⟩ h).mono ?_
 rintro e w' ⟨rfl,hd⟩
 exact ⟨rfl,hd⟩
end Go.Proofs.Ytpampekijfjlkab.X
/- Drawn claims. -/
namespace Go.Proofs.Ytpampekijfjlkab.L
open Go.RowKit Go.Proofs.Ytpampekijfjlkab.X Go.Proofs.YtpampekijfjlkabW.PrintWords Go.Proofs.YtpampekijfjlkabW.PrintLast Go.Proofs.YtpampekijfjlkabW.PrintMore
open Go.Proofs.YtpampekijfjlkabW.PrintWords renaming Aside0.mk → mA, pw_below_drewN → bN, below_drew1 → bD, below_alloc → bA, below_set → bS, blk_alloc → kA, blk_drewN → kN, blk_drew → kD, blk_cell → kC, blk_frozen → kF, below_size → bZ, below_step → bT, Kd.R_alloc → rA, Kd.R_drewN → rN, Kd.R_drew → rD, Kd.R_mono → rM, Kd.R_reads' → rR, Kd.R_lt → rL, Kd.R_typed → rT, Kd.R_below → rB, Kd.N_alloc → nA, Kd.N_drewN → nN, Kd.N_drew → nD, Kd.C_alloc → cA, Kd.C_drewN → cN, Kd.C_drew → cD
open List renaming length_take → lT, length_drop → lD, map_toArray → mT, map_cons → mC, map_nil → mN
theorem l20Claim_ev {s:List Int} (hs:Rd s) {n:Int} (h0:0≤n) (h1:n≤500000) (P m:Int) (hP:P≤1000) (hm0 : -1000≤m) (hm:m≤400) :
  ∃ (i:Int) (t:List M) (n':Int),Ev (fun k=>spec_l20Claim.f k s n P m) (i,t,n') ∧ -1≤i∧i≤1000∧t.length≤16∧Sm t∧n≤n'∧n'≤n+100:=by
 have hmx:1≤mx P 1∧mx P 1≤1000:=by unfold mx;split<;>omega
 obtain ⟨a,ha,ha0,ha1⟩:=pick_ev hs (p:=n) (by omega) (by omega) (mx P 1) (by omega)
 have ha2:=ha1 (by omega)
 obtain ⟨t,p',ht,h2,h3,h4,h5⟩:=l20Term_ev hs (p:=n+1) (by omega) (by omega) P (m*2) (by omega)
 obtain ⟨b,p2,hb,hb0,hb1⟩:=odd_ev hs (p:=p') (by omega) (by omega) m (by omega)
 cases b with
 | false =>
  refine ⟨a,t,p2,?_,by omega,by omega,h2,h3,by omega,by omega⟩
  unfold spec_l20Claim.f
  simp only [w64 (x:=m*2) (by omega) (by omega)]
  exact Ev.bind ha (Ev.bind ht (Ev.bind hb (Ev.no (by simp) (Ev.some _))))
 | true =>
  obtain ⟨c,hc,hc0,hc1⟩:=pick_ev hs (p:=p2) (by omega) (by omega) 2 (by omega)
  have hc2:=hc1 (by omega)
  refine ⟨rd [-1,4] c,t,p2+1,?_,?_,?_,h2,h3,by omega,by omega⟩
  ·unfold spec_l20Claim.f
   simp only [w64 (x:=m*2) (by omega) (by omega),Option.bind_some]
   exact Ev.bind ha (Ev.bind ht (Ev.bind hb (Ev.yes rfl (Ev.bind hc (Ev.yes hc0 (Ev.yes (by simpa using hc2) (Ev.some _)))))))
  ·obtain rfl|rfl:c=0∨c=1:=by omega
   ·decide
   ·decide
  ·obtain rfl|rfl:c=0∨c=1:=by omega
   ·decide
   ·decide
/-- Claims with small terms. -/
def SmC (l:List S36):Prop:=∀ c∈l,c.f1.length≤16∧Sm c.f1
theorem SmC.snoc {l:List S36} {c:S36} (h:SmC l) (h1:c.f1.length≤16) (h2:Sm c.f1):SmC (l++[c]):=by
 intro x hx
 rcases List.mem_append.1 hx with hx|hx
 ·exact h x hx
 ·rw [List.mem_singleton.1 hx];exact ⟨h1,h2⟩
theorem story_l1 {s:List Int} (P n:Int) : ∀ (d:Nat) (l:List S36),l.length+d=7→SmC l → ∃ l':List S36,Ev (fun k=>spec_l20Story.l1 k P l s n) (P,l',n)∧l'.length≤7∧SmC l':=by
 intro d
 induction d with
 | zero =>
  intro l hl hs
  exact ⟨l,Ev.step (fun k=>by simp only [spec_l20Story.l1];rfl) (Ev.no (by omega) (Ev.some _)),by omega,hs⟩
 | succ d ih =>
  intro l hl hs
  obtain ⟨l',h1,h2,h3⟩:=ih (l++[⟨0,[⟨0,0⟩]⟩]) (by simp;omega) (hs.snoc (by simp) (Sm.one (by simp)))
  exact ⟨l',Ev.step (fun k=>by simp only [spec_l20Story.l1];rfl) (Ev.yes (by omega) (Ev.yes (by omega) h1)),h2,h3⟩
theorem story_l0 {s:List Int} (hs:Rd s) (m P:Int) (hm0:0≤m) (hm:m≤100) (hP:P≤1000) : ∀ (d:Nat) (l:List S36) (n:Int),l.length+d≤6→SmC l→0≤n→n≤10000-200*d →
  ∃ (l':List S36) (n':Int),Ev (fun k=>spec_l20Story.l0 k m P l (d:Int) s n) (P,l',n')∧l'.length≤7∧SmC l'∧0≤n'∧n'≤20000:=by
 intro d
 induction d with
 | zero =>
  intro l n hl hsm h0 h1
  obtain ⟨b,p1,hb,hp1,hp2⟩:=odd_ev hs h0 (by omega) m (by omega)
  cases b with
  | false=>exact ⟨l,p1,Ev.step (fun k=>by simp only [spec_l20Story.l0];rfl) (Ev.no (by omega) (Ev.bind hb (Ev.no Bool.false_ne_true (Ev.some _)))),by omega,hsm,by omega,by omega⟩
  | true =>
   obtain ⟨l',h1',h2,h3⟩:=story_l1 (s:=s) P p1 (7-l.length) l (by omega) hsm
   exact ⟨l',p1,Ev.step (fun k=>by simp only [spec_l20Story.l0];rfl) (Ev.no (by omega) (Ev.bind hb (Ev.yes rfl h1'))),h2,h3,by omega,by omega⟩
 | succ d ih =>
  intro l n hl hsm h0 h1
  obtain ⟨i,t,n',hc,hi0,hi1,ht,hst,hn0,hn1⟩:=l20Claim_ev hs (n:=n) h0 (by omega) P (m*3) hP (by omega) (by omega)
  obtain ⟨l',n2,h1',h2,h3,h4,h5⟩:=ih (l++[⟨i,t⟩]) n' (by simp;omega) (hsm.snoc ht hst) (by omega) (by omega)
  refine ⟨l',n2,Ev.step (fun k=>by simp only [spec_l20Story.l0];rfl) ?_,h2,h3,h4,h5⟩
  rw [w64 (x:=m*3) (by omega) (by omega),w64 (by omega) (by omega),show (((d+1:Nat):Int)-1)=(d:Int) by omega]
  exact Ev.yes (by omega) (Ev.bind hc (Ev.yes (by omega) h1'))
theorem l20Story_ev {s:List Int} (hs:Rd s) (m:Int) (hm0:0≤m) (hm:m≤100) : ∃ (p:Int) (l:List S36) (n:Int),Ev (fun k=>spec_l20Story.f k s 0 m) (p,l,n)∧1≤p∧p≤4∧l.length≤7∧SmC l∧0≤n∧n≤20000:=by
 obtain ⟨a,ha,ha0,ha1⟩:=pick_ev hs (p:=0) (by omega) (by omega) 4 (by omega)
 have ha2:=ha1 (by omega)
 obtain ⟨b,hb,hb0,hb1⟩:=pick_ev hs (p:=0+1) (by omega) (by omega) 5 (by omega)
 have hb2:=hb1 (by omega)
 obtain ⟨d,rfl⟩:=Int.eq_ofNat_of_zero_le hb0
 obtain ⟨l,n,h1,h2,h3,h4,h5⟩:=story_l0 hs m (1+a) hm0 hm (by omega) d [] (0+1+1) (by simp;omega) (fun c hc=>by cases hc) (by omega) (by omega)
 refine ⟨1+a,l,n,?_,by omega,by omega,h2,h3,h4,h5⟩
 unfold spec_l20Story.f
 refine Ev.bind ha (Ev.bind hb ?_)
 simp only [w64 (x:=1+a) (by omega) (by omega)]
 exact h1
theorem Tm.good_four {p:Int} (hp:p≤4) : ∀ a:Tm,a.good p→a.good 4
 | .tell i,h=>by have h':(i:Int)<p:=h;show (i:Int)<4;omega
 | .cnt n,h=>by have h':(n:Int)≤p+1:=h;show (n:Int)≤4+1;omega
 | .neg a,h=>good_four hp a h
 | .bin o a b,h=>⟨h.1,good_four hp a h.2.1,good_four hp b h.2.2⟩
open Classical in
/-- The tree of a row of marks. -/
noncomputable def tree (t:List M):Tm:=if h : ∃ a:Tm,a.good 4∧t=a.post then Classical.choose h else .tell 0
theorem tree_post {a:Tm} (h:a.good 4):(tree a.post).good 4∧a.post=(tree a.post).post:=by
 have h' : ∃ b:Tm,b.good 4∧a.post=b.post:=⟨a,h,rfl⟩
 unfold tree
 rw [dif_pos h']
 exact Classical.choose_spec h'
/-- Whether a row of marks holds in a world. -/
noncomputable def hv (t:List M) (w:Nat):Bool:=(tree t).ev w
theorem hv_post {a:Tm} (h:a.good 4) (hl:a.post.length≤500) {w:Nat} (hw:w<16):hv a.post w=a.ev w:=by
 obtain ⟨h1,h2⟩:=tree_post h
 have e1:=impl_holds_ev (by decide) hw h hl
 have e2:=impl_holds_ev (by decide) hw h1 (by rw [←h2];exact hl)
 rw [←h2] at e2
 exact Ev.uniq e2 e1
theorem tok_tree {p:Int} {t:List M} (h:tok p t=true) : ∃ a:Tm,a.good p∧t=a.post∧a.good 4∧t.length≤15:=by
 obtain ⟨a,h1,h2⟩:=parse h
 obtain ⟨_,h3,_,h4,_⟩:=tok_iff.1 h
 exact ⟨a,h1,h2,a.good_four h3 h1,h4⟩
theorem impl_holds_hv {p:Int} {t:List M} (h:tok p t=true) {w:Nat} (hw:w<16):Ev (fun k=>impl_holds.f k t (w:Int)) (hv t w):=by
 obtain ⟨a,_,rfl,h4,hl⟩:=tok_tree h
 rw [hv_post h4 (by omega) hw]
 exact impl_holds_ev (by decide) hw h4 (by omega)
theorem spec_holds_hv {p:Int} {t:List M} (h:tok p t=true) {w:Nat} (hw:w<16):Ev (fun k=>spec_l3Holds.f k t (w:Int)) (hv t w):=by
 obtain ⟨a,_,rfl,h4,hl⟩:=tok_tree h
 rw [hv_post h4 (by omega) hw]
 exact l3Holds_ev (by decide) hw a h4 (by omega)
/-- Whether a claim may be made in a world. -/
noncomputable def may (i:Int) (t:List M) (w:Nat):Bool:=hv t w==w.testBit i.toNat
/-- The worlds below n in which P holds, as bits. -/
def tabL (P:Nat→Bool):Nat→Nat
 | 0=>0
 | n+1=>tabL P n ||| (if P n=true then 2^n else 0)
theorem tabL_bit (P:Nat→Bool) : ∀ n w,(tabL P n).testBit w=(decide (w<n)&&P w)
 | 0,w=>by simp [tabL]
 | n+1,w=>by
  rw [tabL,Nat.testBit_or,tabL_bit P n w]
  by_cases e:w=n
  ·subst e
   by_cases h:P w=true
   ·rw [if_pos h,Nat.testBit_two_pow_self,h];simp
   ·rw [if_neg h,Nat.zero_testBit];simp at h;simp [h]
  ·have h1:(if P n=true then 2^n else 0).testBit w=false:=by
    by_cases h:P n=true
    ·rw [if_pos h,Nat.testBit_two_pow];simp;omega
    ·rw [if_neg h,Nat.zero_testBit]
   rw [h1,Bool.or_false]
   congr 1
   exact decide_eq_decide.mpr (by omega)
theorem lt_of_bits {x n:Nat} (h : ∀ w,n≤w→x.testBit w=false):x<2^n:=Nat.lt_pow_two_of_testBit x (fun w hw=>h w hw)
theorem tabL_lt (P:Nat→Bool) (n:Nat):tabL P n<2^n:=lt_of_bits (fun w hw=>by rw [tabL_bit];simp;omega)
theorem tabL_mono {P:Nat→Bool} {n:Nat} (hn:n≤16):tabL P n<65536:=by
 have:=tabL_lt P n
 have h:(2:Nat)^n≤2^16:=Nat.pow_le_pow_right (by decide) hn
 omega
theorem wrap_i64_small (n:Int) (h0:0≤n) (h1:n<2^32):IntKind.i64.wrap n=n:=by rw [IntKind.wrap_i64];omega
theorem or_nat {a b:Nat} (ha:a<2^32) (hb:b<2^32):Go.bits .or .i64 (a:Int) (b:Int)=((a ||| b:Nat):Int):=(bits_nat .i64 32 (by decide) wrap_i64_small a b ha hb).2
theorem and_nat {a b:Nat} (ha:a<2^32) (hb:b<2^32):Go.bits .and .i64 (a:Int) (b:Int)=((a &&& b:Nat):Int):=(bits_nat .i64 32 (by decide) wrap_i64_small a b ha hb).1
theorem shl_fin : ∀ i:Fin 31,shl .i64 1 ((i.val:Nat):Int)=((2^i.val:Nat):Int):=by decide +kernel
theorem shl_nat {i:Nat} (hi:i<31):shl .i64 1 (i:Int)=((2^i:Nat):Int):=shl_fin ⟨i,hi⟩
theorem or_step {P:Nat→Bool} {i:Nat} (hi:i<16) (h:P i=true):Go.bits .or .i64 ((tabL P i:Nat):Int) (shl .i64 1 (i:Int))=((tabL P (i+1):Nat):Int):=by
 have h1:=tabL_lt P i
 have h2:(2:Nat)^i<2^16:=Nat.pow_lt_pow_right (by decide) hi
 rw [shl_nat (by omega),or_nat (by omega) (by omega),tabL,if_pos h]
theorem not_step {P:Nat→Bool} {i:Nat} (h : ¬ P i=true):tabL P (i+1)=tabL P i:=by rw [tabL,if_neg h,Nat.or_zero]
theorem people_nat {p:Int} (h0:1≤p) (h1:p≤4) : ∃ q:Nat,p=(q:Int)∧1≤q∧q≤4∧2^q≤16∧p.toNat=q:=by
 obtain ⟨q,rfl⟩:=Int.eq_ofNat_of_zero_le (show 0≤p by omega)
 refine ⟨q,rfl,by omega,by omega,?_,by simp⟩
 have:(2:Nat)^q≤2^4:=Nat.pow_le_pow_right (by decide) (by omega)
 omega
theorem tableBy_l0 {F:Nat→Int→Option Bool} {P:Nat→Bool} {n:Nat} (hn:n≤16) (hF : ∀ w:Nat,w<n→Ev (fun k=>F k (w:Int)) (P w)) : ∀ d i,d+i=n →
  Ev (fun k=>impl_tableBy.l0 F k ((tabL P i:Nat):Int) (n:Int) (i:Int)) ((tabL P n:Nat):Int):=by
 intro d
 induction d with
 | zero =>
  intro i hi
  rw [Nat.zero_add] at hi
  subst hi
  exact Ev.step (fun k=>by simp only [impl_tableBy.l0];rfl) (Ev.no (by omega) (Ev.some _))
 | succ d ih =>
  intro i hi
  refine Ev.step (fun k=>by simp only [impl_tableBy.l0];rfl) ?_
  refine Ev.yes (by omega) (Ev.bind (hF i (by omega)) ?_)
  rw [w64 (by omega) (by omega),show ((i:Int)+1)=((i+1:Nat):Int) by omega]
  by_cases h:P i=true
  ·refine Ev.yes h (Ev.yes (by omega) ?_)
   rw [or_step (by omega) h]
   exact ih (i+1) (by omega)
  ·refine Ev.no h ?_
   have:=ih (i+1) (by omega)
   rwa [not_step h] at this
theorem tableBy_ev {F:Nat→Int→Option Bool} {P:Nat→Bool} {q:Nat} (hq:q≤4) (hF : ∀ w:Nat,w<2^q→Ev (fun k=>F k (w:Int)) (P w)):Ev (fun k=>impl_tableBy.f F k (q:Int)) ((tabL P (2^q):Nat):Int):=by
 unfold impl_tableBy.f
 refine Ev.yes (by omega) ?_
 rw [shl_nat (by omega)]
 have h16:(2:Nat)^q≤2^4:=Nat.pow_le_pow_right (by decide) hq
 exact tableBy_l0 (by omega) hF (2^q) 0 (by omega)
/-- A claim by one of so many people. -/
def clok (p i:Int) (t:List M):Bool:=decide (0≤i∧i<p)&&(tok p t&&decide (t.length≤13))
theorem clok_iff {p i:Int} {t:List M}:clok p i t=true ↔ 0≤i∧i<p∧tok p t=true∧t.length≤13:=by
 unfold clok
 simp only [Bool.and_eq_true,decide_eq_true_eq]
 exact ⟨fun h=>⟨h.1.1,h.1.2,h.2.1,h.2.2⟩,fun h=>⟨⟨h.1,h.2.1⟩,h.2.2.1,h.2.2.2⟩⟩
theorem clok_false {p i:Int} {t:List M} (h : ¬ (0≤i∧i<p∧tok p t=true∧t.length≤13)):false=clok p i t:=by
 cases e:clok p i t with
 | false=>rfl
 | true=>exact absurd (clok_iff.1 e) h
theorem impl_ClaimOk_ev (p i:Int) (t:List M):Ev (fun k=>impl_ClaimOk.f k p i t) (clok p i t):=by
 unfold impl_ClaimOk.f
 simp only [peopleOk_eq,Option.bind_some]
 by_cases h0:1≤p∧p≤4
 ·refine Ev.yes (decide_eq_true h0) ?_
  by_cases h1:i≥0
  ·refine Ev.yes h1 ?_
   by_cases h2:i<p
   ·refine Ev.yes h2 (Ev.bind (impl_TermOk_ev p t) ?_)
    by_cases h3:tok p t=true
    ·refine Ev.yes h3 (Ev.cast (Ev.some _) ?_)
     by_cases h4:t.length≤13
     ·rw [clok_iff.2 ⟨h1,h2,h3,h4⟩];exact decide_eq_true (by omega)
     ·rw [←clok_false (fun h=>h4 h.2.2.2)];exact decide_eq_false (by omega)
    ·exact Ev.no h3 (Ev.cast (Ev.some _) (clok_false (fun h=>h3 h.2.2.1)))
   ·exact Ev.no h2 (Ev.cast (Ev.some _) (clok_false (fun h=>h2 h.2.1)))
  ·exact Ev.no h1 (Ev.cast (Ev.some _) (clok_false (fun h=>h1 h.1)))
 ·refine Ev.no (by simpa using h0) (Ev.cast (Ev.some _) (clok_false (fun h=>h0 ?_)))
  have:=tok_iff.1 h.2.2.1
  omega
theorem spec_ClaimOk_ev (p i:Int) (t:List M) (hl:t.length≤4611686018427387904) (hw : ∀ m∈t,m.f1≤9223372036854775807):Ev (fun k=>spec_ClaimOk.f k p i t) (clok p i t):=by
 unfold spec_ClaimOk.f
 by_cases h1:i≥0
 ·refine Ev.yes h1 ?_
  by_cases h2:i<p
  ·refine Ev.yes h2 (Ev.bind (spec_TermOk_ev p t hl hw) ?_)
   by_cases h3:tok p t=true
   ·refine Ev.yes h3 (Ev.cast (Ev.some _) ?_)
    by_cases h4:t.length≤13
    ·rw [clok_iff.2 ⟨h1,h2,h3,h4⟩];exact decide_eq_true (by omega)
    ·rw [←clok_false (fun h=>h4 h.2.2.2)];exact decide_eq_false (by omega)
   ·exact Ev.no h3 (Ev.cast (Ev.some _) (clok_false (fun h=>h3 h.2.2.1)))
  ·exact Ev.no h2 (Ev.cast (Ev.some _) (clok_false (fun h=>h2 h.2.1)))
 ·exact Ev.no h1 (Ev.cast (Ev.some _) (clok_false (fun h=>h1 h.1)))
/-- A claim, and whether it is one. -/
def claimR (p i:Int) (t:List M):Int×List M×Bool:=if clok p i t=true then (i,t,true) else (0,[],false)
theorem impl_maySay_ev {p i:Int} {t:List M} (h:clok p i t=true) {w:Nat} (hw:w<16):Ev (fun k=>impl_maySay.f k i t (w:Int)) (may i t w):=by
 obtain ⟨h0,h1,h2,_⟩:=clok_iff.1 h
 have h4:=(tok_iff.1 h2).2.1
 obtain ⟨j,rfl⟩:=Int.eq_ofNat_of_zero_le h0
 unfold impl_maySay.f
 refine Ev.bind (impl_holds_hv h2 hw) (Ev.yes h0 (Ev.cast (Ev.some _) ?_))
 rw [bit_and' hw (show j<4 by omega)]
 rfl
/-- The table of a claim. -/
noncomputable def ctab (p i:Int) (t:List M):Nat:=tabL (may i t) (2^p.toNat)
theorem impl_ClaimTable_ev (p i:Int) (t:List M):Ev (fun k=>impl_ClaimTable.f k p i t) (if clok p i t=true then ((ctab p i t:Nat):Int) else -1):=by
 unfold impl_ClaimTable.f
 refine Ev.bind (impl_ClaimOk_ev p i t) ?_
 by_cases h:clok p i t=true
 ·rw [if_pos h]
  refine Ev.yes h ?_
  obtain ⟨hp0,hp1,_⟩:=tok_iff.1 (clok_iff.1 h).2.2.1
  obtain ⟨q,rfl,_,hq,hq2,_⟩:=people_nat hp0 hp1
  exact tableBy_ev hq (fun w hw=>impl_maySay_ev h (by omega))
 ·rw [if_neg h]
  exact Ev.no h (Ev.some _)
abbrev C:=S36
theorem rdC_at (pre:List C) (c:C) (suf:List C):rd_T36 (pre++c :: suf) ((pre.length:Nat):Int)=c:=by
 unfold rd_T36
 simp [List.getD]
/-- A story of so many people. -/
def sok (p:Int) (l:List C):Bool:=l.all (fun c=>clok p c.f0 c.f1)&&decide (1≤p∧p≤4∧l.length≤6)
theorem sok_iff {p:Int} {l:List C}:sok p l=true ↔ (∀ c∈l,clok p c.f0 c.f1=true)∧1≤p∧p≤4∧l.length≤6:=by
 unfold sok
 rw [Bool.and_eq_true,List.all_eq_true,decide_eq_true_eq]
theorem impl_StoryOk_l0 {p:Int} {l:List C} (hl:l.length≤4611686018427387904) : ∀ (suf pre:List C),l=pre++suf →
  Ev (fun k=>impl_StoryOk.l0 k p l l ((l.length:Nat):Int) ((pre.length:Nat):Int)) (suf.all (fun c=>clok p c.f0 c.f1)&&decide (1≤p∧p≤4∧l.length≤6)):=by
 intro suf
 induction suf with
 | nil =>
  intro pre he
  have hle:l.length=pre.length:=by rw [he];simp
  refine Ev.step (fun k=>by simp only [impl_StoryOk.l0];rfl) ?_
  refine Ev.no (by omega) ?_
  simp only [peopleOk_eq,Option.bind_some,List.all_nil,Bool.true_and]
  by_cases h:1≤p∧p≤4
  ·refine Ev.yes (decide_eq_true h) (Ev.cast (Ev.some _) ?_)
   exact decide_eq_decide.mpr (by omega)
  ·refine Ev.no (by simpa using h) (Ev.cast (Ev.some _) ?_)
   exact (decide_eq_false (fun hh=>h ⟨hh.1,hh.2.1⟩)).symm
 | cons c t ih =>
  intro pre he
  have hle:l.length=pre.length+(t.length+1):=by rw [he];simp
  have hc:rd_T36 l ((pre.length:Nat):Int)=c:=by rw [he];exact rdC_at pre c t
  refine Ev.step (fun k=>by simp only [impl_StoryOk.l0];rfl) ?_
  rw [hc,w64 (by omega) (by omega),show (((pre.length:Nat):Int)+1)=(((pre++[c]).length:Nat):Int) by simp]
  refine Ev.yes (by omega) (Ev.yes (by omega) (Ev.yes (by omega) (Ev.bind (impl_ClaimOk_ev p c.f0 c.f1) ?_)))
  by_cases h:clok p c.f0 c.f1=true
  ·exact Ev.yes h (Ev.cast (ih (pre++[c]) (by rw [he];simp)) (by rw [List.all_cons,h,Bool.true_and]))
  ·rw [Bool.not_eq_true] at h
   rw [h]
   exact Ev.no (by simp) (Ev.cast (Ev.some _) (by rw [List.all_cons,h];simp))
theorem impl_StoryOk_ev (p:Int) (l:List C) (hl:l.length≤4611686018427387904):Ev (fun k=>impl_StoryOk.f k p l) (sok p l):=by
 unfold impl_StoryOk.f
 exact impl_StoryOk_l0 hl l [] rfl
/-- All worlds, as bits. -/
def fullT (q:Nat):Nat:=2^(2^q)-1
theorem full_eq {q:Nat} (h1:1≤q) (h4:q≤4):wrap64 (shl .i64 1 (shl .u64 1 (q:Int))-1)=((fullT q:Nat):Int):=by
 have : ∀ q:Fin 5,1≤q.val→wrap64 (shl .i64 1 (shl .u64 1 ((q.val:Nat):Int))-1)=((fullT q.val:Nat):Int):=by decide +kernel
 exact this ⟨q,by omega⟩ h1
theorem full_lt {q:Nat} (h4:q≤4):fullT q<65536:=by
 have:(2:Nat)^q≤2^4:=Nat.pow_le_pow_right (by decide) h4
 have h2:(2:Nat)^(2^q)≤2^16:=Nat.pow_le_pow_right (by decide) (by omega)
 unfold fullT
 omega
/-- The table of a story, from some worlds on. -/
noncomputable def stabFrom (p:Int):Nat→List C→Nat
 | a,[]=>a
 | a,c :: l=>stabFrom p (a &&& ctab p c.f0 c.f1) l
noncomputable def stab (p:Int) (l:List C):Nat:=stabFrom p (fullT p.toNat) l
theorem and_lt {a b n:Nat} (h:a<n):a &&& b<n:=Nat.lt_of_le_of_lt Nat.and_le_left h
theorem ctab_lt' {p i:Int} {t:List M} (h:clok p i t=true):ctab p i t<65536:=by
 obtain ⟨hp0,hp1,_⟩:=tok_iff.1 (clok_iff.1 h).2.2.1
 obtain ⟨q,rfl,_,hq,hq2,e⟩:=people_nat hp0 hp1
 unfold ctab
 rw [e]
 exact tabL_mono hq2
theorem impl_storyTable_l0 {p:Int} {l:List C} (hl:l.length≤4611686018427387904) : ∀ (suf pre:List C) (a:Nat),l=pre++suf→(∀ c∈suf,clok p c.f0 c.f1=true)→a<65536 →
  Ev (fun k=>impl_storyTable.l0 k p (a:Int) l ((l.length:Nat):Int) ((pre.length:Nat):Int)) ((stabFrom p a suf:Nat):Int):=by
 intro suf
 induction suf with
 | nil =>
  intro pre a he _ _
  have hle:l.length=pre.length:=by rw [he];simp
  exact Ev.step (fun k=>by simp only [impl_storyTable.l0];rfl) (Ev.no (by omega) (Ev.some _))
 | cons c t ih =>
  intro pre a he hc0 ha
  have hle:l.length=pre.length+(t.length+1):=by rw [he];simp
  have hc:rd_T36 l ((pre.length:Nat):Int)=c:=by rw [he];exact rdC_at pre c t
  have hk:=hc0 c (by simp)
  refine Ev.step (fun k=>by simp only [impl_storyTable.l0];rfl) ?_
  rw [hc,w64 (by omega) (by omega),show (((pre.length:Nat):Int)+1)=(((pre++[c]).length:Nat):Int) by simp]
  refine Ev.yes (by omega) (Ev.yes (by omega) (Ev.yes (by omega) (Ev.bind (impl_ClaimTable_ev p c.f0 c.f1) ?_)))
  rw [if_pos hk]
  have hb:=ctab_lt' hk
  rw [and_nat (by omega) (by omega)]
  exact ih (pre++[c]) _ (by rw [he];simp) (fun x hx=>hc0 x (List.mem_cons_of_mem _ hx)) (and_lt ha)
theorem impl_storyTable_ev {p:Int} {l:List C} (h:sok p l=true):Ev (fun k=>impl_storyTable.f k p l) ((stab p l:Nat):Int):=by
 obtain ⟨h1,hp0,hp1,h6⟩:=sok_iff.1 h
 obtain ⟨q,rfl,hq1,hq,hq2,e⟩:=people_nat hp0 hp1
 unfold impl_storyTable.f stab
 rw [full_eq hq1 hq,e]
 exact Ev.yes (by omega) (impl_storyTable_l0 (by omega) l [] _ rfl h1 (full_lt hq))
end Go.Proofs.Ytpampekijfjlkab.L
namespace Go.Proofs.Ytpampekijfjlkab.X
open Go.RowKit Go.Proofs.YtpampekijfjlkabW.PrintWords Go.Proofs.YtpampekijfjlkabW.PrintLast Go.Proofs.YtpampekijfjlkabW.PrintMore
open Go.Proofs.YtpampekijfjlkabW.PrintWords renaming Aside0.mk → mA, pw_below_drewN → bN, below_drew1 → bD, below_alloc → bA, below_set → bS, blk_alloc → kA, blk_drewN → kN, blk_drew → kD, blk_cell → kC, blk_frozen → kF, below_size → bZ, below_step → bT, Kd.R_alloc → rA, Kd.R_drewN → rN, Kd.R_drew → rD, Kd.R_mono → rM, Kd.R_reads' → rR, Kd.R_lt → rL, Kd.R_typed → rT, Kd.R_below → rB, Kd.N_alloc → nA, Kd.N_drewN → nN, Kd.N_drew → nD, Kd.C_alloc → cA, Kd.C_drewN → cN, Kd.C_drew → cD
open List renaming length_take → lT, length_drop → lD, map_toArray → mT, map_cons → mC, map_nil → mN
attribute [local go_sem] max2_int min2_int max_two min_two max_three min_three max_four min_four   -- for this text's walks alone
set_option linter.unusedVariables false
set_option linter.unusedSimpArgs false
/-! ### spec_l4May: function 101 -/
def spec_l4May.f (k:Nat) (a0_0:Int) (l0_1:List (S33)) (a1:Int):Option (Bool):=if 0≤a0_0 then ((spec_l3Holds.f k l0_1 a1).bind fun t102=>(some (((Int.tmod (shr .i64 a1 a0_0) 2)==1)==t102))) else (none)
theorem spec_l4May.mono : ∀ a0 a1 a2 k,LeO (spec_l4May.f k a0 a1 a2) (spec_l4May.f (k+1) a0 a1 a2):=by
 intro a0 a1 a2 k
 unfold spec_l4May.f
 repeat' first
   | (with_reducible exact spec_l3Holds.mono _ _ _)
   | (with_reducible exact LeO.refl _)
   | (with_reducible exact LeO.none _)
   | (with_reducible refine LeO.ite ?_ ?_)
   | (with_reducible refine LeO.bind ?_ (fun _=>?_))
   | exact spec_l3Holds.mono _ _ _
   | exact LeO.none _
   | refine LeO.ite ?_ ?_
   | refine LeO.bind ?_ (fun _=>?_)
set_option maxHeartbeats 8000000 in
set_option maxRecDepth 100000 in
theorem spec_l4May.calls (k:Nat) (a0_0:Int) (A0_1:Option Addr) (c0_1:Nat) (l0_1:List (S33)) (a1:Int) (r:Bool) (w:World) (hr0_1:Kd.C k33 w A0_1 l0_1.length l0_1) (hc0_1:l0_1.length≤c0_1) (h:spec_l4May.f k a0_0 l0_1 a1=some r) :
  Calls Try.prog 101 #[.agg #[.int .i64 a0_0,.slice A0_1 l0_1.length c0_1],.int .i64 a1] w fun e w'=>e = .returned (.bool r)∧Below w.heap.size w w':=by
 have hu36:=Try.underlying36
 have HR0_1:=mA hr0_1
 have HC0_1:=mA hc0_1
 clear hr0_1 hc0_1
 have HB:=mA (Below.refl w.heap.size w)
 have H:(if 0≤a0_0 then ((spec_l3Holds.f k l0_1 a1).bind fun t102=>(some (((Int.tmod (shr .i64 a1 a0_0) 2)==1)==t102))) else (none))=some r:=h
 clear h
 by_cases c3:0≤a0_0
 ·rw [if_pos c3] at H
  have c3b0:=eq_true c3
  have c3b1:decide (0≤a0_0)=true:=decide_eq_true c3
  clear c3
  obtain ⟨ji4,hji4⟩ : ∃ j_:Int,(shr .i64 a1 a0_0)=j_:=⟨_,rfl⟩
  replace H:((spec_l3Holds.f k l0_1 a1).bind fun t102=>(some (((Int.tmod (ji4) 2)==1)==t102)))=some r:=by first|(rw [hji4] at H;exact H)|(simp only [hji4] at H ⊢;exact H)
  have hji4_:(a1 / 2^min a0_0.toNat 64)=ji4:=hji4
  have hji4z:a0_0≤64→(a1 / 2^a0_0.toNat)=ji4:=shr_small hji4
  replace H:=Option.bind_eq_some_iff.mp H
  obtain ⟨t102,A50,H⟩:=H
  replace H:(some (((Int.tmod (ji4) 2)==1)==t102))=some r:=H
  have A5:=mA A50
  clear A50
  obtain rfl:=Option.some.inj H
  go_enter Try.func101,Try.ntmps101
  go_wp2_with (first|((with_reducible refine gate_dst (N:=2) rfl ?_);refine box_event ?hg (N:=2) ?hd (cs:=#[.int .i64 a0_0,.slice A0_1 l0_1.length c0_1]) (t:=36) ?hr ?_;(case hd=>rfl);(case hg=>rfl);(case hr=>first|(go_simp;done)|(go_simp;rfl));intro gb101 hg w6 hbox hb;have n0_:=mA (bT (by repeat (first|(with_reducible first|exact HB.out|apply bA|apply bN|apply bD)|exact HB.out)) hb);have n1_:=mA (hbox);have n2_:=mA ((by rw [hg];exact (bZ (by repeat (first|(with_reducible first|exact HB.out|apply bA|apply bN|apply bD)|exact HB.out))):w.heap.size≤gb101));have n3_:=mA ((by rw [hg];exact (bZ (by repeat (first|(with_reducible first|exact HB.out|apply bA|apply bN|apply bD)|exact HB.out))):w.heap.size≤gb101));clear HB;have HB:=n0_;have BK101:=n1_;have GW101:=n2_;have GE101:=n3_;clear n0_ n1_ n2_ n3_ hb hbox hg;have hcz7_0:w6.cell? ⟨gb101,0,none⟩=some (.int .i64 a0_0):=(kC BK101.out 0).trans rfl;have hcz7_1:w6.cell? ⟨gb101,1,none⟩=some (.slice A0_1 l0_1.length c0_1):=(kC BK101.out 1).trans rfl;have hfz7_0:=kF BK101.out 0;have hfz7_1:=kF BK101.out 1)|(go_at_call 140;(with_reducible refine (spec_l3Holds.calls k _ _ l0_1 a1 t102 _ ?side1 ?side2 A5.out).mono ?_);(case side1=>repeat (first|exact (Kd.C_below HR0_1.out HB.out)|(with_reducible refine cA ?_ _)|(with_reducible refine cN ?_ _)|(with_reducible refine cD ?_)));(case side2=>exact HC0_1.out);rintro e w' ⟨rfl,⟨nd,rfl⟩⟩;(try first|exact ⟨rfl,_,World.drewN_drewN _ _ _⟩|exact ⟨rfl,_,Eq.trans (World.drewN_drewN _ _ _) (congrArg (World.drewN _) (Nat.add_assoc _ _ _))⟩)))
  repeat (go_quiet (first|((with_reducible refine gate_dst (N:=2) rfl ?_);refine box_event ?hg (N:=2) ?hd (cs:=#[.int .i64 a0_0,.slice A0_1 l0_1.length c0_1]) (t:=36) ?hr ?_;(case hd=>rfl);(case hg=>rfl);(case hr=>first|(go_simp;done)|(go_simp;rfl));intro gb101 hg w6 hbox hb;have n0_:=mA (bT (by repeat (first|(with_reducible first|exact HB.out|apply bA|apply bN|apply bD)|exact HB.out)) hb);have n1_:=mA (hbox);have n2_:=mA ((by rw [hg];exact (bZ (by repeat (first|(with_reducible first|exact HB.out|apply bA|apply bN|apply bD)|exact HB.out))):w.heap.size≤gb101));have n3_:=mA ((by rw [hg];exact (bZ (by repeat (first|(with_reducible first|exact HB.out|apply bA|apply bN|apply bD)|exact HB.out))):w.heap.size≤gb101));clear HB;have HB:=n0_;have BK101:=n1_;have GW101:=n2_;have GE101:=n3_;clear n0_ n1_ n2_ n3_ hb hbox hg;have hcz7_0:w6.cell? ⟨gb101,0,none⟩=some (.int .i64 a0_0):=(kC BK101.out 0).trans rfl;have hcz7_1:w6.cell? ⟨gb101,1,none⟩=some (.slice A0_1 l0_1.length c0_1):=(kC BK101.out 1).trans rfl;have hfz7_0:=kF BK101.out 0;have hfz7_1:=kF BK101.out 1)|(go_at_call 140;(with_reducible refine (spec_l3Holds.calls k _ _ l0_1 a1 t102 _ ?side1 ?side2 A5.out).mono ?_);(case side1=>repeat (first|exact (Kd.C_below HR0_1.out HB.out)|(with_reducible refine cA ?_ _)|(with_reducible refine cN ?_ _)|(with_reducible refine cD ?_)));(case side2=>exact HC0_1.out);rintro e w' ⟨rfl,⟨nd,rfl⟩⟩;(try first|exact ⟨rfl,_,World.drewN_drewN _ _ _⟩|exact ⟨rfl,_,Eq.trans (World.drewN_drewN _ _ _) (congrArg (World.drewN _) (Nat.add_assoc _ _ _))⟩)));try go_wp2_with (first|((with_reducible refine gate_dst (N:=2) rfl ?_);refine box_event ?hg (N:=2) ?hd (cs:=#[.int .i64 a0_0,.slice A0_1 l0_1.length c0_1]) (t:=36) ?hr ?_;(case hd=>rfl);(case hg=>rfl);(case hr=>first|(go_simp;done)|(go_simp;rfl));intro gb101 hg w6 hbox hb;have n0_:=mA (bT (by repeat (first|(with_reducible first|exact HB.out|apply bA|apply bN|apply bD)|exact HB.out)) hb);have n1_:=mA (hbox);have n2_:=mA ((by rw [hg];exact (bZ (by repeat (first|(with_reducible first|exact HB.out|apply bA|apply bN|apply bD)|exact HB.out))):w.heap.size≤gb101));have n3_:=mA ((by rw [hg];exact (bZ (by repeat (first|(with_reducible first|exact HB.out|apply bA|apply bN|apply bD)|exact HB.out))):w.heap.size≤gb101));clear HB;have HB:=n0_;have BK101:=n1_;have GW101:=n2_;have GE101:=n3_;clear n0_ n1_ n2_ n3_ hb hbox hg;have hcz7_0:w6.cell? ⟨gb101,0,none⟩=some (.int .i64 a0_0):=(kC BK101.out 0).trans rfl;have hcz7_1:w6.cell? ⟨gb101,1,none⟩=some (.slice A0_1 l0_1.length c0_1):=(kC BK101.out 1).trans rfl;have hfz7_0:=kF BK101.out 0;have hfz7_1:=kF BK101.out 1)|(go_at_call 140;(with_reducible refine (spec_l3Holds.calls k _ _ l0_1 a1 t102 _ ?side1 ?side2 A5.out).mono ?_);(case side1=>repeat (first|exact (Kd.C_below HR0_1.out HB.out)|(with_reducible refine cA ?_ _)|(with_reducible refine cN ?_ _)|(with_reducible refine cD ?_)));(case side2=>exact HC0_1.out);rintro e w' ⟨rfl,⟨nd,rfl⟩⟩;(try first|exact ⟨rfl,_,World.drewN_drewN _ _ _⟩|exact ⟨rfl,_,Eq.trans (World.drewN_drewN _ _ _) (congrArg (World.drewN _) (Nat.add_assoc _ _ _))⟩))))
  go_ret
  exact ⟨by first|rfl|(simp [errW_none,errW_some]<;>rfl)|(simp only [←hji4];first|rfl|(simp [errW_none,errW_some]<;>rfl))|(simp [*, errW_none,errW_some]<;>rfl),by repeat (first|(with_reducible first|exact HB.out|apply bA|apply bN|apply bD|refine bS ?_ GE101.out)|exact HB.out)⟩
 ·rw [if_neg c3] at H
  exact absurd H (by simp)
end Go.Proofs.Ytpampekijfjlkab.X
/- Plain law of the reference's test whether a claim may be made. -/
namespace Go.Proofs.Ytpampekijfjlkab.L
open Go.RowKit Go.Proofs.Ytpampekijfjlkab.X Go.Proofs.YtpampekijfjlkabW.PrintWords Go.Proofs.YtpampekijfjlkabW.PrintLast Go.Proofs.YtpampekijfjlkabW.PrintMore
open Go.Proofs.YtpampekijfjlkabW.PrintWords renaming Aside0.mk → mA, pw_below_drewN → bN, below_drew1 → bD, below_alloc → bA, below_set → bS, blk_alloc → kA, blk_drewN → kN, blk_drew → kD, blk_cell → kC, blk_frozen → kF, below_size → bZ, below_step → bT, Kd.R_alloc → rA, Kd.R_drewN → rN, Kd.R_drew → rD, Kd.R_mono → rM, Kd.R_reads' → rR, Kd.R_lt → rL, Kd.R_typed → rT, Kd.R_below → rB, Kd.N_alloc → nA, Kd.N_drewN → nN, Kd.N_drew → nD, Kd.C_alloc → cA, Kd.C_drewN → cN, Kd.C_drew → cD
open List renaming length_take → lT, length_drop → lD, map_toArray → mT, map_cons → mC, map_nil → mN
theorem spec_may_ev {p i:Int} {t:List M} (h2:tok p t=true) (h0:0≤i) (h1:i<p) {w:Nat} (hw:w<16):Ev (fun k=>spec_l4May.f k i t (w:Int)) (may i t w):=by
 have h4:=(tok_iff.1 h2).2.1
 obtain ⟨j,rfl⟩:=Int.eq_ofNat_of_zero_le h0
 unfold spec_l4May.f
 refine Ev.yes h0 (Ev.bind (spec_holds_hv h2 hw) (Ev.cast (Ev.some _) ?_))
 rw [bit_mod' hw (show j<4 by omega)]
 unfold may
 exact Bool.beq_comm
end Go.Proofs.Ytpampekijfjlkab.L
namespace Go.Proofs.Ytpampekijfjlkab.X
open Go.RowKit Go.Proofs.YtpampekijfjlkabW.PrintWords Go.Proofs.YtpampekijfjlkabW.PrintLast Go.Proofs.YtpampekijfjlkabW.PrintMore
open Go.Proofs.YtpampekijfjlkabW.PrintWords renaming Aside0.mk → mA, pw_below_drewN → bN, below_drew1 → bD, below_alloc → bA, below_set → bS, blk_alloc → kA, blk_drewN → kN, blk_drew → kD, blk_cell → kC, blk_frozen → kF, below_size → bZ, below_step → bT, Kd.R_alloc → rA, Kd.R_drewN → rN, Kd.R_drew → rD, Kd.R_mono → rM, Kd.R_reads' → rR, Kd.R_lt → rL, Kd.R_typed → rT, Kd.R_below → rB, Kd.N_alloc → nA, Kd.N_drewN → nN, Kd.N_drew → nD, Kd.C_alloc → cA, Kd.C_drewN → cN, Kd.C_drew → cD
open List renaming length_take → lT, length_drop → lD, map_toArray → mT, map_cons → mC, map_nil → mN
attribute [local go_sem] max2_int min2_int max_two min_two max_three min_three max_four min_four   -- for this text's walks alone
set_option linter.unusedVariables false
set_option linter.unusedSimpArgs false
/-! ### spec_l4Table: function 114 -/
def spec_l4Table.l0:Nat→Int→Int→Int→Int→List (S33)→Option (Int)
 | 0,_,_,_,_,_=>none
 | k+1,x0,x5,x6,x102000,x102001=>if 0≤x0 then (if x6<(shl .i64 1 x0) then ((spec_l4May.f k x102000 x102001 x6).bind fun t102=>(if t102=true then (if 0≤x6 then (spec_l4Table.l0 k x0 (Go.bits .or .i64 x5 (shl .i64 1 x6)) (wrap64 (x6+1)) x102000 x102001) else (none)) else (spec_l4Table.l0 k x0 x5 (wrap64 (x6+1)) x102000 x102001))) else (some x5)) else (none)
def spec_l4Table.f (k:Nat) (a0:Int) (a1_0:Int) (l1_1:List (S33)):Option (Int):=spec_l4Table.l0 k a0 0 0 a1_0 l1_1
theorem spec_l4Table.mono_l : ∀ k,(∀ y0 y1 y2 y3 y4,LeO (spec_l4Table.l0 k y0 y1 y2 y3 y4) (spec_l4Table.l0 (k+1) y0 y1 y2 y3 y4))
 | 0=>fun _ _ _ _ _ r h=>by simp [spec_l4Table.l0] at h
 | k+1=>by
  have ih0:=spec_l4Table.mono_l k
  ·intro y0 y1 y2 y3 y4
   unfold spec_l4Table.l0
   repeat' first
   | (with_reducible exact ih0 _ _ _ _ _)
   | (with_reducible exact spec_l4May.mono _ _ _ _)
   | (with_reducible exact LeO.refl _)
   | (with_reducible exact LeO.none _)
   | (with_reducible refine LeO.ite ?_ ?_)
   | (with_reducible refine LeO.bind ?_ (fun _=>?_))
   | exact ih0 _ _ _ _ _
   | exact spec_l4May.mono _ _ _ _
   | exact LeO.none _
   | refine LeO.ite ?_ ?_
   | refine LeO.bind ?_ (fun _=>?_)
theorem spec_l4Table.mono : ∀ a0 a1 a2 k,LeO (spec_l4Table.f k a0 a1 a2) (spec_l4Table.f (k+1) a0 a1 a2):=by
 intro a0 a1 a2 k
 have ih0:=spec_l4Table.mono_l k
 unfold spec_l4Table.f
 repeat' first
   | (with_reducible exact ih0 _ _ _ _ _)
   | (with_reducible exact spec_l4May.mono _ _ _ _)
   | (with_reducible exact LeO.refl _)
   | (with_reducible exact LeO.none _)
   | (with_reducible refine LeO.ite ?_ ?_)
   | (with_reducible refine LeO.bind ?_ (fun _=>?_))
   | exact ih0 _ _ _ _ _
   | exact spec_l4May.mono _ _ _ _
   | exact LeO.none _
   | refine LeO.ite ?_ ?_
   | refine LeO.bind ?_ (fun _=>?_)
set_option maxHeartbeats 8000000 in
set_option maxRecDepth 100000 in
theorem spec_l4Table.calls (k:Nat) (a0:Int) (a1_0:Int) (A1_1:Option Addr) (c1_1:Nat) (l1_1:List (S33)) (r:Int) (w:World) (hr1_1:Kd.C k33 w A1_1 l1_1.length l1_1) (hc1_1:l1_1.length≤c1_1) (h:spec_l4Table.f k a0 a1_0 l1_1=some r) :
  Calls Try.prog 114 #[.int .i64 a0,.agg #[.int .i64 a1_0,.slice A1_1 l1_1.length c1_1]] w fun e w'=>e = .returned (.int .i64 r)∧Below w.heap.size w w':=by
 have hu36:=Try.underlying36
 have HR1_1:=mA hr1_1
 have HC1_1:=mA hc1_1
 clear hr1_1 hc1_1
 have HB:=mA (Below.refl w.heap.size w)
 have H:(spec_l4Table.l0 k a0 0 0 a1_0 l1_1)=some r:=h
 clear h
 have H':=mA H
 clear H
 go_enter Try.func114,Try.ntmps114
 go_wp2_with (first|((with_reducible refine gate_dst (N:=3) rfl ?_);refine box_event ?hg (N:=3) ?hd (cs:=#[.int .i64 a1_0,.slice A1_1 l1_1.length c1_1]) (t:=36) ?hr ?_;(case hd=>rfl);(case hg=>rfl);(case hr=>first|(go_simp;done)|(go_simp;rfl));intro gb101 hg w3 hbox hb;have n0_:=mA (bT (by repeat (first|(with_reducible first|exact HB.out|apply bA|apply bN|apply bD)|exact HB.out)) hb);have n1_:=mA (hbox);have n2_:=mA ((by rw [hg];exact (bZ (by repeat (first|(with_reducible first|exact HB.out|apply bA|apply bN|apply bD)|exact HB.out))):w.heap.size≤gb101));have n3_:=mA ((by rw [hg];exact (bZ (by repeat (first|(with_reducible first|exact HB.out|apply bA|apply bN|apply bD)|exact HB.out))):w.heap.size≤gb101));clear HB;have HB:=n0_;have BK101:=n1_;have GW101:=n2_;have GE101:=n3_;clear n0_ n1_ n2_ n3_ hb hbox hg))
 go_loopg [5,6] k (fun kq v5 v6 w'=>∃ (x5_1:Int) (x6_1:Int),v5 = .int .i64 x5_1∧v6 = .int .i64 x6_1∧Aside0 (spec_l4Table.l0 kq a0 x5_1 x6_1 a1_0 l1_1=some r)∧Aside0 (kq≤k)∧Aside0 (w'.heap[gb101]?=some (.cells #[.int .i64 a1_0,(.slice A1_1 l1_1.length c1_1)] 36 (0,0)))∧Aside0 (Below w.heap.size w w'))
 case atStart=>exact ⟨(0),(0),(by first|rfl|(simp;done)|(simp [*];done)),(by first|rfl|(simp;done)|(simp [*];done)),H',⟨Nat.le_refl _⟩,⟨by (with_reducible repeat (first|refine kN ?_ _|refine kD ?_|refine kA ?_ _));exact BK101.out⟩,⟨by repeat (first|(with_reducible first|exact HB.out|apply bA|apply bN|apply bD|refine bS ?_ GE101.out)|exact HB.out)⟩⟩
 case round =>
  clear H'
  try clear c1
  try clear p2
  obtain ⟨x5_1,x6_1,rfl,rfl,HA,HK1,BK101,HB⟩:=hrel
  cases gk with
  | zero=>exact absurd HA.out (by simp [spec_l4Table.l0])
  | succ k1 =>
   have H:=HA.out
   clear HA
   simp only [spec_l4Table.l0] at H
   by_cases c4:0≤a0
   ·rw [if_pos c4] at H
    have c4b0:=eq_true c4
    have c4b1:decide (0≤a0)=true:=decide_eq_true c4
    clear c4
    obtain ⟨ji5,hji5⟩ : ∃ j_:Int,(shl .i64 1 a0)=j_:=⟨_,rfl⟩
    replace H:(if x6_1<(ji5) then ((spec_l4May.f k1 a1_0 l1_1 x6_1).bind fun t102=>(if t102=true then (if 0≤x6_1 then (spec_l4Table.l0 k1 a0 (Go.bits .or .i64 x5_1 (shl .i64 1 x6_1)) (wrap64 (x6_1+1)) a1_0 l1_1) else (none)) else (spec_l4Table.l0 k1 a0 x5_1 (wrap64 (x6_1+1)) a1_0 l1_1))) else (some x5_1))=some r:=by first|(rw [hji5] at H;exact H)|(simp only [hji5] at H ⊢;exact H)
    have hji5_:(IntKind.i64.wrap (1*2^min a0.toNat 64))=ji5:=hji5
    have hji5z:a0≤64→(IntKind.i64.wrap (1*2^a0.toNat))=ji5:=shl_small hji5
    have hji5u:(IntKind.i64.wrap (2^min a0.toNat 64))=ji5:=by have h_:=hji5_;rw [Int.one_mul] at h_;exact h_
    have hji5v:a0≤64→(IntKind.i64.wrap (2^a0.toNat))=ji5:=fun hle_=>by have h_:=hji5z hle_;rw [Int.one_mul] at h_;exact h_
    have hji5y:(wrap64 (1*2^min a0.toNat 64))=ji5:=(i64_w _).symm.trans hji5_
    have hji5x:a0≤64→(wrap64 (1*2^a0.toNat))=ji5:=fun h_=>(i64_w _).symm.trans (hji5z h_)
    by_cases c6:x6_1<(ji5)
    ·rw [if_pos c6] at H
     have c6b0:decide (x6_1<(ji5))=true:=decide_eq_true c6
     clear c6
     replace H:=Option.bind_eq_some_iff.mp H
     obtain ⟨t102,A70,H⟩:=H
     replace H:(if t102=true then (if 0≤x6_1 then (spec_l4Table.l0 k1 a0 (Go.bits .or .i64 x5_1 (shl .i64 1 x6_1)) (wrap64 (x6_1+1)) a1_0 l1_1) else (none)) else (spec_l4Table.l0 k1 a0 x5_1 (wrap64 (x6_1+1)) a1_0 l1_1))=some r:=H
     have A7:=mA A70
     clear A70
     by_cases c8:t102=true
     ·subst c8
      have H1:(if 0≤x6_1 then (spec_l4Table.l0 k1 a0 (Go.bits .or .i64 x5_1 (shl .i64 1 x6_1)) (wrap64 (x6_1+1)) a1_0 l1_1) else (none))=some r:=by rw [if_pos rfl] at H;exact H
      clear H
      have H:=H1
      clear H1
      by_cases c9:0≤x6_1
      ·rw [if_pos c9] at H
       have c9b0:=eq_true c9
       have c9b1:decide (0≤x6_1)=true:=decide_eq_true c9
       clear c9
       obtain ⟨ji10,hji10⟩ : ∃ j_:Int,(shl .i64 1 x6_1)=j_:=⟨_,rfl⟩
       replace H:(spec_l4Table.l0 k1 a0 (Go.bits .or .i64 x5_1 (ji10)) (wrap64 (x6_1+1)) a1_0 l1_1)=some r:=by first|(rw [hji10] at H;exact H)|(simp only [hji10] at H ⊢;exact H)
       (try rw [hji10] at A7)
       have hji10_:(IntKind.i64.wrap (1*2^min x6_1.toNat 64))=ji10:=hji10
       have hji10z:x6_1≤64→(IntKind.i64.wrap (1*2^x6_1.toNat))=ji10:=shl_small hji10
       have hji10u:(IntKind.i64.wrap (2^min x6_1.toNat 64))=ji10:=by have h_:=hji10_;rw [Int.one_mul] at h_;exact h_
       have hji10v:x6_1≤64→(IntKind.i64.wrap (2^x6_1.toNat))=ji10:=fun hle_=>by have h_:=hji10z hle_;rw [Int.one_mul] at h_;exact h_
       have hji10y:(wrap64 (1*2^min x6_1.toNat 64))=ji10:=(i64_w _).symm.trans hji10_
       have hji10x:x6_1≤64→(wrap64 (1*2^x6_1.toNat))=ji10:=fun h_=>(i64_w _).symm.trans (hji10z h_)
       have H':=mA H
       clear H
       have hcz11_0:wr.cell? ⟨gb101,0,none⟩=some (.int .i64 a1_0):=(kC BK101.out 0).trans rfl
       have hcz11_1:wr.cell? ⟨gb101,1,none⟩=some (.slice A1_1 l1_1.length c1_1):=(kC BK101.out 1).trans rfl
       have hfz11_0:=kF BK101.out 0
       have hfz11_1:=kF BK101.out 1
       go_wp2_with (first|((with_reducible refine gate_callee (f:=101) rfl ?_);refine goesL_ (some 15) rfl rfl Try.func101 (by kernel_rfl) rfl #[.agg #[.int .i64 a1_0,.slice A1_1 l1_1.length c1_1],.int .i64 x6_1] rfl (by (try simp only [mT,mC,mN]);first|done|rfl|(simp only [lD,lT];rfl)) ?_;(with_reducible refine (spec_l4May.calls k1 a1_0 _ _ l1_1 x6_1 true _ ?side1 ?side2 A7.out).mono ?_);(case side1=>repeat (first|exact (Kd.C_below HR1_1.out HB.out)|(with_reducible refine cA ?_ _)|(with_reducible refine cN ?_ _)|(with_reducible refine cD ?_)));(case side2=>exact HC1_1.out);rintro e w12 ⟨rfl,hb⟩;refine ⟨_,rfl,?_⟩;have n0_:=mA (blk_below (g:=gb101) (o:=.cells #[.int .i64 a1_0,.slice A1_1 l1_1.length c1_1] 36 (0,0)) (by (with_reducible repeat (first|refine kN ?_ _|refine kD ?_|refine kA ?_ _));exact BK101.out) hb);have n1_:=mA (bT (by repeat (first|(with_reducible first|exact HB.out|apply bA|apply bN|apply bD|refine bS ?_ GE101.out)|exact HB.out)) hb);clear BK101 HB;have BK101:=n0_;have HB:=n1_;clear n0_ n1_;(try clear hb);(try clear hb2);(try clear hk);(try clear hi)))
       go_roundg k1
       case measure=>have:=HK1.out;omega
       case rel=>exact ⟨(Go.bits .or .i64 x5_1 (ji10)),(wrap64 (x6_1+1)),(by first|rfl|(simp;done)|(simp only [←hji10]<;>(first|rfl|simp))|(simp [*];done)),(by first|rfl|(simp;done)|(simp [*];done)),H',⟨by have:=HK1.out;omega⟩,⟨by (with_reducible repeat (first|refine kN ?_ _|refine kD ?_|refine kA ?_ _));exact BK101.out⟩,⟨by repeat (first|(with_reducible first|exact HB.out|apply bA|apply bN|apply bD|refine bS ?_ GE101.out)|exact HB.out)⟩⟩
      ·rw [if_neg c9] at H
       exact absurd H (by simp)
     ·replace c8:=Bool.eq_false_iff.mpr c8
      subst c8
      have H1:(spec_l4Table.l0 k1 a0 x5_1 (wrap64 (x6_1+1)) a1_0 l1_1)=some r:=by rw [if_neg (show ¬ (false=true) by decide)] at H;exact H
      clear H
      have H:=H1
      clear H1
      have H':=mA H
      clear H
      have hcz13_0:wr.cell? ⟨gb101,0,none⟩=some (.int .i64 a1_0):=(kC BK101.out 0).trans rfl
      have hcz13_1:wr.cell? ⟨gb101,1,none⟩=some (.slice A1_1 l1_1.length c1_1):=(kC BK101.out 1).trans rfl
      have hfz13_0:=kF BK101.out 0
      have hfz13_1:=kF BK101.out 1
      go_wp2_with (first|((with_reducible refine gate_callee (f:=101) rfl ?_);refine goesL_ (some 15) rfl rfl Try.func101 (by kernel_rfl) rfl #[.agg #[.int .i64 a1_0,.slice A1_1 l1_1.length c1_1],.int .i64 x6_1] rfl (by (try simp only [mT,mC,mN]);first|done|rfl|(simp only [lD,lT];rfl)) ?_;(with_reducible refine (spec_l4May.calls k1 a1_0 _ _ l1_1 x6_1 false _ ?side1 ?side2 A7.out).mono ?_);(case side1=>repeat (first|exact (Kd.C_below HR1_1.out HB.out)|(with_reducible refine cA ?_ _)|(with_reducible refine cN ?_ _)|(with_reducible refine cD ?_)));(case side2=>exact HC1_1.out);rintro e w14 ⟨rfl,hb⟩;refine ⟨_,rfl,?_⟩;have n0_:=mA (blk_below (g:=gb101) (o:=.cells #[.int .i64 a1_0,.slice A1_1 l1_1.length c1_1] 36 (0,0)) (by (with_reducible repeat (first|refine kN ?_ _|refine kD ?_|refine kA ?_ _));exact BK101.out) hb);have n1_:=mA (bT (by repeat (first|(with_reducible first|exact HB.out|apply bA|apply bN|apply bD|refine bS ?_ GE101.out)|exact HB.out)) hb);clear BK101 HB;have BK101:=n0_;have HB:=n1_;clear n0_ n1_;(try clear hb);(try clear hb2);(try clear hk);(try clear hi)))
      go_roundg k1
      case measure=>have:=HK1.out;omega
      case rel=>exact ⟨(x5_1),(wrap64 (x6_1+1)),(by first|rfl|(simp;done)|(simp [*];done)),(by first|rfl|(simp;done)|(simp [*];done)),H',⟨by have:=HK1.out;omega⟩,⟨by (with_reducible repeat (first|refine kN ?_ _|refine kD ?_|refine kA ?_ _));exact BK101.out⟩,⟨by repeat (first|(with_reducible first|exact HB.out|apply bA|apply bN|apply bD|refine bS ?_ GE101.out)|exact HB.out)⟩⟩
    ·rw [if_neg c6] at H
     have c6b0:decide (x6_1<(ji5))=false:=decide_eq_false c6
     clear c6
     obtain rfl:=Option.some.inj H
     go_wp2
     go_ret
     exact ⟨by first|rfl|(simp [errW_none,errW_some]<;>rfl)|(simp only [←hji5];first|rfl|(simp [errW_none,errW_some]<;>rfl))|(simp [*, errW_none,errW_some]<;>rfl),by repeat (first|(with_reducible first|exact HB.out|apply bA|apply bN|apply bD|refine bS ?_ GE101.out)|exact HB.out)⟩
   ·rw [if_neg c4] at H
    exact absurd H (by simp)
end Go.Proofs.Ytpampekijfjlkab.X
