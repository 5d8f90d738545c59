/- Joined by a program of this session's: X50, X51, X52, X23, X24, X29, X34, X35, X36, X53. -/
import Derived.Test.YtbhjeiphmnanoaaG96c12aded1
import Derived.Test.YtbhjeiphmnanoaaG9d29a8dfd8
import Derived.Test.YtbhjeiphmnanoaaG8a1831c091

namespace Go.Proofs.Ytbhjeiphmnanoaa.X
open Go.RowKit Go.Proofs.YtbhjeiphmnanoaaW.PrintWords Go.Proofs.YtbhjeiphmnanoaaW.PrintLast Go.Proofs.YtbhjeiphmnanoaaW.PrintMore
open Go.Proofs.YtbhjeiphmnanoaaW.PrintWords renaming Aside0.mk → mA, pw_below_drewN → bN, below_drew1 → bD, below_alloc → bA, below_set → bS, blk_alloc → kA, blk_drewN → kN, blk_drew → kD, blk_cell → kC, blk_frozen → kF, below_size → bZ, below_step → bT, Kd.R_alloc → rA, Kd.R_drewN → rN, Kd.R_drew → rD, Kd.R_mono → rM, Kd.R_reads' → rR, Kd.R_lt → rL, Kd.R_below → rB, Kd.R_elder' → rE, Kd.R_lower → rW, Kd.R_new' → rQ, Kd.R_after → rJ, blk_put → kP, blk_below → kB, Kd.C_alloc → cA, Kd.C_drewN → cN, Kd.C_drew → cD
open List renaming setIfInBounds_toArray → sA, set_cons_zero → sZ, set_cons_succ → sS, length_take → lT, length_drop → lD, map_toArray → mT, map_cons → mC, map_nil → mN
open Bool renaming true → I, false → O
attribute [local go_sem] max2_int min2_int max_two min_two max_three min_three max_four min_four   -- for this text's walks alone
set_option linter.unusedVariables false
set_option linter.unusedSimpArgs false
/-! ### spec_KnownPeople: function 13 -/
mutual
def spec_KnownPeople.l0:Nat→Int→List Int→List Int→Int→Option (List Int)
 | 0,_,_,_,_=>none
 | k+1,x0,x5,x6,x7=>if x7<x0 then (spec_KnownPeople.j1 k x0 x5 x6 x7 (decide ((x6.length:Int)>0))) else (spec_KnownPeople.j1 k x0 x5 x6 x7 false)
def spec_KnownPeople.j1:Nat→Int→List Int→List Int→Int→Bool→Option (List Int)
 | 0,_,_,_,_,_=>none
 | k+1,x0,x5,x6,x7,x23=>if x23=true then (spec_KnownPeople.l1 k x0 x5 x6 x7 0 0) else (some x5)
def spec_KnownPeople.l1:Nat→Int→List Int→List Int→Int→Int→Int→Option (List Int)
 | 0,_,_,_,_,_,_=>none
 | k+1,x0,x5,x6,x7,x8,x9=>if x9<(x6.length:Int) then (if 0≤x9 then (if 0≤x7 then (spec_KnownPeople.l1 k x0 x5 x6 x7 (wrap64 (x8+(Int.tmod (shr .i64 (rd x6 x9) x7) 2))) (wrap64 (x9+1))) else (none)) else (none)) else (if x8=0 then (if x5.length<17592186044416 then (spec_KnownPeople.l0 k x0 (x5++[0]) x6 (wrap64 (x7+1))) else (none)) else (if x8=(x6.length:Int) then (if x5.length<17592186044416 then (spec_KnownPeople.l0 k x0 (x5++[1]) x6 (wrap64 (x7+1))) else (none)) else (if x5.length<17592186044416 then (spec_KnownPeople.l0 k x0 (x5++[(-1)]) x6 (wrap64 (x7+1))) else (none))))
end
def spec_KnownPeople.f (k:Nat) (a0:Int) (l1:List (S42)):Option (List Int):=(spec_StoryTable.f k a0 l1).bind fun t104=>((spec_WorldsIn.f k a0 t104).bind fun t105=>(spec_KnownPeople.l0 k a0 (([]:List Int)) t105 0))
theorem spec_KnownPeople.mono_l : ∀ k,(∀ y0 y1 y2 y3,LeO (spec_KnownPeople.l0 k y0 y1 y2 y3) (spec_KnownPeople.l0 (k+1) y0 y1 y2 y3))∧(∀ y0 y1 y2 y3 y4,LeO (spec_KnownPeople.j1 k y0 y1 y2 y3 y4) (spec_KnownPeople.j1 (k+1) y0 y1 y2 y3 y4))∧(∀ y0 y1 y2 y3 y4 y5,LeO (spec_KnownPeople.l1 k y0 y1 y2 y3 y4 y5) (spec_KnownPeople.l1 (k+1) y0 y1 y2 y3 y4 y5))
 | 0=>⟨fun _ _ _ _ r h=>by simp [spec_KnownPeople.l0] at h,fun _ _ _ _ _ r h=>by simp [spec_KnownPeople.j1] at h,fun _ _ _ _ _ _ r h=>by simp [spec_KnownPeople.l1] at h⟩
 | k+1=>by
  obtain ⟨ih0,ih1,ih2⟩:=spec_KnownPeople.mono_l k
  refine ⟨?_,?_,?_⟩
  ·intro y0 y1 y2 y3
   unfold spec_KnownPeople.l0
   repeat' first
   | (with_reducible exact ih0 _ _ _ _)
   | (with_reducible exact ih1 _ _ _ _ _)
   | (with_reducible exact ih2 _ _ _ _ _ _)
   | (with_reducible exact spec_StoryTable.mono _ _ _)
   | (with_reducible exact spec_WorldsIn.mono _ _ _)
   | (with_reducible exact LeO.refl _)
   | (with_reducible exact LeO.none _)
   | (with_reducible refine LeO.ite ?_ ?_)
   | (with_reducible refine LeO.bind ?_ (fun _=>?_))
   | exact ih0 _ _ _ _
   | exact ih1 _ _ _ _ _
   | exact ih2 _ _ _ _ _ _
   | exact spec_StoryTable.mono _ _ _
   | exact spec_WorldsIn.mono _ _ _
   | exact LeO.none _
   | refine LeO.ite ?_ ?_
   | refine LeO.bind ?_ (fun _=>?_)
  ·intro y0 y1 y2 y3 y4
   unfold spec_KnownPeople.j1
   repeat' first
   | (with_reducible exact ih0 _ _ _ _)
   | (with_reducible exact ih1 _ _ _ _ _)
   | (with_reducible exact ih2 _ _ _ _ _ _)
   | (with_reducible exact spec_StoryTable.mono _ _ _)
   | (with_reducible exact spec_WorldsIn.mono _ _ _)
   | (with_reducible exact LeO.refl _)
   | (with_reducible exact LeO.none _)
   | (with_reducible refine LeO.ite ?_ ?_)
   | (with_reducible refine LeO.bind ?_ (fun _=>?_))
   | exact ih0 _ _ _ _
   | exact ih1 _ _ _ _ _
   | exact ih2 _ _ _ _ _ _
   | exact spec_StoryTable.mono _ _ _
   | exact spec_WorldsIn.mono _ _ _
   | exact LeO.none _
   | refine LeO.ite ?_ ?_
   | refine LeO.bind ?_ (fun _=>?_)
  ·intro y0 y1 y2 y3 y4 y5
   unfold spec_KnownPeople.l1
   repeat' first
   | (with_reducible exact ih0 _ _ _ _)
   | (with_reducible exact ih1 _ _ _ _ _)
   | (with_reducible exact ih2 _ _ _ _ _ _)
   | (with_reducible exact spec_StoryTable.mono _ _ _)
   | (with_reducible exact spec_WorldsIn.mono _ _ _)
   | (with_reducible exact LeO.refl _)
   | (with_reducible exact LeO.none _)
   | (with_reducible refine LeO.ite ?_ ?_)
   | (with_reducible refine LeO.bind ?_ (fun _=>?_))
   | exact ih0 _ _ _ _
   | exact ih1 _ _ _ _ _
   | exact ih2 _ _ _ _ _ _
   | exact spec_StoryTable.mono _ _ _
   | exact spec_WorldsIn.mono _ _ _
   | exact LeO.none _
   | refine LeO.ite ?_ ?_
   | refine LeO.bind ?_ (fun _=>?_)
theorem spec_KnownPeople.mono : ∀ a0 a1 k,LeO (spec_KnownPeople.f k a0 a1) (spec_KnownPeople.f (k+1) a0 a1):=by
 intro a0 a1 k
 obtain ⟨ih0,ih1,ih2⟩:=spec_KnownPeople.mono_l k
 unfold spec_KnownPeople.f
 repeat' first
   | (with_reducible exact ih0 _ _ _ _)
   | (with_reducible exact ih1 _ _ _ _ _)
   | (with_reducible exact ih2 _ _ _ _ _ _)
   | (with_reducible exact spec_StoryTable.mono _ _ _)
   | (with_reducible exact spec_WorldsIn.mono _ _ _)
   | (with_reducible exact LeO.refl _)
   | (with_reducible exact LeO.none _)
   | (with_reducible refine LeO.ite ?_ ?_)
   | (with_reducible refine LeO.bind ?_ (fun _=>?_))
   | exact ih0 _ _ _ _
   | exact ih1 _ _ _ _ _
   | exact ih2 _ _ _ _ _ _
   | exact spec_StoryTable.mono _ _ _
   | exact spec_WorldsIn.mono _ _ _
   | exact LeO.none _
   | refine LeO.ite ?_ ?_
   | refine LeO.bind ?_ (fun _=>?_)
set_option maxHeartbeats 8000000 in
set_option maxRecDepth 100000 in
theorem spec_KnownPeople.calls (k:Nat) (a0:Int) (A1:Option Addr) (c1:Nat) (l1:List (S42)) (r:List Int) (w:World) (hr1:Kd.C k42 w A1 l1.length l1) (hc1:l1.length≤c1) (h:spec_KnownPeople.f k a0 l1=some r) :
  Calls Try.prog 13 #[.int .i64 a0,.slice A1 l1.length c1] w fun e w'=>∃ v0_:Value,e = .returned (v0_)∧Kd.R (Kd.int .i64) 3 w' w.heap.size (fun _=>True) v0_ r∧Below w.heap.size w w':=by
 have HR1:=mA hr1
 have HC1:=mA hc1
 clear hr1 hc1
 have HB:=mA (Below.refl w.heap.size w)
 have H:((spec_StoryTable.f k a0 l1).bind fun t104=>((spec_WorldsIn.f k a0 t104).bind fun t105=>(spec_KnownPeople.l0 k a0 (([]:List Int)) t105 0)))=some r:=h
 clear h
 obtain ⟨y101,hy101⟩ : ∃ y_:List Int,y_=(([]:List Int)):=⟨_,rfl⟩
 replace H:((spec_StoryTable.f k a0 l1).bind fun t104=>((spec_WorldsIn.f k a0 t104).bind fun t105=>(spec_KnownPeople.l0 k a0 y101 t105 0)))=some r:=by first|(rw [hy101];with_reducible exact H)|(have H2_:=(Option.bind_some _ _).symm.trans H;rw [hy101];with_reducible exact H2_)|(have H2_:=(Option.bind_some _ _).symm.trans H;with_reducible exact H2_)|with_reducible exact H|(rw [hy101];exact H)|exact H
 have Ny101:=mA hy101
 clear hy101
 replace H:=Option.bind_eq_some_iff.mp H
 obtain ⟨t104,A30,H⟩:=H
 replace H:((spec_WorldsIn.f k a0 t104).bind fun t105=>(spec_KnownPeople.l0 k a0 y101 t105 0))=some r:=H
 have A3:=mA A30
 clear A30
 replace H:=Option.bind_eq_some_iff.mp H
 obtain ⟨t105,A40,H⟩:=H
 replace H:(spec_KnownPeople.l0 k a0 y101 t105 0)=some r:=H
 have A4:=mA A40
 clear A40
 have H':=mA H
 clear H
 go_enter Try.func13,Try.ntmps13
 go_wp2_with (first|((with_reducible refine gate_dst (N:=10) rfl ?_);(try (refine gate_guard (by rfl) ?_;dsimp only));refine Kd.R_lit (Kd.int .i64) _ 3 ?hg (N:=10) ?hd (xs:=([]:List Int)) (inner:=[]) (ok:=fun _=>True) (okp:=fun _=>True) ?hr ?hp (fun _ hk=>hk) trivial (Below.refl _ _) (Nat.le_refl _) (by simp) ?_;(case hd=>rfl);(case hg=>rfl);(case hr=>first|(go_simp;done)|(go_simp;rfl));(case hp=>exact (Reps.none _ _));intro v102 w5 ho6 hb hg_ hnew_;clear hg_ hnew_;(first|rw [←Ny101.out] at ho6|(simp only [Int.reduceToNat] at ho6;rw [←Ny101.out] at ho6));have n0_:=mA (rW ho6 (bZ (by repeat first|(with_reducible first|exact HB.out|apply bA|apply bN|apply bD)|exact HB.out)));have n1_:=mA (bT (by repeat first|(with_reducible first|exact HB.out|apply bA|apply bN|apply bD)|exact HB.out) hb);clear HB;have HO103:=n0_;have HB:=n1_;clear n0_ n1_ hb ho6)|((with_reducible refine gate_callee (f:=33) rfl ?_);refine goesL_ (some 14) rfl rfl Try.func33 (by kernel_rfl) rfl #[.int .i64 a0,.slice A1 l1.length c1] rfl (by (try simp only [mT,mC,mN]);first|done|rfl|(simp only [lD,lT];rfl)) ?_;(with_reducible refine (spec_StoryTable.calls k a0 _ _ l1 t104 _ ?side1 ?side2 A3.out).mono ?_);(case side1=>repeat first|exact (Kd.C_below HR1.out HB.out)|(with_reducible refine cA ?_ _)|(with_reducible refine cN ?_ _)|(with_reducible refine cD ?_));(case side2=>exact HC1.out);rintro e w7 ⟨rfl,hb⟩;refine ⟨_,rfl,?_⟩;have n0_:=mA (rB (by (with_reducible repeat first|apply rA|apply rN|apply rD);exact HO103.out) hb);have n1_:=mA (bT (by repeat first|(with_reducible first|exact HB.out|apply bA|apply bN|apply bD)|exact HB.out) hb);clear HO103 HB;have HO103:=n0_;have HB:=n1_;clear n0_ n1_;(try clear hb);(try clear hb2);(try clear hk);(try clear hi))|((with_reducible refine gate_callee (f:=32) rfl ?_);refine goesL_ (some 15) rfl rfl Try.func32 (by kernel_rfl) rfl #[.int .i64 a0,.int .i64 t104] rfl (by (try simp only [mT,mC,mN]);first|done|rfl|(simp only [lD,lT];rfl)) ?_;(with_reducible refine (spec_WorldsIn.calls k a0 t104 t105 _ A4.out).mono ?_);rintro e w8 ⟨v106,rfl,ho0,hb⟩;refine ⟨_,rfl,?_⟩;have n0_:=mA (rE (by (with_reducible repeat first|apply rA|apply rN|apply rD);exact HO103.out) (Kd.R_base ho0) hb);have n1_:=mA (rW (rQ ho0 (rL (by (with_reducible repeat first|apply rA|apply rN|apply rD);exact HO103.out))) (bZ (by repeat first|(with_reducible first|exact HB.out|apply bA|apply bN|apply bD)|exact HB.out)));have n2_:=mA (bT (by repeat first|(with_reducible first|exact HB.out|apply bA|apply bN|apply bD)|exact HB.out) hb);clear HO103 HB;have HO103:=n0_;have HO107:=n1_;have HB:=n2_;clear n0_ n1_ n2_;(try clear hb);(try clear hb2);(try clear hk);(try clear hi);(try clear ho0)))
 go_loopg [5,7] k (fun kq v5 v7 w'=>∃ (x5_1:List Int) (x7_1:Int),v7 = .int .i64 x7_1∧Aside0 (spec_KnownPeople.l0 kq a0 x5_1 t105 x7_1=some r)∧Aside0 (kq≤k)∧Aside0 (Kd.R (Kd.int .i64) 3 w' w.heap.size (fun k_=>some k_≠(v106:Value).ownBlock) v5 x5_1)∧Aside0 (Kd.R (Kd.int .i64) 3 w' w.heap.size (fun k_=>some k_≠(v5:Value).ownBlock) v106 t105)∧Aside0 (Below w.heap.size w w'))
 case atStart=>exact ⟨(y101),(0),(by first|rfl|(simp;done)|(simp [*];done)),H',⟨Nat.le_refl _⟩,⟨by (with_reducible repeat first|apply rA|apply rN|apply rD);exact rM HO103.out (fun _ hk=>hk.2)⟩,⟨by (with_reducible repeat first|apply rA|apply rN|apply rD);exact rM HO107.out (fun _ hk=>hk.2)⟩,⟨by repeat (first|(with_reducible first|exact HB.out|apply bA|apply bN|apply bD)|exact HB.out)⟩⟩
 case round =>
  clear H'
  try clear c1
  try clear p2
  try clear c3
  obtain ⟨x5_1,x7_1,rfl,HA,HK1,HO_5,HO_6,HB⟩:=hrel
  cases gk with
  | zero=>exact absurd HA.out (by simp [spec_KnownPeople.l0])
  | succ k1 =>
   have H:=HA.out
   clear HA
   simp only [spec_KnownPeople.l0] at H
   have HC9:=mA H
   clear H
   go_upto_region 4 with (fail)
   go_cut [23] (fun v23 wc=>∃ (kq:Nat) (x23_8:Bool),v23 = .bool x23_8∧Aside0 (spec_KnownPeople.j1 kq a0 x5_1 t105 x7_1 x23_8=some r)∧Aside0 (kq≤k1)∧Aside0 (Kd.R (Kd.int .i64) 3 wc w.heap.size (fun k_=>some k_≠(v106:Value).ownBlock) u5 x5_1)∧Aside0 (Kd.R (Kd.int .i64) 3 wc w.heap.size (fun k_=>some k_≠(u5:Value).ownBlock) v106 t105)∧Aside0 (Below w.heap.size w wc))
   case first =>
    have H:=HC9.out
    clear HC9
    by_cases c10:x7_1<a0
    ·rw [if_pos c10] at H
     have c10b0:decide (x7_1<a0)=true:=decide_eq_true c10
     clear c10
     (first|rw [c10b0]|(simp only [i64_w,i32_w];rw [c10b0])|skip)
     have H':=mA H
     clear H
     obtain ⟨Ao11,co11,eo11⟩:=Kd.R_slice HO_6.out
     subst eo11
     go_wp2
     go_meet
     case rel=>exact ⟨_,(decide ((t105.length:Int)>0)),(by first|rfl|(simp;done)|(simp [*];done)),H',⟨by have:=HK1.out;first|omega|exact Nat.le_refl _⟩,⟨by (with_reducible repeat first|apply rA|apply rN|apply rD);exact HO_5.out⟩,⟨by (with_reducible repeat first|apply rA|apply rN|apply rD);exact HO_6.out⟩,⟨by repeat (first|(with_reducible first|exact HB.out|apply bA|apply bN|apply bD)|exact HB.out)⟩⟩
    ·rw [if_neg c10] at H
     have c10b0:decide (x7_1<a0)=false:=decide_eq_false c10
     clear c10
     (first|rw [c10b0]|(simp only [i64_w,i32_w];rw [c10b0])|skip)
     have H':=mA H
     clear H
     go_wp2
     go_meet
     case rel=>exact ⟨_,(false),(by first|rfl|(simp;done)|(simp [*];done)),H',⟨by have:=HK1.out;first|omega|exact Nat.le_refl _⟩,⟨by (with_reducible repeat first|apply rA|apply rN|apply rD);exact HO_5.out⟩,⟨by (with_reducible repeat first|apply rA|apply rN|apply rD);exact HO_6.out⟩,⟨by repeat (first|(with_reducible first|exact HB.out|apply bA|apply bN|apply bD)|exact HB.out)⟩⟩
   case rest =>
    clear HC9
    try clear c1
    try clear p2
    try clear c3
    try clear c10
    try clear c10b0
    try clear p2
    obtain ⟨kq,x23_8,rfl,HA,HJ8,HO_5,HO_6,HB⟩:=hcut
    cases kq with
    | zero=>exact absurd HA.out (by simp [spec_KnownPeople.j1])
    | succ kj8 =>
     have H:=HA.out
     clear HA
     simp only [spec_KnownPeople.j1] at H
     by_cases c12:x23_8=true
     ·subst c12
      have H1:(spec_KnownPeople.l1 kj8 a0 x5_1 t105 x7_1 0 0)=some r:=by rw [if_pos rfl] at H;exact H
      clear H
      have H:=H1
      clear H1
      have H':=mA H
      clear H
      go_wp2
      go_loopg [8,9] kj8 (fun kq v8 v9 w'=>∃ (x8_3:Int) (x9_3:Int),v8 = .int .i64 x8_3∧v9 = .int .i64 x9_3∧Aside0 (spec_KnownPeople.l1 kq a0 x5_1 t105 x7_1 x8_3 x9_3=some r)∧Aside0 (kq≤kj8)∧Aside0 (Kd.R (Kd.int .i64) 3 w' w.heap.size (fun k_=>some k_≠(v106:Value).ownBlock) u5 x5_1)∧Aside0 (Kd.R (Kd.int .i64) 3 w' w.heap.size (fun k_=>some k_≠(u5:Value).ownBlock) v106 t105)∧Aside0 (Below w.heap.size w w'))
      case atStart=>exact ⟨(0),(0),(by first|rfl|(simp;done)|(simp [*];done)),(by first|rfl|(simp;done)|(simp [*];done)),H',⟨Nat.le_refl _⟩,⟨by (with_reducible repeat first|apply rA|apply rN|apply rD);exact HO_5.out⟩,⟨by (with_reducible repeat first|apply rA|apply rN|apply rD);exact HO_6.out⟩,⟨by repeat (first|(with_reducible first|exact HB.out|apply bA|apply bN|apply bD)|exact HB.out)⟩⟩
      case round =>
       clear H'
       try clear c1
       try clear p2
       try clear c3
       try clear c10
       try clear c10b0
       try clear c12
       try clear p2
       obtain ⟨x8_3,x9_3,rfl,rfl,HA,HK3,HO_5,HO_6,HB⟩:=hrel
       cases gk with
       | zero=>exact absurd HA.out (by simp [spec_KnownPeople.l1])
       | succ k3 =>
        have H:=HA.out
        clear HA
        simp only [spec_KnownPeople.l1] at H
        by_cases c13:x9_3<(t105.length:Int)
        ·rw [if_pos c13] at H
         have c13b0:decide (x9_3<(t105.length:Int))=true:=decide_eq_true c13
         clear c13
         by_cases c14:0≤x9_3
         ·rw [if_pos c14] at H
          have c14b0:decide (0≤x9_3)=true:=decide_eq_true c14
          clear c14
          by_cases c15:0≤x7_1
          ·rw [if_pos c15] at H
           have c15b0:=eq_true c15
           have c15b1:decide (0≤x7_1)=true:=decide_eq_true c15
           clear c15
           obtain ⟨ji16,hji16⟩ : ∃ j_:Int,(shr .i64 (rd t105 x9_3) x7_1)=j_:=⟨_,rfl⟩
           replace H:(spec_KnownPeople.l1 k3 a0 x5_1 t105 x7_1 (wrap64 (x8_3+(Int.tmod (ji16) 2))) (wrap64 (x9_3+1)))=some r:=by first|(rw [hji16] at H;exact H)|(simp only [hji16] at H ⊢;exact H)
           have hji16_:((rd t105 x9_3) / 2^min x7_1.toNat 64)=ji16:=hji16
           have hji16z:x7_1≤64→((rd t105 x9_3) / 2^x7_1.toNat)=ji16:=shr_small hji16
           have H':=mA H
           clear H
           obtain ⟨Ao17,co17,eo17⟩:=Kd.R_slice HO_6.out
           subst eo17
           have p108:0≤(x9_3:Int):=of_decide_eq_true (by first|with_reducible assumption|assumption)
           have q108:x9_3<(t105.length:Int):=of_decide_eq_true (by first|with_reducible assumption|assumption)
           obtain ⟨ad108,e108,hx108_0⟩:=Kd.at_int (rR HO_6.out).2.2 x9_3 p108 q108
           cases e108
           replace p108:=eq_true p108
           replace q108:=eq_true q108
           go_wp2
           go_roundg k3
           case measure=>have:=HK1.out;have:=HJ8.out;have:=HK3.out;omega
           case rel=>exact ⟨(wrap64 (x8_3+(Int.tmod (ji16) 2))),(wrap64 (x9_3+1)),(by first|rfl|(simp;done)|(simp only [←hji16]<;>(first|rfl|simp))|(simp [*];done)),(by first|rfl|(simp;done)|(simp [*];done)),H',⟨by have:=HK1.out;have:=HJ8.out;have:=HK3.out;omega⟩,⟨by (with_reducible repeat first|apply rA|apply rN|apply rD);exact HO_5.out⟩,⟨by (with_reducible repeat first|apply rA|apply rN|apply rD);exact HO_6.out⟩,⟨by repeat (first|(with_reducible first|exact HB.out|apply bA|apply bN|apply bD)|exact HB.out)⟩⟩
          ·rw [if_neg c15] at H
           exact absurd H (by simp)
         ·rw [if_neg c14] at H
          exact absurd H (by simp)
        ·rw [if_neg c13] at H
         have c13b0:decide (x9_3<(t105.length:Int))=false:=decide_eq_false c13
         clear c13
         by_cases c18:x8_3=0
         ·rw [if_pos c18] at H
          have c18b0:(x8_3==0)=true:=beq_iff_eq.mpr c18
          have c18b1:(x8_3 != 0)=false:=bne_eq_false_iff_eq.mpr c18
          clear c18
          by_cases c19:x5_1.length<17592186044416
          ·rw [if_pos c19] at H
           have LMc19:=mA c19
           clear c19
           obtain ⟨y109,hy109⟩ : ∃ y_:List Int,y_=(x5_1++[0]):=⟨_,rfl⟩
           replace H:(spec_KnownPeople.l0 k3 a0 y109 t105 (wrap64 (x7_1+1)))=some r:=by first|(rw [hy109];with_reducible exact H)|(have H2_:=(Option.bind_some _ _).symm.trans H;rw [hy109];with_reducible exact H2_)|(have H2_:=(Option.bind_some _ _).symm.trans H;with_reducible exact H2_)|with_reducible exact H|(rw [hy109];exact H)|exact H
           have Ny109:=mA hy109
           clear hy109
           have H':=mA H
           clear H
           obtain ⟨Ao20,co20,eo20⟩:=Kd.R_slice HO_6.out
           subst eo20
           go_wp2_with (first|((with_reducible refine gate_builtin (b:=.append) (xs:=#[.tmp 47,.tmp 48]) rfl ?_);(try (refine gate_guard (by rfl) ?_;dsimp only));at_builtin;refine Kd.R_append (Kd.int .i64) (w0:=w) w.heap.size rfl (.tmp 47) (.tmp 48) 31 3 (.int .i64 0) 8 rfl Try.underlying31 info3 rfl (by decide) (by omega) u5 x5_1 0 [.int .i64 0] (fun k_=>some k_≠(.slice Ao20 t105.length co20:Value).ownBlock) (fun _=>False) rfl rfl ?aP (fun _ hk=>hk.elim) ?aF ?aO ?aB ?aS ?aL ?_;(case aP=>exact rfl);(case aB=>exact (by repeat first|(with_reducible first|exact HB.out|apply bA|apply bN|apply bD)|exact HB.out));(case aF=>exact (fun k_ hk=>Kd.fresh' (rL (by (with_reducible repeat first|apply rA|apply rN|apply rD);exact HO_6.out)) k_ hk));(case aO=>exact (by (with_reducible repeat first|apply rA|apply rN|apply rD);exact HO_5.out));(case aS=>exact (bZ (by repeat first|(with_reducible first|exact HB.out|apply bA|apply bN|apply bD)|exact HB.out)));(case aL=>have:=LMc19.out;omega);intro v110 w21 ho hb hg hat;rw [←Ny109.out] at ho;have n0_:=mA (rJ (ok:=(fun _=>True)) (by (with_reducible repeat first|apply rA|apply rN|apply rD);exact rM HO_6.out (fun _ hk=>⟨trivial,hk⟩)) hg hat);have n1_:=mA (hb);have n2_:=mA (ho);clear HO_6 HB HO_5;have HO_6:=n0_;have HB:=n1_;have HO111:=n2_;clear n0_ n1_ n2_ ho hb hg hat))
           go_roundg k3
           case measure=>have:=HK1.out;have:=HJ8.out;have:=HK3.out;omega
           case rel=>exact ⟨(y109),(wrap64 (x7_1+1)),(by first|rfl|(simp;done)|(simp [*];done)),H',⟨by have:=HK1.out;have:=HJ8.out;have:=HK3.out;omega⟩,⟨by (with_reducible repeat first|apply rA|apply rN|apply rD);exact HO111.out⟩,⟨by (with_reducible repeat first|apply rA|apply rN|apply rD);exact rM HO_6.out (fun _ hk=>hk.2)⟩,⟨by repeat (first|(with_reducible first|exact HB.out|apply bA|apply bN|apply bD)|exact HB.out)⟩⟩
          ·rw [if_neg c19] at H
           exact absurd H (by simp)
         ·rw [if_neg c18] at H
          have c18b0:(x8_3==0)=false:=beq_eq_false_iff_ne.mpr c18
          have c18b1:(x8_3 != 0)=true:=bne_iff_ne.mpr c18
          by_cases c22:x8_3=(t105.length:Int)
          ·rw [if_pos c22] at H
           have c22b0:(x8_3==(t105.length:Int))=true:=beq_iff_eq.mpr c22
           have c22b1:(x8_3 != (t105.length:Int))=false:=bne_eq_false_iff_eq.mpr c22
           clear c22
           by_cases c23:x5_1.length<17592186044416
           ·rw [if_pos c23] at H
            have LMc23:=mA c23
            clear c23
            obtain ⟨y112,hy112⟩ : ∃ y_:List Int,y_=(x5_1++[1]):=⟨_,rfl⟩
            replace H:(spec_KnownPeople.l0 k3 a0 y112 t105 (wrap64 (x7_1+1)))=some r:=by first|(rw [hy112];with_reducible exact H)|(have H2_:=(Option.bind_some _ _).symm.trans H;rw [hy112];with_reducible exact H2_)|(have H2_:=(Option.bind_some _ _).symm.trans H;with_reducible exact H2_)|with_reducible exact H|(rw [hy112];exact H)|exact H
            have Ny112:=mA hy112
            clear hy112
            have H':=mA H
            clear H
            obtain ⟨Ao24,co24,eo24⟩:=Kd.R_slice HO_6.out
            subst eo24
            go_wp2_with (first|((with_reducible refine gate_builtin (b:=.append) (xs:=#[.tmp 54,.tmp 55]) rfl ?_);(try (refine gate_guard (by rfl) ?_;dsimp only));at_builtin;refine Kd.R_append (Kd.int .i64) (w0:=w) w.heap.size rfl (.tmp 54) (.tmp 55) 31 3 (.int .i64 0) 8 rfl Try.underlying31 info3 rfl (by decide) (by omega) u5 x5_1 1 [.int .i64 1] (fun k_=>some k_≠(.slice Ao24 t105.length co24:Value).ownBlock) (fun _=>False) rfl rfl ?aP (fun _ hk=>hk.elim) ?aF ?aO ?aB ?aS ?aL ?_;(case aP=>exact rfl);(case aB=>exact (by repeat first|(with_reducible first|exact HB.out|apply bA|apply bN|apply bD)|exact HB.out));(case aF=>exact (fun k_ hk=>Kd.fresh' (rL (by (with_reducible repeat first|apply rA|apply rN|apply rD);exact HO_6.out)) k_ hk));(case aO=>exact (by (with_reducible repeat first|apply rA|apply rN|apply rD);exact HO_5.out));(case aS=>exact (bZ (by repeat first|(with_reducible first|exact HB.out|apply bA|apply bN|apply bD)|exact HB.out)));(case aL=>have:=LMc23.out;omega);intro v113 w25 ho hb hg hat;rw [←Ny112.out] at ho;have n0_:=mA (rJ (ok:=(fun _=>True)) (by (with_reducible repeat first|apply rA|apply rN|apply rD);exact rM HO_6.out (fun _ hk=>⟨trivial,hk⟩)) hg hat);have n1_:=mA (hb);have n2_:=mA (ho);clear HO_6 HB HO_5;have HO_6:=n0_;have HB:=n1_;have HO114:=n2_;clear n0_ n1_ n2_ ho hb hg hat))
            go_roundg k3
            case measure=>have:=HK1.out;have:=HJ8.out;have:=HK3.out;omega
            case rel=>exact ⟨(y112),(wrap64 (x7_1+1)),(by first|rfl|(simp;done)|(simp [*];done)),H',⟨by have:=HK1.out;have:=HJ8.out;have:=HK3.out;omega⟩,⟨by (with_reducible repeat first|apply rA|apply rN|apply rD);exact HO114.out⟩,⟨by (with_reducible repeat first|apply rA|apply rN|apply rD);exact rM HO_6.out (fun _ hk=>hk.2)⟩,⟨by repeat (first|(with_reducible first|exact HB.out|apply bA|apply bN|apply bD)|exact HB.out)⟩⟩
           ·rw [if_neg c23] at H
            exact absurd H (by simp)
          ·rw [if_neg c22] at H
           have c22b0:(x8_3==(t105.length:Int))=false:=beq_eq_false_iff_ne.mpr c22
           have c22b1:(x8_3 != (t105.length:Int))=true:=bne_iff_ne.mpr c22
           by_cases c26:x5_1.length<17592186044416
           ·rw [if_pos c26] at H
            have LMc26:=mA c26
            clear c26
            obtain ⟨y115,hy115⟩ : ∃ y_:List Int,y_=(x5_1++[(-1)]):=⟨_,rfl⟩
            replace H:(spec_KnownPeople.l0 k3 a0 y115 t105 (wrap64 (x7_1+1)))=some r:=by first|(rw [hy115];with_reducible exact H)|(have H2_:=(Option.bind_some _ _).symm.trans H;rw [hy115];with_reducible exact H2_)|(have H2_:=(Option.bind_some _ _).symm.trans H;with_reducible exact H2_)|with_reducible exact H|(rw [hy115];exact H)|exact H
            have Ny115:=mA hy115
            clear hy115
            have H':=mA H
            clear H
            obtain ⟨Ao27,co27,eo27⟩:=Kd.R_slice HO_6.out
            subst eo27
            go_wp2_with (first|((with_reducible refine gate_builtin (b:=.append) (xs:=#[.tmp 42,.tmp 43]) rfl ?_);(try (refine gate_guard (by rfl) ?_;dsimp only));at_builtin;refine Kd.R_append (Kd.int .i64) (w0:=w) w.heap.size rfl (.tmp 42) (.tmp 43) 31 3 (.int .i64 0) 8 rfl Try.underlying31 info3 rfl (by decide) (by omega) u5 x5_1 (-1) [.int .i64 (-1)] (fun k_=>some k_≠(.slice Ao27 t105.length co27:Value).ownBlock) (fun _=>False) rfl rfl ?aP (fun _ hk=>hk.elim) ?aF ?aO ?aB ?aS ?aL ?_;(case aP=>exact rfl);(case aB=>exact (by repeat first|(with_reducible first|exact HB.out|apply bA|apply bN|apply bD)|exact HB.out));(case aF=>exact (fun k_ hk=>Kd.fresh' (rL (by (with_reducible repeat first|apply rA|apply rN|apply rD);exact HO_6.out)) k_ hk));(case aO=>exact (by (with_reducible repeat first|apply rA|apply rN|apply rD);exact HO_5.out));(case aS=>exact (bZ (by repeat first|(with_reducible first|exact HB.out|apply bA|apply bN|apply bD)|exact HB.out)));(case aL=>have:=LMc26.out;omega);intro v116 w28 ho hb hg hat;rw [←Ny115.out] at ho;have n0_:=mA (rJ (ok:=(fun _=>True)) (by (with_reducible repeat first|apply rA|apply rN|apply rD);exact rM HO_6.out (fun _ hk=>⟨trivial,hk⟩)) hg hat);have n1_:=mA (hb);have n2_:=mA (ho);clear HO_6 HB HO_5;have HO_6:=n0_;have HB:=n1_;have HO117:=n2_;clear n0_ n1_ n2_ ho hb hg hat))
            go_roundg k3
            case measure=>have:=HK1.out;have:=HJ8.out;have:=HK3.out;omega
            case rel=>exact ⟨(y115),(wrap64 (x7_1+1)),(by first|rfl|(simp;done)|(simp [*];done)),H',⟨by have:=HK1.out;have:=HJ8.out;have:=HK3.out;omega⟩,⟨by (with_reducible repeat first|apply rA|apply rN|apply rD);exact HO117.out⟩,⟨by (with_reducible repeat first|apply rA|apply rN|apply rD);exact rM HO_6.out (fun _ hk=>hk.2)⟩,⟨by repeat (first|(with_reducible first|exact HB.out|apply bA|apply bN|apply bD)|exact HB.out)⟩⟩
           ·rw [if_neg c26] at H
            exact absurd H (by simp)
     ·replace c12:=Bool.eq_false_iff.mpr c12
      subst c12
      have H1:(some x5_1)=some r:=by rw [if_neg (show ¬ (false=true) by decide)] at H;exact H
      clear H
      have H:=H1
      clear H1
      obtain rfl:=Option.some.inj H
      go_wp2
      go_ret
      exact ⟨_,by first|rfl|(simp [errW_none,errW_some]<;>rfl)|(simp [*, errW_none,errW_some]<;>rfl),by (with_reducible repeat first|apply rA|apply rN|apply rD);exact rM HO_5.out (fun _ hk=>trivial),by repeat (first|(with_reducible first|exact HB.out|apply bA|apply bN|apply bD)|exact HB.out)⟩
/-! ### impl_TableOk: function 48 -/
def impl_TableOk.f (a0:Int) (a1:Int):Option (Bool):=(impl_peopleOk.f a0).bind fun t101=>(if t101=true then (if a1≥0 then (if 0≤a0 then (some (decide (a1<(shl .i64 1 (shl .u64 1 a0))))) else (none)) else (some false)) else (some false))
set_option maxHeartbeats 8000000 in
set_option maxRecDepth 100000 in
theorem impl_TableOk.calls (a0:Int) (a1:Int) (r:Bool) (w:World) (h:impl_TableOk.f a0 a1=some r) :
  Calls Try.prog 48 #[.int .i64 a0,.int .i64 a1] w fun e w'=>e = .returned (.bool r)∧Drawn0 w w':=by
 have H:((impl_peopleOk.f a0).bind fun t101=>(if t101=true then (if a1≥0 then (if 0≤a0 then (some (decide (a1<(shl .i64 1 (shl .u64 1 a0))))) else (none)) else (some false)) else (some false)))=some r:=h
 clear h
 replace H:=Option.bind_eq_some_iff.mp H
 obtain ⟨t101,A30,H⟩:=H
 replace H:(if t101=true then (if a1≥0 then (if 0≤a0 then (some (decide (a1<(shl .i64 1 (shl .u64 1 a0))))) else (none)) else (some false)) else (some false))=some r:=H
 have A3:=mA A30
 clear A30
 by_cases c4:t101=true
 ·subst c4
  have H1:(if a1≥0 then (if 0≤a0 then (some (decide (a1<(shl .i64 1 (shl .u64 1 a0))))) else (none)) else (some false))=some r:=by rw [if_pos rfl] at H;exact H
  clear H
  have H:=H1
  clear H1
  by_cases c5:a1≥0
  ·rw [if_pos c5] at H
   have c5b0:decide (0≤a1)=true:=decide_eq_true c5
   clear c5
   by_cases c6:0≤a0
   ·rw [if_pos c6] at H
    have c6b0:=eq_true c6
    have c6b1:decide (0≤a0)=true:=decide_eq_true c6
    clear c6
    obtain ⟨ji7,hji7⟩ : ∃ j_:Int,(shl .u64 1 a0)=j_:=⟨_,rfl⟩
    have hji7_n:(0≤ji7)=True:=eq_true (by rw [←hji7];exact shl_u64_nonneg _ _)
    replace H:(some (decide (a1<(shl .i64 1 (ji7)))))=some r:=by first|(rw [hji7] at H;exact H)|(simp only [hji7] at H ⊢;exact H)
    (try rw [hji7] at A3)
    have hji7_:(IntKind.u64.wrap (1*2^min a0.toNat 64))=ji7:=hji7
    have hji7z:a0≤64→(IntKind.u64.wrap (1*2^a0.toNat))=ji7:=shl_small hji7
    have hji7u:(IntKind.u64.wrap (2^min a0.toNat 64))=ji7:=by have h_:=hji7_;rw [Int.one_mul] at h_;exact h_
    have hji7v:a0≤64→(IntKind.u64.wrap (2^a0.toNat))=ji7:=fun hle_=>by have h_:=hji7z hle_;rw [Int.one_mul] at h_;exact h_
    obtain ⟨ji8,hji8⟩ : ∃ j_:Int,(shl .i64 1 (ji7))=j_:=⟨_,rfl⟩
    replace H:(some (decide (a1<(ji8))))=some r:=by first|(rw [hji8] at H;exact H)|(simp only [hji8] at H ⊢;exact H)
    (try rw [hji8] at A3)
    have hji8_:(IntKind.i64.wrap (1*2^min (ji7).toNat 64))=ji8:=hji8
    have hji8z:(ji7)≤64→(IntKind.i64.wrap (1*2^(ji7).toNat))=ji8:=shl_small hji8
    have hji8u:(IntKind.i64.wrap (2^min (ji7).toNat 64))=ji8:=by have h_:=hji8_;rw [Int.one_mul] at h_;exact h_
    have hji8v:(ji7)≤64→(IntKind.i64.wrap (2^(ji7).toNat))=ji8:=fun hle_=>by have h_:=hji8z hle_;rw [Int.one_mul] at h_;exact h_
    have hji8y:(wrap64 (1*2^min (ji7).toNat 64))=ji8:=(i64_w _).symm.trans hji8_
    have hji8x:(ji7)≤64→(wrap64 (1*2^(ji7).toNat))=ji8:=fun h_=>(i64_w _).symm.trans (hji8z h_)
    obtain rfl:=Option.some.inj H
    go_enter Try.func48,Try.ntmps48
    go_wp2_with (first|((with_reducible refine gate_callee (f:=42) rfl ?_);refine goesL_ (some 6) rfl rfl Try.func42 (by kernel_rfl) rfl #[.int .i64 a0] rfl (by (try simp only [mT,mC,mN]);first|done|rfl|(simp only [lD,lT];rfl)) ?_;(with_reducible refine (impl_peopleOk.calls a0 true _ A3.out).mono ?_);rintro e w' ⟨rfl,⟨nd,rfl⟩⟩;refine ⟨_,rfl,?_⟩))
    go_ret
    exact ⟨by first|rfl|(simp;done)|(simp only [←hji7, ←hji8]<;>(first|rfl|simp))|(simp [*];done),by repeat (first|exact Drawn0.refl _|apply Drawn0.step)⟩
   ·rw [if_neg c6] at H
    exact absurd H (by simp)
  ·rw [if_neg c5] at H
   have c5b0:decide (0≤a1)=false:=decide_eq_false c5
   clear c5
   obtain rfl:=Option.some.inj H
   go_enter Try.func48,Try.ntmps48
   go_wp2_with (first|((with_reducible refine gate_callee (f:=42) rfl ?_);refine goesL_ (some 6) rfl rfl Try.func42 (by kernel_rfl) rfl #[.int .i64 a0] rfl (by (try simp only [mT,mC,mN]);first|done|rfl|(simp only [lD,lT];rfl)) ?_;(with_reducible refine (impl_peopleOk.calls a0 true _ A3.out).mono ?_);rintro e w' ⟨rfl,⟨nd,rfl⟩⟩;refine ⟨_,rfl,?_⟩))
   go_ret
   exact ⟨by first|rfl|(simp;done)|(simp [*];done),by repeat (first|exact Drawn0.refl _|apply Drawn0.step)⟩
 ·replace c4:=Bool.eq_false_iff.mpr c4
  subst c4
  have H1:(some false)=some r:=by rw [if_neg (show ¬ (false=true) by decide)] at H;exact H
  clear H
  have H:=H1
  clear H1
  obtain rfl:=Option.some.inj H
  go_enter Try.func48,Try.ntmps48
  go_wp2_with (first|((with_reducible refine gate_callee (f:=42) rfl ?_);refine goesL_ (some 6) rfl rfl Try.func42 (by kernel_rfl) rfl #[.int .i64 a0] rfl (by (try simp only [mT,mC,mN]);first|done|rfl|(simp only [lD,lT];rfl)) ?_;(with_reducible refine (impl_peopleOk.calls a0 false _ A3.out).mono ?_);rintro e w' ⟨rfl,⟨nd,rfl⟩⟩;refine ⟨_,rfl,?_⟩))
  go_ret
  exact ⟨by first|rfl|(simp;done)|(simp [*];done),by repeat (first|exact Drawn0.refl _|apply Drawn0.step)⟩
/-! ### impl_WorldsIn: function 34 -/
def impl_WorldsIn.l0:Nat→Int→List Int→Int→Int→Option (List Int)
 | 0,_,_,_,_=>none
 | k+1,x1,x5,x13,x14=>if x14<x13 then (if 0≤x14 then (if (Go.bits .and .i64 (shr .i64 x1 x14) 1)=1 then (if x5.length<17592186044416 then (impl_WorldsIn.l0 k x1 (x5++[x14]) x13 (wrap64 (x14+1))) else (none)) else (impl_WorldsIn.l0 k x1 x5 x13 (wrap64 (x14+1)))) else (none)) else (some x5)
def impl_WorldsIn.f (k:Nat) (a0:Int) (a1:Int):Option (List Int):=(impl_TableOk.f a0 a1).bind fun t101=>(if t101=true then (if 0≤a0 then (impl_WorldsIn.l0 k a1 (([]:List Int)) (shl .i64 1 a0) 0) else (none)) else (some ([]:List Int)))
theorem impl_WorldsIn.mono_l : ∀ k,(∀ y0 y1 y2 y3,LeO (impl_WorldsIn.l0 k y0 y1 y2 y3) (impl_WorldsIn.l0 (k+1) y0 y1 y2 y3))
 | 0=>fun _ _ _ _ r h=>by simp [impl_WorldsIn.l0] at h
 | k+1=>by
  have ih0:=impl_WorldsIn.mono_l k
  ·intro y0 y1 y2 y3
   unfold impl_WorldsIn.l0
   repeat' first
   | (with_reducible exact ih0 _ _ _ _)
   | (with_reducible exact LeO.refl _)
   | (with_reducible exact LeO.none _)
   | (with_reducible refine LeO.ite ?_ ?_)
   | (with_reducible refine LeO.bind ?_ (fun _=>?_))
   | exact ih0 _ _ _ _
   | exact LeO.none _
   | refine LeO.ite ?_ ?_
   | refine LeO.bind ?_ (fun _=>?_)
theorem impl_WorldsIn.mono : ∀ a0 a1 k,LeO (impl_WorldsIn.f k a0 a1) (impl_WorldsIn.f (k+1) a0 a1):=by
 intro a0 a1 k
 have ih0:=impl_WorldsIn.mono_l k
 unfold impl_WorldsIn.f
 repeat' first
   | (with_reducible exact ih0 _ _ _ _)
   | (with_reducible exact LeO.refl _)
   | (with_reducible exact LeO.none _)
   | (with_reducible refine LeO.ite ?_ ?_)
   | (with_reducible refine LeO.bind ?_ (fun _=>?_))
   | exact ih0 _ _ _ _
   | exact LeO.none _
   | refine LeO.ite ?_ ?_
   | refine LeO.bind ?_ (fun _=>?_)
set_option maxHeartbeats 8000000 in
set_option maxRecDepth 100000 in
theorem impl_WorldsIn.calls (k:Nat) (a0:Int) (a1:Int) (r:List Int) (w:World) (h:impl_WorldsIn.f k a0 a1=some r) :
  Calls Try.prog 34 #[.int .i64 a0,.int .i64 a1] w fun e w'=>∃ v0_:Value,e = .returned (v0_)∧Kd.R (Kd.int .i64) 3 w' w.heap.size (fun _=>True) v0_ r∧Below w.heap.size w w':=by
 have HB:=mA (Below.refl w.heap.size w)
 have H:((impl_TableOk.f a0 a1).bind fun t101=>(if t101=true then (if 0≤a0 then (impl_WorldsIn.l0 k a1 (([]:List Int)) (shl .i64 1 a0) 0) else (none)) else (some ([]:List Int))))=some r:=h
 clear h
 replace H:=Option.bind_eq_some_iff.mp H
 obtain ⟨t101,A30,H⟩:=H
 replace H:(if t101=true then (if 0≤a0 then (impl_WorldsIn.l0 k a1 (([]:List Int)) (shl .i64 1 a0) 0) else (none)) else (some ([]:List Int)))=some r:=H
 have A3:=mA A30
 clear A30
 by_cases c4:t101=true
 ·subst c4
  have H1:(if 0≤a0 then (impl_WorldsIn.l0 k a1 (([]:List Int)) (shl .i64 1 a0) 0) else (none))=some r:=by rw [if_pos rfl] at H;exact H
  clear H
  have H:=H1
  clear H1
  obtain ⟨y102,hy102⟩ : ∃ y_:List Int,y_=(([]:List Int)):=⟨_,rfl⟩
  replace H:(if 0≤a0 then (impl_WorldsIn.l0 k a1 y102 (shl .i64 1 a0) 0) else (none))=some r:=by first|(rw [hy102];with_reducible exact H)|(have H2_:=(Option.bind_some _ _).symm.trans H;rw [hy102];with_reducible exact H2_)|(have H2_:=(Option.bind_some _ _).symm.trans H;with_reducible exact H2_)|with_reducible exact H|(rw [hy102];exact H)|exact H
  have Ny102:=mA hy102
  clear hy102
  by_cases c5:0≤a0
  ·rw [if_pos c5] at H
   have c5b0:=eq_true c5
   have c5b1:decide (0≤a0)=true:=decide_eq_true c5
   clear c5
   obtain ⟨ji6,hji6⟩ : ∃ j_:Int,(shl .i64 1 a0)=j_:=⟨_,rfl⟩
   replace H:(impl_WorldsIn.l0 k a1 y102 ji6 0)=some r:=by first|(rw [hji6] at H;exact H)|(simp only [hji6] at H ⊢;exact H)
   (try rw [hji6] at A3)
   have hji6_:(IntKind.i64.wrap (1*2^min a0.toNat 64))=ji6:=hji6
   have hji6z:a0≤64→(IntKind.i64.wrap (1*2^a0.toNat))=ji6:=shl_small hji6
   have hji6u:(IntKind.i64.wrap (2^min a0.toNat 64))=ji6:=by have h_:=hji6_;rw [Int.one_mul] at h_;exact h_
   have hji6v:a0≤64→(IntKind.i64.wrap (2^a0.toNat))=ji6:=fun hle_=>by have h_:=hji6z hle_;rw [Int.one_mul] at h_;exact h_
   have hji6y:(wrap64 (1*2^min a0.toNat 64))=ji6:=(i64_w _).symm.trans hji6_
   have hji6x:a0≤64→(wrap64 (1*2^a0.toNat))=ji6:=fun h_=>(i64_w _).symm.trans (hji6z h_)
   have H':=mA H
   clear H
   go_enter Try.func34,Try.ntmps34
   go_wp2_with (first|((with_reducible refine gate_callee (f:=48) rfl ?_);refine goesL_ (some 9) rfl rfl Try.func48 (by kernel_rfl) rfl #[.int .i64 a0,.int .i64 a1] rfl (by (try simp only [mT,mC,mN]);first|done|rfl|(simp only [lD,lT];rfl)) ?_;(with_reducible refine (impl_TableOk.calls a0 a1 true _ A3.out).mono ?_);rintro e w' ⟨rfl,⟨nd,rfl⟩⟩;refine ⟨_,rfl,?_⟩)|((with_reducible refine gate_dst (N:=11) rfl ?_);refine Kd.R_lit (Kd.int .i64) _ 3 ?hg (N:=11) ?hd (xs:=([]:List Int)) (inner:=[]) (ok:=fun _=>True) (okp:=fun _=>True) ?hr ?hp (fun _ hk=>hk) trivial (Below.refl _ _) (Nat.le_refl _) (by simp) ?_;(case hd=>rfl);(case hg=>rfl);(case hr=>first|(go_simp;done)|(go_simp;rfl));(case hp=>exact (Reps.none _ _));intro v103 w7 ho8 hb hg_ hnew_;clear hg_ hnew_;(first|rw [←Ny102.out] at ho8|(simp only [Int.reduceToNat] at ho8;rw [←Ny102.out] at ho8));have n0_:=mA (rW ho8 (bZ (by repeat first|(with_reducible first|exact HB.out|apply bA|apply bN|apply bD)|exact HB.out)));have n1_:=mA (bT (by repeat first|(with_reducible first|exact HB.out|apply bA|apply bN|apply bD)|exact HB.out) hb);clear HB;have HO104:=n0_;have HB:=n1_;clear n0_ n1_ hb ho8))
   go_loopg [5,14] k (fun kq v5 v14 w'=>∃ (x5_1:List Int) (x14_1:Int),v14 = .int .i64 x14_1∧Aside0 (impl_WorldsIn.l0 kq a1 x5_1 ji6 x14_1=some r)∧Aside0 (kq≤k)∧Aside0 (Kd.R (Kd.int .i64) 3 w' w.heap.size (fun _=>True) v5 x5_1)∧Aside0 (Below w.heap.size w w'))
   case atStart=>exact ⟨(y102),(0),(by first|rfl|(simp;done)|(simp [*];done)),H',⟨Nat.le_refl _⟩,⟨by (with_reducible repeat first|apply rA|apply rN|apply rD);exact HO104.out⟩,⟨by repeat (first|(with_reducible first|exact HB.out|apply bA|apply bN|apply bD)|exact HB.out)⟩⟩
   case round =>
    clear H'
    try clear p2
    try clear c3
    try clear c4
    try clear c5
    try clear c5b0
    try clear c5b1
    try clear p6
    obtain ⟨x5_1,x14_1,rfl,HA,HK1,HO_5,HB⟩:=hrel
    cases gk with
    | zero=>exact absurd HA.out (by simp [impl_WorldsIn.l0])
    | succ k1 =>
     have H:=HA.out
     clear HA
     simp only [impl_WorldsIn.l0] at H
     by_cases c9:x14_1<ji6
     ·rw [if_pos c9] at H
      have c9b0:decide (x14_1<ji6)=true:=decide_eq_true c9
      clear c9
      by_cases c10:0≤x14_1
      ·rw [if_pos c10] at H
       have c10b0:=eq_true c10
       have c10b1:decide (0≤x14_1)=true:=decide_eq_true c10
       clear c10
       obtain ⟨ji11,hji11⟩ : ∃ j_:Int,(shr .i64 a1 x14_1)=j_:=⟨_,rfl⟩
       replace H:(if (Go.bits .and .i64 (ji11) 1)=1 then (if x5_1.length<17592186044416 then (impl_WorldsIn.l0 k1 a1 (x5_1++[x14_1]) ji6 (wrap64 (x14_1+1))) else (none)) else (impl_WorldsIn.l0 k1 a1 x5_1 ji6 (wrap64 (x14_1+1))))=some r:=by first|(rw [hji11] at H;exact H)|(simp only [hji11] at H ⊢;exact H)
       have hji11_:(a1 / 2^min x14_1.toNat 64)=ji11:=hji11
       have hji11z:x14_1≤64→(a1 / 2^x14_1.toNat)=ji11:=shr_small hji11
       by_cases c12:(Go.bits .and .i64 (ji11) 1)=1
       ·rw [if_pos c12] at H
        have c12b0:((Go.bits .and .i64 (ji11) 1)==1)=true:=beq_iff_eq.mpr c12
        have c12b1:((Go.bits .and .i64 (ji11) 1) != 1)=false:=bne_eq_false_iff_eq.mpr c12
        clear c12
        by_cases c13:x5_1.length<17592186044416
        ·rw [if_pos c13] at H
         have LMc13:=mA c13
         clear c13
         obtain ⟨y105,hy105⟩ : ∃ y_:List Int,y_=(x5_1++[x14_1]):=⟨_,rfl⟩
         replace H:(impl_WorldsIn.l0 k1 a1 y105 ji6 (wrap64 (x14_1+1)))=some r:=by first|(rw [hy105];with_reducible exact H)|(have H2_:=(Option.bind_some _ _).symm.trans H;rw [hy105];with_reducible exact H2_)|(have H2_:=(Option.bind_some _ _).symm.trans H;with_reducible exact H2_)|with_reducible exact H|(rw [hy105];exact H)|exact H
         have Ny105:=mA hy105
         clear hy105
         have H':=mA H
         clear H
         go_wp2_with (first|((with_reducible refine gate_builtin (b:=.append) (xs:=#[.tmp 22,.tmp 24]) rfl ?_);at_builtin;refine Kd.R_append (Kd.int .i64) (w0:=w) w.heap.size rfl (.tmp 22) (.tmp 24) 31 3 (.int .i64 0) 8 rfl Try.underlying31 info3 rfl (by decide) (by omega) u5 x5_1 x14_1 [.int .i64 x14_1] (fun _=>True) (fun _=>False) rfl rfl ?aP (fun _ hk=>hk.elim) ?aF ?aO ?aB ?aS ?aL ?_;(case aP=>exact rfl);(case aB=>exact (by repeat first|(with_reducible first|exact HB.out|apply bA|apply bN|apply bD)|exact HB.out));(case aF=>exact (fun _ _=>trivial));(case aO=>exact (by (with_reducible repeat first|apply rA|apply rN|apply rD);exact HO_5.out));(case aS=>exact (bZ (by repeat first|(with_reducible first|exact HB.out|apply bA|apply bN|apply bD)|exact HB.out)));(case aL=>have:=LMc13.out;omega);intro v106 w14 ho hb hg hat;rw [←Ny105.out] at ho;have n0_:=mA (hb);have n1_:=mA (ho);clear HB HO_5;have HB:=n0_;have HO107:=n1_;clear n0_ n1_ ho hb hg hat))
         go_roundg k1
         case measure=>have:=HK1.out;omega
         case rel=>exact ⟨(y105),(wrap64 (x14_1+1)),(by first|rfl|(simp;done)|(simp [*];done)),H',⟨by have:=HK1.out;omega⟩,⟨by (with_reducible repeat first|apply rA|apply rN|apply rD);exact HO107.out⟩,⟨by repeat (first|(with_reducible first|exact HB.out|apply bA|apply bN|apply bD)|exact HB.out)⟩⟩
        ·rw [if_neg c13] at H
         exact absurd H (by simp)
       ·rw [if_neg c12] at H
        have c12b0:((Go.bits .and .i64 (ji11) 1)==1)=false:=beq_eq_false_iff_ne.mpr c12
        have c12b1:((Go.bits .and .i64 (ji11) 1) != 1)=true:=bne_iff_ne.mpr c12
        have H':=mA H
        clear H
        go_wp2
        go_roundg k1
        case measure=>have:=HK1.out;omega
        case rel=>exact ⟨(x5_1),(wrap64 (x14_1+1)),(by first|rfl|(simp;done)|(simp [*];done)),H',⟨by have:=HK1.out;omega⟩,⟨by (with_reducible repeat first|apply rA|apply rN|apply rD);exact HO_5.out⟩,⟨by repeat (first|(with_reducible first|exact HB.out|apply bA|apply bN|apply bD)|exact HB.out)⟩⟩
      ·rw [if_neg c10] at H
       exact absurd H (by simp)
     ·rw [if_neg c9] at H
      have c9b0:decide (x14_1<ji6)=false:=decide_eq_false c9
      clear c9
      obtain rfl:=Option.some.inj H
      go_wp2
      go_ret
      exact ⟨_,by first|rfl|(simp [errW_none,errW_some]<;>rfl)|(simp only [←hji6];first|rfl|(simp [errW_none,errW_some]<;>rfl))|(simp [*, errW_none,errW_some]<;>rfl),by (with_reducible repeat first|apply rA|apply rN|apply rD);exact HO_5.out,by repeat (first|(with_reducible first|exact HB.out|apply bA|apply bN|apply bD)|exact HB.out)⟩
  ·rw [if_neg c5] at H
   exact absurd H (by simp)
 ·replace c4:=Bool.eq_false_iff.mpr c4
  subst c4
  have H1:(some ([]:List Int))=some r:=by rw [if_neg (show ¬ (false=true) by decide)] at H;exact H
  clear H
  have H:=H1
  clear H1
  obtain rfl:=Option.some.inj H
  go_enter Try.func34,Try.ntmps34
  go_wp2_with (first|((with_reducible refine gate_callee (f:=48) rfl ?_);refine goesL_ (some 9) rfl rfl Try.func48 (by kernel_rfl) rfl #[.int .i64 a0,.int .i64 a1] rfl (by (try simp only [mT,mC,mN]);first|done|rfl|(simp only [lD,lT];rfl)) ?_;(with_reducible refine (impl_TableOk.calls a0 a1 false _ A3.out).mono ?_);rintro e w' ⟨rfl,⟨nd,rfl⟩⟩;refine ⟨_,rfl,?_⟩))
  go_ret
  exact ⟨_,by first|rfl|(simp [errW_none,errW_some]<;>rfl)|(simp [*, errW_none,errW_some]<;>rfl),by first|exact Kd.R_nil _ _ _ _ _|exact Kd.N_nil _ _ _ _ _|exact Kd.V_nil _ _ _ _ _|exact Kd.Q_nil _ _ _ _ _|exact Kd.S_nil _ _ _ _ _,by repeat (first|(with_reducible first|exact HB.out|apply bA|apply bN|apply bD)|exact HB.out)⟩
/-! ### impl_ClaimOk: function 41 -/
def impl_ClaimOk.f (k:Nat) (a0:Int) (a1_0:Int) (l1_1:List (S59)):Option (Bool):=(impl_peopleOk.f a0).bind fun t102=>(if t102=true then (if a1_0≥0 then (if a1_0<a0 then ((impl_TermOk.f k a0 l1_1).bind fun t103=>(if t103=true then (some (decide ((l1_1.length:Int)≤13))) else (some false))) else (some false)) else (some false)) else (some false))
theorem impl_ClaimOk.mono : ∀ a0 a1 a2 k,LeO (impl_ClaimOk.f k a0 a1 a2) (impl_ClaimOk.f (k+1) a0 a1 a2):=by
 intro a0 a1 a2 k
 unfold impl_ClaimOk.f
 repeat' first
   | (with_reducible exact impl_TermOk.mono _ _ _)
   | (with_reducible exact LeO.refl _)
   | (with_reducible exact LeO.none _)
   | (with_reducible refine LeO.ite ?_ ?_)
   | (with_reducible refine LeO.bind ?_ (fun _=>?_))
   | exact impl_TermOk.mono _ _ _
   | exact LeO.none _
   | refine LeO.ite ?_ ?_
   | refine LeO.bind ?_ (fun _=>?_)
set_option maxHeartbeats 8000000 in
set_option maxRecDepth 100000 in
theorem impl_ClaimOk.calls (k:Nat) (a0:Int) (a1_0:Int) (A1_1:Option Addr) (c1_1:Nat) (l1_1:List (S59)) (r:Bool) (w:World) (hr1_1:Kd.C k59 w A1_1 l1_1.length l1_1) (hc1_1:l1_1.length≤c1_1) (h:impl_ClaimOk.f k a0 a1_0 l1_1=some r) :
  Calls Try.prog 41 #[.int .i64 a0,.agg #[.int .i64 a1_0,.slice A1_1 l1_1.length c1_1]] w fun e w'=>e = .returned (.bool r)∧Below w.heap.size w w':=by
 have hu42:=Try.underlying42
 have HR1_1:=mA hr1_1
 have HC1_1:=mA hc1_1
 clear hr1_1 hc1_1
 have HB:=mA (Below.refl w.heap.size w)
 have H:((impl_peopleOk.f a0).bind fun t102=>(if t102=true then (if a1_0≥0 then (if a1_0<a0 then ((impl_TermOk.f k a0 l1_1).bind fun t103=>(if t103=true then (some (decide ((l1_1.length:Int)≤13))) else (some false))) else (some false)) else (some false)) else (some false)))=some r:=h
 clear h
 replace H:=Option.bind_eq_some_iff.mp H
 obtain ⟨t102,A30,H⟩:=H
 replace H:(if t102=true then (if a1_0≥0 then (if a1_0<a0 then ((impl_TermOk.f k a0 l1_1).bind fun t103=>(if t103=true then (some (decide ((l1_1.length:Int)≤13))) else (some false))) else (some false)) else (some false)) else (some false))=some r:=H
 have A3:=mA A30
 clear A30
 by_cases c4:t102=true
 ·subst c4
  have H1:(if a1_0≥0 then (if a1_0<a0 then ((impl_TermOk.f k a0 l1_1).bind fun t103=>(if t103=true then (some (decide ((l1_1.length:Int)≤13))) else (some false))) else (some false)) else (some false))=some r:=by rw [if_pos rfl] at H;exact H
  clear H
  have H:=H1
  clear H1
  by_cases c5:a1_0≥0
  ·rw [if_pos c5] at H
   have c5b0:decide (0≤a1_0)=true:=decide_eq_true c5
   clear c5
   by_cases c6:a1_0<a0
   ·rw [if_pos c6] at H
    have c6b0:decide (a1_0<a0)=true:=decide_eq_true c6
    clear c6
    replace H:=Option.bind_eq_some_iff.mp H
    obtain ⟨t103,A70,H⟩:=H
    replace H:(if t103=true then (some (decide ((l1_1.length:Int)≤13))) else (some false))=some r:=H
    have A7:=mA A70
    clear A70
    by_cases c8:t103=true
    ·subst c8
     have H1:(some (decide ((l1_1.length:Int)≤13)))=some r:=by rw [if_pos rfl] at H;exact H
     clear H
     have H:=H1
     clear H1
     obtain rfl:=Option.some.inj H
     go_enter Try.func41,Try.ntmps41
     go_wp2_with (first|((with_reducible refine gate_dst (N:=3) rfl ?_);(try (refine gate_guard (by rfl) ?_;dsimp only));refine box_event ?hg (N:=3) ?hd (cs:=#[.int .i64 a1_0,.slice A1_1 l1_1.length c1_1]) (t:=42) ?hr ?_;(case hd=>rfl);(case hg=>rfl);(case hr=>first|(go_simp;done)|(go_simp;rfl));intro gb101 hg w9 hbox hb;have n0_:=mA (bT (by repeat first|(with_reducible first|exact HB.out|apply bA|apply bN|apply bD)|exact HB.out) hb);have n1_:=mA (hbox);have n2_:=mA ((by rw [hg];exact (bZ (by repeat first|(with_reducible first|exact HB.out|apply bA|apply bN|apply bD)|exact HB.out)):w.heap.size≤gb101));have n3_:=mA ((by rw [hg];exact (bZ (by repeat first|(with_reducible first|exact HB.out|apply bA|apply bN|apply bD)|exact HB.out)):w.heap.size≤gb101));clear HB;have HB:=n0_;have BK101:=n1_;have GW101:=n2_;have GE101:=n3_;clear n0_ n1_ n2_ n3_ hb hbox hg)|((with_reducible refine gate_callee (f:=42) rfl ?_);refine goesL_ (some 6) rfl rfl Try.func42 (by kernel_rfl) rfl #[.int .i64 a0] rfl (by (try simp only [mT,mC,mN]);first|done|rfl|(simp only [lD,lT];rfl)) ?_;(with_reducible refine (impl_peopleOk.calls a0 true _ A3.out).mono ?_);rintro e w' ⟨rfl,⟨nd,rfl⟩⟩;refine ⟨_,rfl,?_⟩;have hcz10_0:w9.cell? ⟨gb101,0,none⟩=some (.int .i64 a1_0):=(kC BK101.out 0).trans rfl;have hcz10_1:w9.cell? ⟨gb101,1,none⟩=some (.slice A1_1 l1_1.length c1_1):=(kC BK101.out 1).trans rfl;have hfz10_0:=kF BK101.out 0;have hfz10_1:=kF BK101.out 1)|(go_at_call 52;(with_reducible refine (impl_TermOk.calls k a0 _ _ l1_1 true _ ?side1 ?side2 A7.out).mono ?_);(case side1=>repeat (first|exact (Kd.C_below HR1_1.out (by repeat first|(with_reducible first|exact HB.out|apply bA|apply bN|apply bD|refine bS ?_ GE101.out)|exact HB.out))|(with_reducible refine cA ?_ _)|(with_reducible refine cN ?_ _)|(with_reducible refine cD ?_)));(case side2=>exact HC1_1.out);rintro e w11 ⟨rfl,hb⟩;have n0_:=mA (kB (g:=gb101) (o:=.cells #[.int .i64 a1_0,.slice A1_1 l1_1.length c1_1] 42 (0,0)) (by (with_reducible repeat first|refine kN ?_ _|refine kD ?_|refine kA ?_ _);exact BK101.out) hb);have n1_:=mA (bT (by repeat first|(with_reducible first|exact HB.out|apply bA|apply bN|apply bD|refine bS ?_ GE101.out)|exact HB.out) hb);clear BK101 HB;have BK101:=n0_;have HB:=n1_;clear n0_ n1_;(try clear hb);(try clear hb2);(try clear hk);(try clear hi);have hcz12_0:w11.cell? ⟨gb101,0,none⟩=some (.int .i64 a1_0):=(kC BK101.out 0).trans rfl;have hcz12_1:w11.cell? ⟨gb101,1,none⟩=some (.slice A1_1 l1_1.length c1_1):=(kC BK101.out 1).trans rfl;have hfz12_0:=kF BK101.out 0;have hfz12_1:=kF BK101.out 1))
     go_ret
     exact ⟨by first|rfl|(simp [errW_none,errW_some]<;>rfl)|(simp [*, errW_none,errW_some]<;>rfl),by repeat (first|(with_reducible first|exact HB.out|apply bA|apply bN|apply bD|refine bS ?_ GE101.out)|exact HB.out)⟩
    ·replace c8:=Bool.eq_false_iff.mpr c8
     subst c8
     have H1:(some false)=some r:=by rw [if_neg (show ¬ (false=true) by decide)] at H;exact H
     clear H
     have H:=H1
     clear H1
     obtain rfl:=Option.some.inj H
     go_enter Try.func41,Try.ntmps41
     go_wp2_with (first|((with_reducible refine gate_dst (N:=3) rfl ?_);(try (refine gate_guard (by rfl) ?_;dsimp only));refine box_event ?hg (N:=3) ?hd (cs:=#[.int .i64 a1_0,.slice A1_1 l1_1.length c1_1]) (t:=42) ?hr ?_;(case hd=>rfl);(case hg=>rfl);(case hr=>first|(go_simp;done)|(go_simp;rfl));intro gb101 hg w13 hbox hb;have n0_:=mA (bT (by repeat first|(with_reducible first|exact HB.out|apply bA|apply bN|apply bD)|exact HB.out) hb);have n1_:=mA (hbox);have n2_:=mA ((by rw [hg];exact (bZ (by repeat first|(with_reducible first|exact HB.out|apply bA|apply bN|apply bD)|exact HB.out)):w.heap.size≤gb101));have n3_:=mA ((by rw [hg];exact (bZ (by repeat first|(with_reducible first|exact HB.out|apply bA|apply bN|apply bD)|exact HB.out)):w.heap.size≤gb101));clear HB;have HB:=n0_;have BK101:=n1_;have GW101:=n2_;have GE101:=n3_;clear n0_ n1_ n2_ n3_ hb hbox hg)|((with_reducible refine gate_callee (f:=42) rfl ?_);refine goesL_ (some 6) rfl rfl Try.func42 (by kernel_rfl) rfl #[.int .i64 a0] rfl (by (try simp only [mT,mC,mN]);first|done|rfl|(simp only [lD,lT];rfl)) ?_;(with_reducible refine (impl_peopleOk.calls a0 true _ A3.out).mono ?_);rintro e w' ⟨rfl,⟨nd,rfl⟩⟩;refine ⟨_,rfl,?_⟩;have hcz14_0:w13.cell? ⟨gb101,0,none⟩=some (.int .i64 a1_0):=(kC BK101.out 0).trans rfl;have hcz14_1:w13.cell? ⟨gb101,1,none⟩=some (.slice A1_1 l1_1.length c1_1):=(kC BK101.out 1).trans rfl;have hfz14_0:=kF BK101.out 0;have hfz14_1:=kF BK101.out 1)|(go_at_call 52;(with_reducible refine (impl_TermOk.calls k a0 _ _ l1_1 false _ ?side1 ?side2 A7.out).mono ?_);(case side1=>repeat (first|exact (Kd.C_below HR1_1.out (by repeat first|(with_reducible first|exact HB.out|apply bA|apply bN|apply bD|refine bS ?_ GE101.out)|exact HB.out))|(with_reducible refine cA ?_ _)|(with_reducible refine cN ?_ _)|(with_reducible refine cD ?_)));(case side2=>exact HC1_1.out);rintro e w15 ⟨rfl,hb⟩;have n0_:=mA (kB (g:=gb101) (o:=.cells #[.int .i64 a1_0,.slice A1_1 l1_1.length c1_1] 42 (0,0)) (by (with_reducible repeat first|refine kN ?_ _|refine kD ?_|refine kA ?_ _);exact BK101.out) hb);have n1_:=mA (bT (by repeat first|(with_reducible first|exact HB.out|apply bA|apply bN|apply bD|refine bS ?_ GE101.out)|exact HB.out) hb);clear BK101 HB;have BK101:=n0_;have HB:=n1_;clear n0_ n1_;(try clear hb);(try clear hb2);(try clear hk);(try clear hi)))
     go_ret
     exact ⟨by first|rfl|(simp [errW_none,errW_some]<;>rfl)|(simp [*, errW_none,errW_some]<;>rfl),by repeat (first|(with_reducible first|exact HB.out|apply bA|apply bN|apply bD|refine bS ?_ GE101.out)|exact HB.out)⟩
   ·rw [if_neg c6] at H
    have c6b0:decide (a1_0<a0)=false:=decide_eq_false c6
    clear c6
    obtain rfl:=Option.some.inj H
    go_enter Try.func41,Try.ntmps41
    go_wp2_with (first|((with_reducible refine gate_dst (N:=3) rfl ?_);(try (refine gate_guard (by rfl) ?_;dsimp only));refine box_event ?hg (N:=3) ?hd (cs:=#[.int .i64 a1_0,.slice A1_1 l1_1.length c1_1]) (t:=42) ?hr ?_;(case hd=>rfl);(case hg=>rfl);(case hr=>first|(go_simp;done)|(go_simp;rfl));intro gb101 hg w16 hbox hb;have n0_:=mA (bT (by repeat first|(with_reducible first|exact HB.out|apply bA|apply bN|apply bD)|exact HB.out) hb);have n1_:=mA (hbox);have n2_:=mA ((by rw [hg];exact (bZ (by repeat first|(with_reducible first|exact HB.out|apply bA|apply bN|apply bD)|exact HB.out)):w.heap.size≤gb101));have n3_:=mA ((by rw [hg];exact (bZ (by repeat first|(with_reducible first|exact HB.out|apply bA|apply bN|apply bD)|exact HB.out)):w.heap.size≤gb101));clear HB;have HB:=n0_;have BK101:=n1_;have GW101:=n2_;have GE101:=n3_;clear n0_ n1_ n2_ n3_ hb hbox hg)|((with_reducible refine gate_callee (f:=42) rfl ?_);refine goesL_ (some 6) rfl rfl Try.func42 (by kernel_rfl) rfl #[.int .i64 a0] rfl (by (try simp only [mT,mC,mN]);first|done|rfl|(simp only [lD,lT];rfl)) ?_;(with_reducible refine (impl_peopleOk.calls a0 true _ A3.out).mono ?_);rintro e w' ⟨rfl,⟨nd,rfl⟩⟩;refine ⟨_,rfl,?_⟩;have hcz17_0:w16.cell? ⟨gb101,0,none⟩=some (.int .i64 a1_0):=(kC BK101.out 0).trans rfl;have hcz17_1:w16.cell? ⟨gb101,1,none⟩=some (.slice A1_1 l1_1.length c1_1):=(kC BK101.out 1).trans rfl;have hfz17_0:=kF BK101.out 0;have hfz17_1:=kF BK101.out 1))
    go_ret
    exact ⟨by first|rfl|(simp [errW_none,errW_some]<;>rfl)|(simp [*, errW_none,errW_some]<;>rfl),by repeat (first|(with_reducible first|exact HB.out|apply bA|apply bN|apply bD|refine bS ?_ GE101.out)|exact HB.out)⟩
  ·rw [if_neg c5] at H
   have c5b0:decide (0≤a1_0)=false:=decide_eq_false c5
   clear c5
   obtain rfl:=Option.some.inj H
   go_enter Try.func41,Try.ntmps41
   go_wp2_with (first|((with_reducible refine gate_dst (N:=3) rfl ?_);(try (refine gate_guard (by rfl) ?_;dsimp only));refine box_event ?hg (N:=3) ?hd (cs:=#[.int .i64 a1_0,.slice A1_1 l1_1.length c1_1]) (t:=42) ?hr ?_;(case hd=>rfl);(case hg=>rfl);(case hr=>first|(go_simp;done)|(go_simp;rfl));intro gb101 hg w18 hbox hb;have n0_:=mA (bT (by repeat first|(with_reducible first|exact HB.out|apply bA|apply bN|apply bD)|exact HB.out) hb);have n1_:=mA (hbox);have n2_:=mA ((by rw [hg];exact (bZ (by repeat first|(with_reducible first|exact HB.out|apply bA|apply bN|apply bD)|exact HB.out)):w.heap.size≤gb101));have n3_:=mA ((by rw [hg];exact (bZ (by repeat first|(with_reducible first|exact HB.out|apply bA|apply bN|apply bD)|exact HB.out)):w.heap.size≤gb101));clear HB;have HB:=n0_;have BK101:=n1_;have GW101:=n2_;have GE101:=n3_;clear n0_ n1_ n2_ n3_ hb hbox hg)|((with_reducible refine gate_callee (f:=42) rfl ?_);refine goesL_ (some 6) rfl rfl Try.func42 (by kernel_rfl) rfl #[.int .i64 a0] rfl (by (try simp only [mT,mC,mN]);first|done|rfl|(simp only [lD,lT];rfl)) ?_;(with_reducible refine (impl_peopleOk.calls a0 true _ A3.out).mono ?_);rintro e w' ⟨rfl,⟨nd,rfl⟩⟩;refine ⟨_,rfl,?_⟩;have hcz19_0:w18.cell? ⟨gb101,0,none⟩=some (.int .i64 a1_0):=(kC BK101.out 0).trans rfl;have hcz19_1:w18.cell? ⟨gb101,1,none⟩=some (.slice A1_1 l1_1.length c1_1):=(kC BK101.out 1).trans rfl;have hfz19_0:=kF BK101.out 0;have hfz19_1:=kF BK101.out 1))
   go_ret
   exact ⟨by first|rfl|(simp [errW_none,errW_some]<;>rfl)|(simp [*, errW_none,errW_some]<;>rfl),by repeat (first|(with_reducible first|exact HB.out|apply bA|apply bN|apply bD|refine bS ?_ GE101.out)|exact HB.out)⟩
 ·replace c4:=Bool.eq_false_iff.mpr c4
  subst c4
  have H1:(some false)=some r:=by rw [if_neg (show ¬ (false=true) by decide)] at H;exact H
  clear H
  have H:=H1
  clear H1
  obtain rfl:=Option.some.inj H
  go_enter Try.func41,Try.ntmps41
  go_wp2_with (first|((with_reducible refine gate_dst (N:=3) rfl ?_);(try (refine gate_guard (by rfl) ?_;dsimp only));refine box_event ?hg (N:=3) ?hd (cs:=#[.int .i64 a1_0,.slice A1_1 l1_1.length c1_1]) (t:=42) ?hr ?_;(case hd=>rfl);(case hg=>rfl);(case hr=>first|(go_simp;done)|(go_simp;rfl));intro gb101 hg w20 hbox hb;have n0_:=mA (bT (by repeat first|(with_reducible first|exact HB.out|apply bA|apply bN|apply bD)|exact HB.out) hb);have n1_:=mA (hbox);have n2_:=mA ((by rw [hg];exact (bZ (by repeat first|(with_reducible first|exact HB.out|apply bA|apply bN|apply bD)|exact HB.out)):w.heap.size≤gb101));have n3_:=mA ((by rw [hg];exact (bZ (by repeat first|(with_reducible first|exact HB.out|apply bA|apply bN|apply bD)|exact HB.out)):w.heap.size≤gb101));clear HB;have HB:=n0_;have BK101:=n1_;have GW101:=n2_;have GE101:=n3_;clear n0_ n1_ n2_ n3_ hb hbox hg)|((with_reducible refine gate_callee (f:=42) rfl ?_);refine goesL_ (some 6) rfl rfl Try.func42 (by kernel_rfl) rfl #[.int .i64 a0] rfl (by (try simp only [mT,mC,mN]);first|done|rfl|(simp only [lD,lT];rfl)) ?_;(with_reducible refine (impl_peopleOk.calls a0 false _ A3.out).mono ?_);rintro e w' ⟨rfl,⟨nd,rfl⟩⟩;refine ⟨_,rfl,?_⟩))
  go_ret
  exact ⟨by first|rfl|(simp [errW_none,errW_some]<;>rfl)|(simp [*, errW_none,errW_some]<;>rfl),by repeat (first|(with_reducible first|exact HB.out|apply bA|apply bN|apply bD|refine bS ?_ GE101.out)|exact HB.out)⟩
/-! ### impl_StoryOk: function 25 -/
def impl_StoryOk.l0:Nat→Int→List (S42)→List (S42)→Int→Int→Option (Bool)
 | 0,_,_,_,_,_=>none
 | k+1,x0,x1,x7,x8,x9=>if x9<x8 then (if 0≤x9 then (if x9<(x7.length:Int) then ((impl_ClaimOk.f k x0 ((rd_T42 x7 x9).f0) ((rd_T42 x7 x9).f1)).bind fun t103=>(if t103=true then (impl_StoryOk.l0 k x0 x1 x7 x8 (wrap64 (x9+1))) else (some false))) else (none)) else (none)) else ((impl_peopleOk.f x0).bind fun t104=>(if t104=true then (some (decide ((x1.length:Int)≤6))) else (some false)))
def impl_StoryOk.f (k:Nat) (a0:Int) (l1:List (S42)):Option (Bool):=impl_StoryOk.l0 k a0 l1 l1 (l1.length:Int) 0
theorem impl_StoryOk.mono_l : ∀ k,(∀ y0 y1 y2 y3 y4,LeO (impl_StoryOk.l0 k y0 y1 y2 y3 y4) (impl_StoryOk.l0 (k+1) y0 y1 y2 y3 y4))
 | 0=>fun _ _ _ _ _ r h=>by simp [impl_StoryOk.l0] at h
 | k+1=>by
  have ih0:=impl_StoryOk.mono_l k
  ·intro y0 y1 y2 y3 y4
   unfold impl_StoryOk.l0
   repeat' first
   | (with_reducible exact ih0 _ _ _ _ _)
   | (with_reducible exact impl_ClaimOk.mono _ _ _ _)
   | (with_reducible exact LeO.refl _)
   | (with_reducible exact LeO.none _)
   | (with_reducible refine LeO.ite ?_ ?_)
   | (with_reducible refine LeO.bind ?_ (fun _=>?_))
   | exact ih0 _ _ _ _ _
   | exact impl_ClaimOk.mono _ _ _ _
   | exact LeO.none _
   | refine LeO.ite ?_ ?_
   | refine LeO.bind ?_ (fun _=>?_)
theorem impl_StoryOk.mono : ∀ a0 a1 k,LeO (impl_StoryOk.f k a0 a1) (impl_StoryOk.f (k+1) a0 a1):=by
 intro a0 a1 k
 have ih0:=impl_StoryOk.mono_l k
 unfold impl_StoryOk.f
 repeat' first
   | (with_reducible exact ih0 _ _ _ _ _)
   | (with_reducible exact impl_ClaimOk.mono _ _ _ _)
   | (with_reducible exact LeO.refl _)
   | (with_reducible exact LeO.none _)
   | (with_reducible refine LeO.ite ?_ ?_)
   | (with_reducible refine LeO.bind ?_ (fun _=>?_))
   | exact ih0 _ _ _ _ _
   | exact impl_ClaimOk.mono _ _ _ _
   | exact LeO.none _
   | refine LeO.ite ?_ ?_
   | refine LeO.bind ?_ (fun _=>?_)
set_option maxHeartbeats 8000000 in
set_option maxRecDepth 100000 in
theorem impl_StoryOk.calls (k:Nat) (a0:Int) (A1:Option Addr) (c1:Nat) (l1:List (S42)) (r:Bool) (w:World) (hr1:Kd.C k42 w A1 l1.length l1) (hc1:l1.length≤c1) (h:impl_StoryOk.f k a0 l1=some r) :
  Calls Try.prog 25 #[.int .i64 a0,.slice A1 l1.length c1] w fun e w'=>e = .returned (.bool r)∧Below w.heap.size w w':=by
 have hu42:=Try.underlying42
 have HR1:=mA hr1
 have HC1:=mA hc1
 clear hr1 hc1
 have HB:=mA (Below.refl w.heap.size w)
 have H:(impl_StoryOk.l0 k a0 l1 l1 (l1.length:Int) 0)=some r:=h
 clear h
 have H':=mA H
 clear H
 go_enter Try.func25,Try.ntmps25
 go_wp2
 go_loopg [9] k (fun kq v9 w'=>∃ (x9_1:Int),v9 = .int .i64 x9_1∧Aside0 (impl_StoryOk.l0 kq a0 l1 l1 (l1.length:Int) x9_1=some r)∧Aside0 (kq≤k)∧Aside0 (Below w.heap.size w w'))
 case atStart=>exact ⟨(0),(by first|rfl|(simp;done)|(simp [*];done)),H',⟨Nat.le_refl _⟩,⟨by repeat (first|(with_reducible first|exact HB.out|apply bA|apply bN|apply bD)|exact HB.out)⟩⟩
 case round =>
  clear H'
  try clear c1
  try clear c2
  try clear p2
  obtain ⟨x9_1,rfl,HA,HK1,HB⟩:=hrel
  cases gk with
  | zero=>exact absurd HA.out (by simp [impl_StoryOk.l0])
  | succ k1 =>
   have H:=HA.out
   clear HA
   simp only [impl_StoryOk.l0] at H
   by_cases c3:x9_1<(l1.length:Int)
   ·rw [if_pos c3] at H
    have c3b0:decide (x9_1<(l1.length:Int))=true:=decide_eq_true c3
    clear c3
    by_cases c4:0≤x9_1
    ·rw [if_pos c4] at H
     have c4b0:decide (0≤x9_1)=true:=decide_eq_true c4
     clear c4
     by_cases c5:x9_1<(l1.length:Int)
     ·rw [if_pos c5] at H
      have c5b0:decide (x9_1<(l1.length:Int))=true:=decide_eq_true c5
      clear c5
      replace H:=Option.bind_eq_some_iff.mp H
      obtain ⟨t103,A60,H⟩:=H
      replace H:(if t103=true then (impl_StoryOk.l0 k1 a0 l1 l1 (l1.length:Int) (wrap64 (x9_1+1))) else (some false))=some r:=H
      have A6:=mA A60
      clear A60
      by_cases c7:t103=true
      ·subst c7
       have H1:(impl_StoryOk.l0 k1 a0 l1 l1 (l1.length:Int) (wrap64 (x9_1+1)))=some r:=by rw [if_pos rfl] at H;exact H
       clear H
       have H:=H1
       clear H1
       have H':=mA H
       clear H
       have p101:0≤(x9_1:Int):=of_decide_eq_true (by first|with_reducible assumption|assumption)
       have q101:x9_1<(l1.length:Int):=of_decide_eq_true (by first|with_reducible assumption|assumption)
       obtain ⟨ad101,A101_1,c101_1,e101,hx101_0,hx101_1,hl101_1,hi101_1⟩:=at_T42 HR1.out x9_1 p101 q101
       cases e101
       replace hx101_0:=(HB.out.cell (World.block_lt_of_cell? w _ hx101_0)).trans hx101_0
       replace hx101_1:=(HB.out.cell (World.block_lt_of_cell? w _ hx101_1)).trans hx101_1
       have HR101_1:=mA hi101_1
       have HC101_1:=mA hl101_1
       clear hi101_1 hl101_1
       replace p101:=eq_true p101
       replace q101:=eq_true q101
       go_wp2_with (first|((with_reducible refine gate_dst (N:=6) rfl ?_);(try (refine gate_guard (by rfl) ?_;dsimp only));refine box_event ?hg (N:=6) ?hd (cs:=#[.int .i64 0,.slice none 0 0]) (t:=42) ?hr ?_;(case hd=>rfl);(case hg=>rfl);(case hr=>first|(go_simp;done)|(go_simp;rfl));intro gb102 hg w8 hbox hb;have n0_:=mA (bT (by repeat first|(with_reducible first|exact HB.out|apply bA|apply bN|apply bD)|exact HB.out) hb);have n1_:=mA (hbox);have n2_:=mA ((by rw [hg];exact (bZ (by repeat first|(with_reducible first|exact HB.out|apply bA|apply bN|apply bD)|exact HB.out)):w.heap.size≤gb102));have n3_:=mA ((by rw [hg];exact (bZ (by repeat first|(with_reducible first|exact HB.out|apply bA|apply bN|apply bD)|exact HB.out)):w.heap.size≤gb102));clear HB;have HB:=n0_;have BK102:=n1_;have GW102:=n2_;have GE102:=n3_;clear n0_ n1_ n2_ n3_ hb hbox hg;have hcz9_0:w8.cell? ⟨gb102,0,none⟩=some (.int .i64 0):=(kC BK102.out 0).trans rfl;have hcz9_1:w8.cell? ⟨gb102,1,none⟩=some (.slice none 0 0):=(kC BK102.out 1).trans rfl;have hfz9_0:=kF BK102.out 0;have hfz9_1:=kF BK102.out 1)|((with_reducible refine gate_callee (f:=41) rfl ?_);refine goesL_ (some 15) rfl rfl Try.func41 (by kernel_rfl) rfl #[.int .i64 a0,.agg #[.int .i64 ((rd_T42 l1 x9_1).f0),.slice A101_1 ((rd_T42 l1 x9_1).f1).length c101_1]] rfl (by (try simp only [mT,mC,mN]);first|done|rfl|(simp only [lD,lT];rfl)) ?_;(with_reducible refine (impl_ClaimOk.calls k1 a0 ((rd_T42 l1 x9_1).f0) _ _ ((rd_T42 l1 x9_1).f1) true _ ?side1 ?side2 A6.out).mono ?_);(case side1=>exact Kd.C_below HR101_1.out (by repeat first|(with_reducible first|exact HB.out|apply bA|apply bN|apply bD|refine bS ?_ GE102.out)|exact HB.out));(case side2=>exact HC101_1.out);rintro e w10 ⟨rfl,hb⟩;refine ⟨_,rfl,?_⟩;have n0_:=mA (kB (g:=gb102) (o:=.cells #[.int .i64 ((rd_T42 l1 x9_1).f0),.slice A101_1 ((rd_T42 l1 x9_1).f1).length c101_1] 42 (0,0)) (by (with_reducible repeat first|refine kN ?_ _|refine kD ?_|refine kA ?_ _);refine kP (cs:=#[.int .i64 ((rd_T42 l1 x9_1).f0),.slice none 0 0]) ?_ 1 _ rfl;(with_reducible repeat first|refine kN ?_ _|refine kD ?_|refine kA ?_ _);refine kP (cs:=#[.int .i64 0,.slice none 0 0]) ?_ 0 _ rfl;(with_reducible repeat first|refine kN ?_ _|refine kD ?_|refine kA ?_ _);exact BK102.out) hb);have n1_:=mA (bT (by repeat first|(with_reducible first|exact HB.out|apply bA|apply bN|apply bD|refine bS ?_ GE102.out)|exact HB.out) hb);clear BK102 HB;have BK102:=n0_;have HB:=n1_;clear n0_ n1_;(try clear hb);(try clear hb2);(try clear hk);(try clear hi)))
       go_roundg k1
       case measure=>have:=HK1.out;omega
       case rel=>exact ⟨(wrap64 (x9_1+1)),(by first|rfl|(simp;done)|(simp [*];done)),H',⟨by have:=HK1.out;omega⟩,⟨by repeat (first|(with_reducible first|exact HB.out|apply bA|apply bN|apply bD|refine bS ?_ GE102.out)|exact HB.out)⟩⟩
      ·replace c7:=Bool.eq_false_iff.mpr c7
       subst c7
       have H1:(some false)=some r:=by rw [if_neg (show ¬ (false=true) by decide)] at H;exact H
       clear H
       have H:=H1
       clear H1
       obtain rfl:=Option.some.inj H
       have p101:0≤(x9_1:Int):=of_decide_eq_true (by first|with_reducible assumption|assumption)
       have q101:x9_1<(l1.length:Int):=of_decide_eq_true (by first|with_reducible assumption|assumption)
       obtain ⟨ad101,A101_1,c101_1,e101,hx101_0,hx101_1,hl101_1,hi101_1⟩:=at_T42 HR1.out x9_1 p101 q101
       cases e101
       replace hx101_0:=(HB.out.cell (World.block_lt_of_cell? w _ hx101_0)).trans hx101_0
       replace hx101_1:=(HB.out.cell (World.block_lt_of_cell? w _ hx101_1)).trans hx101_1
       have HR101_1:=mA hi101_1
       have HC101_1:=mA hl101_1
       clear hi101_1 hl101_1
       replace p101:=eq_true p101
       replace q101:=eq_true q101
       go_wp2_with (first|((with_reducible refine gate_dst (N:=6) rfl ?_);(try (refine gate_guard (by rfl) ?_;dsimp only));refine box_event ?hg (N:=6) ?hd (cs:=#[.int .i64 0,.slice none 0 0]) (t:=42) ?hr ?_;(case hd=>rfl);(case hg=>rfl);(case hr=>first|(go_simp;done)|(go_simp;rfl));intro gb102 hg w11 hbox hb;have n0_:=mA (bT (by repeat first|(with_reducible first|exact HB.out|apply bA|apply bN|apply bD)|exact HB.out) hb);have n1_:=mA (hbox);have n2_:=mA ((by rw [hg];exact (bZ (by repeat first|(with_reducible first|exact HB.out|apply bA|apply bN|apply bD)|exact HB.out)):w.heap.size≤gb102));have n3_:=mA ((by rw [hg];exact (bZ (by repeat first|(with_reducible first|exact HB.out|apply bA|apply bN|apply bD)|exact HB.out)):w.heap.size≤gb102));clear HB;have HB:=n0_;have BK102:=n1_;have GW102:=n2_;have GE102:=n3_;clear n0_ n1_ n2_ n3_ hb hbox hg;have hcz12_0:w11.cell? ⟨gb102,0,none⟩=some (.int .i64 0):=(kC BK102.out 0).trans rfl;have hcz12_1:w11.cell? ⟨gb102,1,none⟩=some (.slice none 0 0):=(kC BK102.out 1).trans rfl;have hfz12_0:=kF BK102.out 0;have hfz12_1:=kF BK102.out 1)|((with_reducible refine gate_callee (f:=41) rfl ?_);refine goesL_ (some 15) rfl rfl Try.func41 (by kernel_rfl) rfl #[.int .i64 a0,.agg #[.int .i64 ((rd_T42 l1 x9_1).f0),.slice A101_1 ((rd_T42 l1 x9_1).f1).length c101_1]] rfl (by (try simp only [mT,mC,mN]);first|done|rfl|(simp only [lD,lT];rfl)) ?_;(with_reducible refine (impl_ClaimOk.calls k1 a0 ((rd_T42 l1 x9_1).f0) _ _ ((rd_T42 l1 x9_1).f1) false _ ?side1 ?side2 A6.out).mono ?_);(case side1=>exact Kd.C_below HR101_1.out (by repeat first|(with_reducible first|exact HB.out|apply bA|apply bN|apply bD|refine bS ?_ GE102.out)|exact HB.out));(case side2=>exact HC101_1.out);rintro e w13 ⟨rfl,hb⟩;refine ⟨_,rfl,?_⟩;have n0_:=mA (kB (g:=gb102) (o:=.cells #[.int .i64 ((rd_T42 l1 x9_1).f0),.slice A101_1 ((rd_T42 l1 x9_1).f1).length c101_1] 42 (0,0)) (by (with_reducible repeat first|refine kN ?_ _|refine kD ?_|refine kA ?_ _);refine kP (cs:=#[.int .i64 ((rd_T42 l1 x9_1).f0),.slice none 0 0]) ?_ 1 _ rfl;(with_reducible repeat first|refine kN ?_ _|refine kD ?_|refine kA ?_ _);refine kP (cs:=#[.int .i64 0,.slice none 0 0]) ?_ 0 _ rfl;(with_reducible repeat first|refine kN ?_ _|refine kD ?_|refine kA ?_ _);exact BK102.out) hb);have n1_:=mA (bT (by repeat first|(with_reducible first|exact HB.out|apply bA|apply bN|apply bD|refine bS ?_ GE102.out)|exact HB.out) hb);clear BK102 HB;have BK102:=n0_;have HB:=n1_;clear n0_ n1_;(try clear hb);(try clear hb2);(try clear hk);(try clear hi)))
       go_ret
       exact ⟨by first|rfl|(simp [errW_none,errW_some]<;>rfl)|(simp [*, errW_none,errW_some]<;>rfl),by repeat (first|(with_reducible first|exact HB.out|apply bA|apply bN|apply bD|refine bS ?_ GE102.out)|exact HB.out)⟩
     ·rw [if_neg c5] at H
      exact absurd H (by simp)
    ·rw [if_neg c4] at H
     exact absurd H (by simp)
   ·rw [if_neg c3] at H
    have c3b0:decide (x9_1<(l1.length:Int))=false:=decide_eq_false c3
    clear c3
    replace H:=Option.bind_eq_some_iff.mp H
    obtain ⟨t104,A140,H⟩:=H
    replace H:(if t104=true then (some (decide ((l1.length:Int)≤6))) else (some false))=some r:=H
    have A14:=mA A140
    clear A140
    by_cases c15:t104=true
    ·subst c15
     have H1:(some (decide ((l1.length:Int)≤6)))=some r:=by rw [if_pos rfl] at H;exact H
     clear H
     have H:=H1
     clear H1
     obtain rfl:=Option.some.inj H
     go_wp2_with (first|((with_reducible refine gate_callee (f:=42) rfl ?_);refine goesL_ (some 19) rfl rfl Try.func42 (by kernel_rfl) rfl #[.int .i64 a0] rfl (by (try simp only [mT,mC,mN]);first|done|rfl|(simp only [lD,lT];rfl)) ?_;(with_reducible refine (impl_peopleOk.calls a0 true _ A14.out).mono ?_);rintro e w' ⟨rfl,⟨nd,rfl⟩⟩;refine ⟨_,rfl,?_⟩))
     go_ret
     exact ⟨by first|rfl|(simp [errW_none,errW_some]<;>rfl)|(simp [*, errW_none,errW_some]<;>rfl),by repeat (first|(with_reducible first|exact HB.out|apply bA|apply bN|apply bD)|exact HB.out)⟩
    ·replace c15:=Bool.eq_false_iff.mpr c15
     subst c15
     have H1:(some false)=some r:=by rw [if_neg (show ¬ (false=true) by decide)] at H;exact H
     clear H
     have H:=H1
     clear H1
     obtain rfl:=Option.some.inj H
     go_wp2_with (first|((with_reducible refine gate_callee (f:=42) rfl ?_);refine goesL_ (some 19) rfl rfl Try.func42 (by kernel_rfl) rfl #[.int .i64 a0] rfl (by (try simp only [mT,mC,mN]);first|done|rfl|(simp only [lD,lT];rfl)) ?_;(with_reducible refine (impl_peopleOk.calls a0 false _ A14.out).mono ?_);rintro e w' ⟨rfl,⟨nd,rfl⟩⟩;refine ⟨_,rfl,?_⟩))
     go_ret
     exact ⟨by first|rfl|(simp [errW_none,errW_some]<;>rfl)|(simp [*, errW_none,errW_some]<;>rfl),by repeat (first|(with_reducible first|exact HB.out|apply bA|apply bN|apply bD)|exact HB.out)⟩
/-! ### impl_tableBy: function 53, over any function value -/
def impl_tableBy.l0 (F:Nat→Int→Option Bool):Nat→Int→Int→Int→Option (Int)
 | 0,_,_,_=>none
 | k+1,x5,x8,x9=>if x9<x8 then ((F k x9).bind fun t308=>(if t308=true then (if 0≤x9 then (impl_tableBy.l0 F k (Go.bits .or .i64 x5 (shl .i64 1 x9)) x8 (wrap64 (x9+1))) else (none)) else (impl_tableBy.l0 F k x5 x8 (wrap64 (x9+1))))) else (some x5)
def impl_tableBy.f (F:Nat→Int→Option Bool) (k:Nat) (a0:Int):Option (Int):=if 0≤a0 then (impl_tableBy.l0 F k 0 (shl .i64 1 a0) 0) else (none)
theorem impl_tableBy.mono_l {F:Nat→Int→Option Bool} (hF : ∀ k x,LeO (F k x) (F (k+1) x)) : ∀ k,(∀ y0 y1 y2,LeO (impl_tableBy.l0 F k y0 y1 y2) (impl_tableBy.l0 F (k+1) y0 y1 y2))
 | 0=>fun _ _ _ r h=>by simp [impl_tableBy.l0] at h
 | k+1=>by
  have ih0:=impl_tableBy.mono_l hF k
  ·intro y0 y1 y2
   unfold impl_tableBy.l0
   repeat' first
   | (with_reducible exact ih0 _ _ _)
   | (with_reducible exact hF _ _)
   | (with_reducible exact LeO.refl _)
   | (with_reducible exact LeO.none _)
   | (with_reducible refine LeO.ite ?_ ?_)
   | (with_reducible refine LeO.bind ?_ (fun _=>?_))
theorem impl_tableBy.mono {F:Nat→Int→Option Bool} (hF : ∀ k x,LeO (F k x) (F (k+1) x)) (a0:Int) (k:Nat):LeO (impl_tableBy.f F k a0) (impl_tableBy.f F (k+1) a0):=by
 have ih0:=impl_tableBy.mono_l hF k
 unfold impl_tableBy.f
 repeat' first
   | (with_reducible exact ih0 _ _ _)
   | (with_reducible exact LeO.none _)
   | (with_reducible refine LeO.ite ?_ ?_)
set_option maxHeartbeats 8000000 in
set_option maxRecDepth 100000 in
theorem impl_tableBy.calls (F : Nat → Int → Option Bool) {CF : FuncId} {fn : Func} (hf : Try.prog.funcs[CF]? = some fn) (hname : (fn.name == "runtime.NumGoroutine") = false) (hbody : fn.body.isSome = true) (CB : Array Value) (k : Nat) (a0 : Int) (r : Int) (w : World)
  (hF : ∀ (k:Nat) (x:Int) (b:Bool) (W:World),Below w.heap.size w W→F k x=some b→Calls Try.prog CF (#[.int .i64 x]++CB) W fun e w'=>e = .returned (.bool b)∧Below W.heap.size W w')
  (h:impl_tableBy.f F k a0=some r) :
  Calls Try.prog 53 #[.int .i64 a0,.func (.func CF) #[] CB] w fun e w'=>e = .returned (.int .i64 r)∧Below w.heap.size w w':=by
 have hcf : ∀ (args:Array Value) (W:World),(callFunc CF args).run Try.prog W = .ok (.enter CF args) W:=fun args W=>enters_ hf hname hbody args W
 have HB:=mA (Below.refl w.heap.size w)
 have H:(if 0≤a0 then (impl_tableBy.l0 F k 0 (shl .i64 1 a0) 0) else (none))=some r:=h
 clear h
 by_cases c3:0≤a0
 ·rw [if_pos c3] at H
  have c3b0:=eq_true c3
  have c3b1:decide (0≤a0)=true:=decide_eq_true c3
  clear c3
  obtain ⟨ji4,hji4⟩ : ∃ j_:Int,(shl .i64 1 a0)=j_:=⟨_,rfl⟩
  replace H:(impl_tableBy.l0 F k 0 ji4 0)=some r:=by rw [hji4] at H;exact H
  have hji4_:(IntKind.i64.wrap (1*2^min a0.toNat 64))=ji4:=hji4
  have hji4z:a0≤64→(IntKind.i64.wrap (1*2^a0.toNat))=ji4:=shl_small hji4
  have hji4u:(IntKind.i64.wrap (2^min a0.toNat 64))=ji4:=by have h_:=hji4_;rw [Int.one_mul] at h_;exact h_
  have hji4v:a0≤64→(IntKind.i64.wrap (2^a0.toNat))=ji4:=fun hle_=>by have h_:=hji4z hle_;rw [Int.one_mul] at h_;exact h_
  have hji4y:(wrap64 (1*2^min a0.toNat 64))=ji4:=(i64_w _).symm.trans hji4_
  have hji4x:a0≤64→(wrap64 (1*2^a0.toNat))=ji4:=fun h_=>(i64_w _).symm.trans (hji4z h_)
  have H':=mA H
  clear H
  go_enter Try.func53,Try.ntmps53
  go_wp2
  go_loopg [5,9] k (fun kq v5 v9 w'=>∃ (x5_1:Int) (x9_1:Int),v5 = .int .i64 x5_1∧v9 = .int .i64 x9_1∧Aside0 (impl_tableBy.l0 F kq x5_1 ji4 x9_1=some r)∧Aside0 (kq≤k)∧Aside0 (Below w.heap.size w w'))
  case atStart=>exact ⟨(0),(0),(by first|rfl|(simp;done)|(simp [*];done)),(by first|rfl|(simp;done)|(simp [*];done)),H',⟨Nat.le_refl _⟩,⟨(by repeat first|(with_reducible first|exact HB.out|apply bA|apply bN|apply bD)|exact HB.out)⟩⟩
  case round =>
   clear H'
   try clear c1
   try clear p2
   try clear c3
   try clear c3b0
   try clear c3b1
   obtain ⟨x5_1,x9_1,rfl,rfl,HA,HK1,HB⟩:=hrel
   cases gk with
   | zero=>exact absurd HA.out (by simp [impl_tableBy.l0])
   | succ k1 =>
    have H:=HA.out
    clear HA
    simp only [impl_tableBy.l0] at H
    by_cases c5:x9_1<ji4
    ·rw [if_pos c5] at H
     have c5b0:decide (x9_1<ji4)=true:=decide_eq_true c5
     clear c5
     replace H:=Option.bind_eq_some_iff.mp H
     obtain ⟨t308,A60,H⟩:=H
     replace H:(if t308=true then (if 0≤x9_1 then (impl_tableBy.l0 F k1 (Go.bits .or .i64 x5_1 (shl .i64 1 x9_1)) ji4 (wrap64 (x9_1+1))) else (none)) else (impl_tableBy.l0 F k1 x5_1 ji4 (wrap64 (x9_1+1))))=some r:=H
     have A6:=mA A60
     clear A60
     by_cases c7:t308=true
     ·subst c7
      have H1:(if 0≤x9_1 then (impl_tableBy.l0 F k1 (Go.bits .or .i64 x5_1 (shl .i64 1 x9_1)) ji4 (wrap64 (x9_1+1))) else (none))=some r:=by rw [if_pos rfl] at H;exact H
      clear H
      have H:=H1
      clear H1
      by_cases c8:0≤x9_1
      ·rw [if_pos c8] at H
       have c8b0:=eq_true c8
       have c8b1:decide (0≤x9_1)=true:=decide_eq_true c8
       clear c8
       obtain ⟨ji9,hji9⟩ : ∃ j_:Int,(shl .i64 1 x9_1)=j_:=⟨_,rfl⟩
       replace H:(impl_tableBy.l0 F k1 (Go.bits .or .i64 x5_1 (ji9)) ji4 (wrap64 (x9_1+1)))=some r:=by first|(rw [hji9] at H;exact H)|(simp only [hji9] at H ⊢;exact H)
       have hji9_:(IntKind.i64.wrap (1*2^min x9_1.toNat 64))=ji9:=hji9
       have hji9z:x9_1≤64→(IntKind.i64.wrap (1*2^x9_1.toNat))=ji9:=shl_small hji9
       have hji9u:(IntKind.i64.wrap (2^min x9_1.toNat 64))=ji9:=by have h_:=hji9_;rw [Int.one_mul] at h_;exact h_
       have hji9v:x9_1≤64→(IntKind.i64.wrap (2^x9_1.toNat))=ji9:=fun hle_=>by have h_:=hji9z hle_;rw [Int.one_mul] at h_;exact h_
       have hji9y:(wrap64 (1*2^min x9_1.toNat 64))=ji9:=(i64_w _).symm.trans hji9_
       have hji9x:x9_1≤64→(wrap64 (1*2^x9_1.toNat))=ji9:=fun h_=>(i64_w _).symm.trans (hji9z h_)
       have H':=mA H
       clear H
       go_wp2_with (first|((with_reducible refine (hF k1 x9_1 true _ ?sideB A6.out).mono ?_);(case sideB=>exact (by repeat first|(with_reducible first|exact HB.out|apply bA|apply bN|apply bD)|exact HB.out));rintro e w10 ⟨rfl,hb⟩;have n0_:=mA (bT (by repeat first|(with_reducible first|exact HB.out|apply bA|apply bN|apply bD)|exact HB.out) hb);clear HB;have HB:=n0_;clear n0_;(try clear hb)))
       go_roundg k1
       case measure=>have:=HK1.out;omega
       case rel=>exact ⟨(Go.bits .or .i64 x5_1 (ji9)),(wrap64 (x9_1+1)),(by first|rfl|(simp;done)|(simp only [←hji9]<;>(first|rfl|simp))|(simp [*];done)),(by first|rfl|(simp;done)|(simp [*];done)),H',⟨by have:=HK1.out;omega⟩,⟨(by repeat first|(with_reducible first|exact HB.out|apply bA|apply bN|apply bD)|exact HB.out)⟩⟩
      ·rw [if_neg c8] at H
       exact absurd H (by simp)
     ·replace c7:=Bool.eq_false_iff.mpr c7
      subst c7
      have H1:(impl_tableBy.l0 F k1 x5_1 ji4 (wrap64 (x9_1+1)))=some r:=by rw [if_neg (show ¬ (false=true) by decide)] at H;exact H
      clear H
      have H:=H1
      clear H1
      have H':=mA H
      clear H
      go_wp2_with (first|((with_reducible refine (hF k1 x9_1 false _ ?sideB A6.out).mono ?_);(case sideB=>exact (by repeat first|(with_reducible first|exact HB.out|apply bA|apply bN|apply bD)|exact HB.out));rintro e w10 ⟨rfl,hb⟩;have n0_:=mA (bT (by repeat first|(with_reducible first|exact HB.out|apply bA|apply bN|apply bD)|exact HB.out) hb);clear HB;have HB:=n0_;clear n0_;(try clear hb)))
      go_roundg k1
      case measure=>have:=HK1.out;omega
      case rel=>exact ⟨(x5_1),(wrap64 (x9_1+1)),(by first|rfl|(simp;done)|(simp [*];done)),(by first|rfl|(simp;done)|(simp [*];done)),H',⟨by have:=HK1.out;omega⟩,⟨(by repeat first|(with_reducible first|exact HB.out|apply bA|apply bN|apply bD)|exact HB.out)⟩⟩
    ·rw [if_neg c5] at H
     have c5b0:decide (x9_1<ji4)=false:=decide_eq_false c5
     clear c5
     obtain rfl:=Option.some.inj H
     go_wp2
     go_ret
     exact ⟨by first|rfl|(simp;done)|(simp only [←hji4];rfl)|(simp [*];done),(by repeat first|(with_reducible first|exact HB.out|apply bA|apply bN|apply bD)|exact HB.out)⟩
 ·rw [if_neg c3] at H
  exact absurd H (by simp)
/-! ### impl_maySay: function 55 -/
def impl_maySay.f (k:Nat) (a0_0:Int) (l0_1:List (S59)) (a1:Int):Option (Bool):=(impl_holds.f k l0_1 a1).bind fun t102=>(if 0≤a0_0 then (some (t102==((Go.bits .and .i64 (shr .i64 a1 a0_0) 1)==1))) else (none))
theorem impl_maySay.mono : ∀ a0 a1 a2 k,LeO (impl_maySay.f k a0 a1 a2) (impl_maySay.f (k+1) a0 a1 a2):=by
 intro a0 a1 a2 k
 unfold impl_maySay.f
 repeat' first
   | (with_reducible exact impl_holds.mono _ _ _)
   | (with_reducible exact LeO.refl _)
   | (with_reducible exact LeO.none _)
   | (with_reducible refine LeO.ite ?_ ?_)
   | (with_reducible refine LeO.bind ?_ (fun _=>?_))
   | exact impl_holds.mono _ _ _
   | exact LeO.none _
   | refine LeO.ite ?_ ?_
   | refine LeO.bind ?_ (fun _=>?_)
def impl_maySay.T1:Bool×List (List Nat×List Nat):=(true,[([],[]),([0],[0]),([],[]),([1,2],[1,2]),([],[]),([],[]),([5],[5]),([4,6],[4,6]),([7],[7]),([8],[8]),([3,9],[3,9]),([10,3,0,1,2,3,4,5,6,7,8,9,10],[10])])
def impl_maySay.B1:List Nat:=[0,1,0,7,0,0,32,112,240,496,1023,2047]
theorem impl_maySay.tab1:rtab .any (opsOf Try.f55 1)=impl_maySay.T1:=by kernel_rfl
theorem impl_maySay.bits1:waitsOk impl_maySay.T1.2 impl_maySay.B1=true:=by kernel_rfl
set_option maxHeartbeats 8000000 in
set_option maxRecDepth 100000 in
theorem impl_maySay.calls (k:Nat) (a0_0:Int) (A0_1:Option Addr) (c0_1:Nat) (l0_1:List (S59)) (a1:Int) (r:Bool) (w:World) (hr0_1:Kd.C k59 w A0_1 l0_1.length l0_1) (hc0_1:l0_1.length≤c0_1) (h:impl_maySay.f k a0_0 l0_1 a1=some r) :
  Calls Try.prog 55 #[.agg #[.int .i64 a0_0,.slice A0_1 l0_1.length c0_1],.int .i64 a1] w fun e w'=>e = .returned (.bool r)∧Below w.heap.size w w':=by
 have hu42:=Try.underlying42
 have HR0_1:=mA hr0_1
 have HC0_1:=mA hc0_1
 clear hr0_1 hc0_1
 have HB:=mA (Below.refl w.heap.size w)
 have H:((impl_holds.f k l0_1 a1).bind fun t102=>(if 0≤a0_0 then (some (t102==((Go.bits .and .i64 (shr .i64 a1 a0_0) 1)==1))) else (none)))=some r:=h
 clear h
 replace H:=Option.bind_eq_some_iff.mp H
 obtain ⟨t102,A30,H⟩:=H
 replace H:(if 0≤a0_0 then (some (t102==((Go.bits .and .i64 (shr .i64 a1 a0_0) 1)==1))) else (none))=some r:=H
 have A3:=mA A30
 clear A30
 by_cases c4:0≤a0_0
 ·rw [if_pos c4] at H
  have c4b0:=eq_true c4
  have c4b1:decide (0≤a0_0)=true:=decide_eq_true c4
  clear c4
  obtain ⟨ji5,hji5⟩ : ∃ j_:Int,(shr .i64 a1 a0_0)=j_:=⟨_,rfl⟩
  replace H:(some (t102==((Go.bits .and .i64 (ji5) 1)==1)))=some r:=by first|(rw [hji5] at H;exact H)|(simp only [hji5] at H ⊢;exact H)
  (try rw [hji5] at A3)
  have hji5_:(a1 / 2^min a0_0.toNat 64)=ji5:=hji5
  have hji5z:a0_0≤64→(a1 / 2^a0_0.toNat)=ji5:=shr_small hji5
  obtain rfl:=Option.some.inj H
  go_enter Try.func55,Try.ntmps55
  try go_wp2_with (first|((with_reducible refine gate_dst (N:=2) rfl ?_);refine box_event ?hg (N:=2) ?hd (cs:=#[.int .i64 a0_0,.slice A0_1 l0_1.length c0_1]) (t:=42) ?hr ?_;(case hd=>rfl);(case hg=>rfl);(case hr=>first|(go_simp;done)|(go_simp;rfl));intro gb101 hg w6 hbox hb;have n0_:=mA (bT (by repeat first|(with_reducible first|exact HB.out|apply bA|apply bN|apply bD)|exact HB.out) hb);have n1_:=mA (hbox);have n2_:=mA ((by rw [hg];exact (bZ (by repeat first|(with_reducible first|exact HB.out|apply bA|apply bN|apply bD)|exact HB.out)):w.heap.size≤gb101));have n3_:=mA ((by rw [hg];exact (bZ (by repeat first|(with_reducible first|exact HB.out|apply bA|apply bN|apply bD)|exact HB.out)):w.heap.size≤gb101));clear HB;have HB:=n0_;have BK101:=n1_;have GW101:=n2_;have GE101:=n3_;clear n0_ n1_ n2_ n3_ hb hbox hg))
  have n0_:=mA (kD BK101.out)
  have n1_:=mA (bD HB.out)
  clear BK101
  clear HB
  have BK101:=n0_
  have HB:=n1_
  clear n0_ n1_
  refine start_ (n:=12) (S:=fun w'=>w'.cell? ⟨gb101,0,none⟩=some (.int .i64 a0_0)∧w'.cell? ⟨gb101,1,none⟩=some (.slice A0_1 l0_1.length c0_1)) (ds:=[]) #[O,O,O,O,O,O,O,O,O,O,O,O] (by kernel_rfl) rfl rfl ⟨(kC BK101.out 0).trans rfl,(kC BK101.out 1).trans rfl⟩ (fun hHeld=>?_);refine with_tabW impl_maySay.tab1 impl_maySay.bits1 (fun HT_ HW_=>?_)
  generalize w6.drew=w7 at BK101 HB hHeld ⊢
  refine pure_ (i:=0) (N:=some 5) (v:=?_) (a':=?_) #[I,O,O,O,O,O,O,O,O,O,O,O] rfl rfl (any_of HT_.out (by kernel_rfl)) (fun _ _ _ h=>h) (Or.inl ⟨by rfl,?_⟩) ?_ ?_
  rotate_left
  ·intro w'
   go_simp
   with_reducible rfl
  rotate_left
  ·simp only [Act.put,sA,sZ,sS,i64_w,i32_w]
   rfl
  refine pure_ (i:=2) (N:=some 7) (v:=?_) (a':=?_) #[I,O,I,O,O,O,O,O,O,O,O,O] rfl rfl (any_of HT_.out (by kernel_rfl)) (fun _ _ _ h=>h) (Or.inl ⟨by rfl,?_⟩) ?_ ?_
  rotate_left
  ·intro w'
   go_simp
   with_reducible rfl
  rotate_left
  ·simp only [Act.put,sA,sZ,sS,i64_w,i32_w]
   rfl
  refine pure_ (i:=4) (N:=some 9) (v:=?_) (a':=?_) #[I,O,I,O,I,O,O,O,O,O,O,O] rfl rfl (any_of HT_.out (by kernel_rfl)) (fun _ _ _ h=>h) (Or.inl ⟨by rfl,?_⟩) ?_ ?_
  rotate_left
  ·intro w'
   go_simp
   with_reducible rfl
  rotate_left
  ·simp only [Act.put,sA,sZ,sS,i64_w,i32_w]
   rfl
  refine pure_ (i:=5) (N:=some 10) (v:=?_) (a':=?_) #[I,O,I,O,I,I,O,O,O,O,O,O] rfl rfl (any_of HT_.out (by kernel_rfl)) (fun _ _ _ h=>h) (Or.inl ⟨by rfl,?_⟩) ?_ ?_
  rotate_left
  ·intro w'
   go_simp
   with_reducible rfl
  rotate_left
  ·simp only [Act.put,sA,sZ,sS,i64_w,i32_w]
   rfl
  refine take_ (i:=1) (N:=some 6) (v:=?_) (a':=?_) #[I,I,I,O,I,I,O,O,O,O,O,O] rfl rfl (take_ofW HT_.out HW_.out (by kernel_rfl)) (fun _ _ _ h=>h) (Or.inl ⟨by rfl,?_⟩) hHeld ?_ ?_
  rotate_left
  ·rintro w' ⟨s0,s1⟩
   go_simp
   with_reducible rfl
  rotate_left
  ·simp only [Act.put,sA,sZ,sS,i64_w,i32_w]
   rfl
  refine take_ (i:=6) (N:=some 11) (v:=?_) (a':=?_) #[I,I,I,O,I,I,I,O,O,O,O,O] rfl rfl (take_ofW HT_.out HW_.out (by kernel_rfl)) (fun _ _ _ h=>h) (Or.inl ⟨by rfl,?_⟩) hHeld ?_ ?_
  rotate_left
  ·rintro w' ⟨s0,s1⟩
   go_simp
   with_reducible rfl
  rotate_left
  ·simp only [Act.put,sA,sZ,sS,i64_w,i32_w]
   rfl
  refine pure_ (i:=7) (N:=some 12) (v:=?_) (a':=?_) #[I,I,I,O,I,I,I,I,O,O,O,O] rfl rfl (any_of HT_.out (by kernel_rfl)) (fun _ _ _ h=>h) (Or.inl ⟨by rfl,?_⟩) ?_ ?_
  rotate_left
  ·intro w'
   go_simp
   with_reducible rfl
  rotate_left
  ·simp only [Act.put,sA,sZ,sS,i64_w,i32_w]
   rfl
  refine pure_ (i:=8) (N:=some 13) (v:=?_) (a':=?_) #[I,I,I,O,I,I,I,I,I,O,O,O] rfl rfl (any_of HT_.out (by kernel_rfl)) (fun _ _ _ h=>h) (Or.inl ⟨by rfl,?_⟩) ?_ ?_
  rotate_left
  ·intro w'
   go_simp
   with_reducible rfl
  rotate_left
  ·simp only [Act.put,sA,sZ,sS,i64_w,i32_w]
   rfl
  refine pure_ (i:=9) (N:=some 14) (v:=?_) (a':=?_) #[I,I,I,O,I,I,I,I,I,I,O,O] rfl rfl (any_of HT_.out (by kernel_rfl)) (fun _ _ _ h=>h) (Or.inl ⟨by rfl,?_⟩) ?_ ?_
  rotate_left
  ·intro w'
   go_simp
   with_reducible rfl
  rotate_left
  ·simp only [Act.put,sA,sZ,sS,i64_w,i32_w]
   rfl
  refine one_ (i:=3) (N:=some 8) #[I,I,I,I,I,I,I,I,I,I,O,O] rfl rfl (one_of HT_.out (by kernel_rfl)) (by decide) (fun K hK=>?_)
  refine goes_ Try.func58 (by kernel_rfl) rfl #[.slice A0_1 l0_1.length c0_1,.int .i64 a1] (by rfl) rfl rfl (by (try simp only [mT,mC,mN]);first|done|rfl|(simp only [lD,lT];rfl)) ?_
  with_reducible refine (impl_holds.calls k _ _ l0_1 a1 t102 _ ?side1 ?side2 A3.out).mono ?_
  (case side1=>repeat first|exact (Kd.C_below HR0_1.out HB.out)|(with_reducible refine cA ?_ _)|(with_reducible refine cN ?_ _)|(with_reducible refine cD ?_))
  (case side2=>exact HC0_1.out)
  rintro e w8 ⟨rfl,hb⟩
  refine ⟨_,rfl,?_⟩
  have n0_:=mA (kB (g:=gb101) (o:=.cells #[.int .i64 a0_0,.slice A0_1 l0_1.length c0_1] 42 (0,0)) (by (with_reducible repeat first|refine kN ?_ _|refine kD ?_|refine kA ?_ _);exact BK101.out) hb)
  have n1_:=mA (bT (by repeat first|(with_reducible first|exact HB.out|apply bA|apply bN|apply bD|refine bS ?_ GE101.out)|exact HB.out) hb)
  clear BK101
  clear HB
  have BK101:=n0_
  have HB:=n1_
  clear n0_ n1_
  (try clear hb)
  (try clear hb2)
  (try clear hk)
  (try clear hi)
  refine hK.out _ _ ⟨(kC BK101.out 0).trans rfl,(kC BK101.out 1).trans rfl⟩ (fun hHeld=>?_)
  clear hK K
  refine norm_ (a':=?_) ?_ ?_
  rotate_left
  ·show Act.put _ (some 8) _=_
   simp only [Act.put,sA,sZ,sS,i64_w,i32_w]
   rfl
  refine pure_ (i:=10) (N:=some 15) (v:=?_) (a':=?_) #[I,I,I,I,I,I,I,I,I,I,I,O] rfl rfl (any_of HT_.out (by kernel_rfl)) (fun _ _ _ h=>h) (Or.inl ⟨by rfl,?_⟩) ?_ ?_
  rotate_left
  ·intro w'
   go_simp
   with_reducible rfl
  rotate_left
  ·simp only [Act.put,sA,sZ,sS,i64_w,i32_w]
   rfl
  refine pure_ (i:=11) (N:=some 4) (v:=?_) (a':=?_) #[I,I,I,I,I,I,I,I,I,I,I,I] rfl rfl (any_of HT_.out (by kernel_rfl)) (fun _ _ _ h=>h) (Or.inl ⟨by rfl,?_⟩) ?_ ?_
  rotate_left
  ·intro w'
   go_simp
   with_reducible rfl
  rotate_left
  ·simp only [Act.put,sA,sZ,sS,i64_w,i32_w]
   rfl
  refine done_ (done_of HT_.out (by kernel_rfl)) ?_
  try go_wp2
  go_ret
  exact ⟨by first|rfl|(simp [errW_none,errW_some]<;>rfl)|(simp only [←hji5];first|rfl|(simp [errW_none,errW_some]<;>rfl))|(simp [*, errW_none,errW_some]<;>rfl),by repeat (first|(with_reducible first|exact HB.out|apply bA|apply bN|apply bD|refine bS ?_ GE101.out)|exact HB.out)⟩
 ·rw [if_neg c4] at H
  exact absurd H (by simp)
/-! ### impl_ClaimTable: function 45; what it hands to tableBy: function 54 -/
def impl_ClaimTable.f (k:Nat) (a0:Int) (a1_0:Int) (l1:List (S59)):Option (Int):=(impl_ClaimOk.f k a0 a1_0 l1).bind fun t=>(if t=true then (impl_tableBy.f (fun k_ x_=>impl_maySay.f k_ a1_0 l1 x_) k a0) else (some (-1)))
theorem impl_ClaimTable.mono : ∀ a0 a1_0 l1 k,LeO (impl_ClaimTable.f k a0 a1_0 l1) (impl_ClaimTable.f (k+1) a0 a1_0 l1):=by
 intro a0 a1_0 l1 k
 unfold impl_ClaimTable.f
 refine LeO.bind (impl_ClaimOk.mono _ _ _ _) (fun _=>?_)
 refine LeO.ite ?_ (LeO.refl _)
 exact impl_tableBy.mono (fun k x=>impl_maySay.mono _ _ _ _) _ _
set_option maxHeartbeats 8000000 in
set_option maxRecDepth 100000 in
theorem impl_ClaimTable.calls_1 (k:Nat) (a1_0:Int) (A1:Option Addr) (c1:Nat) (l1:List (S59)) (gb1:Nat) (x:Int) (b:Bool) (w:World) (hg:w.heap[gb1]?=some (.cells #[.int .i64 a1_0,.slice A1 l1.length c1] 42 (0,0))) (hr1:Kd.C k59 w A1 l1.length l1) (hc1:l1.length≤c1) (h:impl_maySay.f k a1_0 l1 x=some b) :
  Calls Try.prog 54 #[.int .i64 x,.pointer (some ⟨gb1,0,none⟩)] w fun e w'=>e = .returned (.bool b)∧Below w.heap.size w w':=by
 have hu42:=Try.underlying42
 have HR1:=mA hr1
 have HC1:=mA hc1
 clear hr1 hc1
 have HB:=mA (Below.refl w.heap.size w)
 have A6:=mA h
 clear h
 have hcz0:w.cell? ⟨gb1,0,none⟩=some (.int .i64 a1_0):=(kC hg 0).trans rfl
 have hfz0:=kF hg 0
 have hcz1:w.cell? ⟨gb1,1,none⟩=some (.slice A1 l1.length c1):=(kC hg 1).trans rfl
 have hfz1:=kF hg 1
 clear hg
 go_enter Try.func54,Try.ntmps54
 go_wp2_with (first|((with_reducible refine gate_callee (f:=55) rfl ?_);refine goesL_ (some 6) rfl rfl Try.func55 (by kernel_rfl) rfl #[.agg #[.int .i64 a1_0,.slice A1 l1.length c1],.int .i64 x] rfl (by (try simp only [mT,mC,mN]);first|done|rfl) ?_;(with_reducible refine (impl_maySay.calls k a1_0 _ _ l1 x b _ ?side1 ?side2 A6.out).mono ?_);(case side1=>repeat first|exact (Kd.C_below HR1.out HB.out)|(with_reducible refine cA ?_ _)|(with_reducible refine cN ?_ _)|(with_reducible refine cD ?_));(case side2=>exact HC1.out);  rintro e w12 ⟨rfl,hb⟩;refine ⟨_,rfl,?_⟩;have n0_:=mA (bT (by repeat first|(with_reducible first|exact HB.out|apply bA|apply bN|apply bD)|exact HB.out) hb);clear HB;have HB:=n0_;clear n0_;(try clear hb)))
 go_ret
 exact ⟨rfl,(by repeat first|(with_reducible first|exact HB.out|apply bA|apply bN|apply bD)|exact HB.out)⟩
set_option maxHeartbeats 8000000 in
set_option maxRecDepth 100000 in
theorem impl_ClaimTable.calls (k:Nat) (a0:Int) (a1_0:Int) (A1:Option Addr) (c1:Nat) (l1:List (S59)) (r:Int) (w:World) (hr1:Kd.C k59 w A1 l1.length l1) (hc1:l1.length≤c1) (h:impl_ClaimTable.f k a0 a1_0 l1=some r) :
  Calls Try.prog 45 #[.int .i64 a0,.agg #[.int .i64 a1_0,.slice A1 l1.length c1]] w fun e w'=>e = .returned (.int .i64 r)∧Below w.heap.size w w':=by
 have hu42:=Try.underlying42
 have HR1:=mA hr1
 have HC1:=mA hc1
 clear hr1 hc1
 have HB:=mA (Below.refl w.heap.size w)
 have H:((impl_ClaimOk.f k a0 a1_0 l1).bind fun t=>(if t=true then (impl_tableBy.f (fun k_ x_=>impl_maySay.f k_ a1_0 l1 x_) k a0) else (some (-1))))=some r:=h
 clear h
 obtain ⟨t,A10,H⟩:=Option.bind_eq_some_iff.mp H
 have A1_:=mA A10
 clear A10
 have hmf : ∀ (fn:Fn) (first cap:Array Value) (w:World),(Instr.makeFunc fn first cap).run Try.prog w = .ok (.func fn first cap) w:=fun _ _ _ _=>rfl
 cases t with
 | false =>
  have hr_:r = -1:=by simpa using H.symm
  subst hr_
  clear H
  go_enter Try.func45,Try.ntmps45
  go_wp2_with (first|((with_reducible refine gate_dst (N:=3) rfl ?_);refine box_event ?hg (N:=3) ?hd (cs:=#[.int .i64 a1_0,.slice A1 l1.length c1]) (t:=42) ?hr ?_;(case hd=>rfl);(case hg=>rfl);(case hr=>first|(go_simp;done)|(go_simp;rfl));intro gb1 hg w3 hbox hb;have n0_:=mA (bT (by repeat first|(with_reducible first|exact HB.out|apply bA|apply bN|apply bD)|exact HB.out) hb);have n1_:=mA (hbox);clear HB;have HB:=n0_;have BK1:=n1_;clear n0_ n1_ hb hbox hg;have hcz0:w3.cell? ⟨gb1,0,none⟩=some (.int .i64 a1_0):=(kC BK1.out 0).trans rfl;have hfz0:=kF BK1.out 0;have hcz1:w3.cell? ⟨gb1,1,none⟩=some (.slice A1 l1.length c1):=(kC BK1.out 1).trans rfl;have hfz1:=kF BK1.out 1)|((with_reducible refine gate_callee (f:=41) rfl ?_);refine goesL_ (some 7) rfl rfl Try.func41 (by kernel_rfl) rfl #[.int .i64 a0,.agg #[.int .i64 a1_0,.slice A1 l1.length c1]] rfl (by (try simp only [mT,mC,mN]);first|done|rfl) ?_;(with_reducible refine (impl_ClaimOk.calls k a0 a1_0 _ _ l1 false _ ?side1 ?side2 A1_.out).mono ?_);(case side1=>repeat first|exact (Kd.C_below HR1.out HB.out)|(with_reducible refine cA ?_ _)|(with_reducible refine cN ?_ _)|(with_reducible refine cD ?_));(case side2=>exact HC1.out);  rintro e w12 ⟨rfl,hb⟩;refine ⟨_,rfl,?_⟩;have m0_:=mA (kB BK1.out hb);clear BK1;have BK1:=m0_;clear m0_;have n0_:=mA (bT (by repeat first|(with_reducible first|exact HB.out|apply bA|apply bN|apply bD)|exact HB.out) hb);clear HB;have HB:=n0_;clear n0_;(try clear hb)))
  go_ret
  exact ⟨rfl,(by repeat first|(with_reducible first|exact HB.out|apply bA|apply bN|apply bD)|exact HB.out)⟩
 | true =>
  replace H:=mA (show impl_tableBy.f (fun k_ x_=>impl_maySay.f k_ a1_0 l1 x_) k a0=some r from H)
  go_enter Try.func45,Try.ntmps45
  go_wp2_with (first|((with_reducible refine gate_dst (N:=3) rfl ?_);refine box_event ?hg (N:=3) ?hd (cs:=#[.int .i64 a1_0,.slice A1 l1.length c1]) (t:=42) ?hr ?_;(case hd=>rfl);(case hg=>rfl);(case hr=>first|(go_simp;done)|(go_simp;rfl));intro gb1 hg w3 hbox hb;have n0_:=mA (bT (by repeat first|(with_reducible first|exact HB.out|apply bA|apply bN|apply bD)|exact HB.out) hb);have n1_:=mA (hbox);clear HB;have HB:=n0_;have BK1:=n1_;clear n0_ n1_ hb hbox hg;have hcz0:w3.cell? ⟨gb1,0,none⟩=some (.int .i64 a1_0):=(kC BK1.out 0).trans rfl;have hfz0:=kF BK1.out 0;have hcz1:w3.cell? ⟨gb1,1,none⟩=some (.slice A1 l1.length c1):=(kC BK1.out 1).trans rfl;have hfz1:=kF BK1.out 1)|((with_reducible refine gate_callee (f:=41) rfl ?_);refine goesL_ (some 7) rfl rfl Try.func41 (by kernel_rfl) rfl #[.int .i64 a0,.agg #[.int .i64 a1_0,.slice A1 l1.length c1]] rfl (by (try simp only [mT,mC,mN]);first|done|rfl) ?_;(with_reducible refine (impl_ClaimOk.calls k a0 a1_0 _ _ l1 true _ ?side1 ?side2 A1_.out).mono ?_);(case side1=>repeat first|exact (Kd.C_below HR1.out HB.out)|(with_reducible refine cA ?_ _)|(with_reducible refine cN ?_ _)|(with_reducible refine cD ?_));(case side2=>exact HC1.out);  rintro e w12 ⟨rfl,hb⟩;refine ⟨_,rfl,?_⟩;have m0_:=mA (kB BK1.out hb);clear BK1;have BK1:=m0_;clear m0_;have n0_:=mA (bT (by repeat first|(with_reducible first|exact HB.out|apply bA|apply bN|apply bD)|exact HB.out) hb);clear HB;have HB:=n0_;clear n0_;(try clear hb))|((with_reducible refine gate_callee (f:=53) rfl ?_);refine goesL_ (some 11) rfl rfl Try.func53 (by kernel_rfl) rfl #[.int .i64 a0,.func (.func 54) #[] #[.pointer (some ⟨gb1,0,none⟩)]] rfl (by (try simp only [mT,mC,mN]);first|done|rfl) ?_;(with_reducible refine (impl_tableBy.calls (fun k_ x_=>impl_maySay.f k_ a1_0 l1 x_) Try.func54 (by kernel_rfl) rfl #[.pointer (some ⟨gb1,0,none⟩)] k a0 r _ ?hF H.out).mono ?_);(case hF=>exact fun k x b W hb h=>impl_ClaimTable.calls_1 k a1_0 _ _ l1 gb1 x b W (kB BK1.out hb) (Kd.C_below (Kd.C_below HR1.out HB.out) hb) HC1.out h);  rintro e w12 ⟨rfl,hb⟩;refine ⟨_,rfl,?_⟩;have n0_:=mA (bT (by repeat first|(with_reducible first|exact HB.out|apply bA|apply bN|apply bD)|exact HB.out) hb);clear HB;have HB:=n0_;clear n0_;(try clear hb)))
  go_ret
  exact ⟨rfl,(by repeat first|(with_reducible first|exact HB.out|apply bA|apply bN|apply bD)|exact HB.out)⟩
/-! ### impl_storyTable: function 28 -/
def impl_storyTable.l0:Nat→Int→Int→List (S42)→Int→Int→Option (Int)
 | 0,_,_,_,_,_=>none
 | k+1,x0,x5,x12,x13,x14=>if x14<x13 then (if 0≤x14 then (if x14<(x12.length:Int) then ((impl_ClaimTable.f k x0 ((rd_T42 x12 x14).f0) ((rd_T42 x12 x14).f1)).bind fun t103=>(impl_storyTable.l0 k x0 (Go.bits .and .i64 x5 t103) x12 x13 (wrap64 (x14+1)))) else (none)) else (none)) else (some x5)
def impl_storyTable.f (k:Nat) (a0:Int) (l1:List (S42)):Option (Int):=if 0≤a0 then (impl_storyTable.l0 k a0 (wrap64 ((shl .i64 1 (shl .u64 1 a0))-1)) l1 (l1.length:Int) 0) else (none)
theorem impl_storyTable.mono_l : ∀ k,(∀ y0 y1 y2 y3 y4,LeO (impl_storyTable.l0 k y0 y1 y2 y3 y4) (impl_storyTable.l0 (k+1) y0 y1 y2 y3 y4))
 | 0=>fun _ _ _ _ _ r h=>by simp [impl_storyTable.l0] at h
 | k+1=>by
  have ih0:=impl_storyTable.mono_l k
  ·intro y0 y1 y2 y3 y4
   unfold impl_storyTable.l0
   repeat' first
   | (with_reducible exact ih0 _ _ _ _ _)
   | (with_reducible exact impl_ClaimTable.mono _ _ _ _)
   | (with_reducible exact LeO.refl _)
   | (with_reducible exact LeO.none _)
   | (with_reducible refine LeO.ite ?_ ?_)
   | (with_reducible refine LeO.bind ?_ (fun _=>?_))
   | exact ih0 _ _ _ _ _
   | exact impl_ClaimTable.mono _ _ _ _
   | exact LeO.none _
   | refine LeO.ite ?_ ?_
   | refine LeO.bind ?_ (fun _=>?_)
theorem impl_storyTable.mono : ∀ a0 a1 k,LeO (impl_storyTable.f k a0 a1) (impl_storyTable.f (k+1) a0 a1):=by
 intro a0 a1 k
 have ih0:=impl_storyTable.mono_l k
 unfold impl_storyTable.f
 repeat' first
   | (with_reducible exact ih0 _ _ _ _ _)
   | (with_reducible exact impl_ClaimTable.mono _ _ _ _)
   | (with_reducible exact LeO.refl _)
   | (with_reducible exact LeO.none _)
   | (with_reducible refine LeO.ite ?_ ?_)
   | (with_reducible refine LeO.bind ?_ (fun _=>?_))
   | exact ih0 _ _ _ _ _
   | exact impl_ClaimTable.mono _ _ _ _
   | exact LeO.none _
   | refine LeO.ite ?_ ?_
   | refine LeO.bind ?_ (fun _=>?_)
set_option maxHeartbeats 8000000 in
set_option maxRecDepth 100000 in
theorem impl_storyTable.calls (k:Nat) (a0:Int) (A1:Option Addr) (c1:Nat) (l1:List (S42)) (r:Int) (w:World) (hr1:Kd.C k42 w A1 l1.length l1) (hc1:l1.length≤c1) (h:impl_storyTable.f k a0 l1=some r) :
  Calls Try.prog 28 #[.int .i64 a0,.slice A1 l1.length c1] w fun e w'=>e = .returned (.int .i64 r)∧Below w.heap.size w w':=by
 have hu42:=Try.underlying42
 have HR1:=mA hr1
 have HC1:=mA hc1
 clear hr1 hc1
 have HB:=mA (Below.refl w.heap.size w)
 have H:(if 0≤a0 then (impl_storyTable.l0 k a0 (wrap64 ((shl .i64 1 (shl .u64 1 a0))-1)) l1 (l1.length:Int) 0) else (none))=some r:=h
 clear h
 by_cases c3:0≤a0
 ·rw [if_pos c3] at H
  have c3b0:=eq_true c3
  have c3b1:decide (0≤a0)=true:=decide_eq_true c3
  clear c3
  obtain ⟨ji4,hji4⟩ : ∃ j_:Int,(shl .u64 1 a0)=j_:=⟨_,rfl⟩
  have hji4_n:(0≤ji4)=True:=eq_true (by rw [←hji4];exact shl_u64_nonneg _ _)
  replace H:(impl_storyTable.l0 k a0 (wrap64 ((shl .i64 1 (ji4))-1)) l1 (l1.length:Int) 0)=some r:=by first|(rw [hji4] at H;exact H)|(simp only [hji4] at H ⊢;exact H)
  have hji4_:(IntKind.u64.wrap (1*2^min a0.toNat 64))=ji4:=hji4
  have hji4z:a0≤64→(IntKind.u64.wrap (1*2^a0.toNat))=ji4:=shl_small hji4
  have hji4u:(IntKind.u64.wrap (2^min a0.toNat 64))=ji4:=by have h_:=hji4_;rw [Int.one_mul] at h_;exact h_
  have hji4v:a0≤64→(IntKind.u64.wrap (2^a0.toNat))=ji4:=fun hle_=>by have h_:=hji4z hle_;rw [Int.one_mul] at h_;exact h_
  obtain ⟨ji5,hji5⟩ : ∃ j_:Int,(shl .i64 1 (ji4))=j_:=⟨_,rfl⟩
  replace H:(impl_storyTable.l0 k a0 (wrap64 ((ji5)-1)) l1 (l1.length:Int) 0)=some r:=by first|(rw [hji5] at H;exact H)|(simp only [hji5] at H ⊢;exact H)
  have hji5_:(IntKind.i64.wrap (1*2^min (ji4).toNat 64))=ji5:=hji5
  have hji5z:(ji4)≤64→(IntKind.i64.wrap (1*2^(ji4).toNat))=ji5:=shl_small hji5
  have hji5u:(IntKind.i64.wrap (2^min (ji4).toNat 64))=ji5:=by have h_:=hji5_;rw [Int.one_mul] at h_;exact h_
  have hji5v:(ji4)≤64→(IntKind.i64.wrap (2^(ji4).toNat))=ji5:=fun hle_=>by have h_:=hji5z hle_;rw [Int.one_mul] at h_;exact h_
  have hji5y:(wrap64 (1*2^min (ji4).toNat 64))=ji5:=(i64_w _).symm.trans hji5_
  have hji5x:(ji4)≤64→(wrap64 (1*2^(ji4).toNat))=ji5:=fun h_=>(i64_w _).symm.trans (hji5z h_)
  have H':=mA H
  clear H
  go_enter Try.func28,Try.ntmps28
  go_wp2
  go_loopg [5,14] k (fun kq v5 v14 w'=>∃ (x5_1:Int) (x14_1:Int),v5 = .int .i64 x5_1∧v14 = .int .i64 x14_1∧Aside0 (impl_storyTable.l0 kq a0 x5_1 l1 (l1.length:Int) x14_1=some r)∧Aside0 (kq≤k)∧Aside0 (Below w.heap.size w w'))
  case atStart=>exact ⟨(wrap64 ((ji5)-1)),(0),(by first|rfl|(simp;done)|(simp only [←hji5]<;>(first|rfl|simp))|(simp [*];done)),(by first|rfl|(simp;done)|(simp [*];done)),H',⟨Nat.le_refl _⟩,⟨by repeat (first|(with_reducible first|exact HB.out|apply bA|apply bN|apply bD)|exact HB.out)⟩⟩
  case round =>
   clear H'
   try clear c1
   try clear c2
   try clear p2
   try clear c3
   try clear c3b0
   try clear c3b1
   obtain ⟨x5_1,x14_1,rfl,rfl,HA,HK1,HB⟩:=hrel
   cases gk with
   | zero=>exact absurd HA.out (by simp [impl_storyTable.l0])
   | succ k1 =>
    have H:=HA.out
    clear HA
    simp only [impl_storyTable.l0] at H
    by_cases c6:x14_1<(l1.length:Int)
    ·rw [if_pos c6] at H
     have c6b0:decide (x14_1<(l1.length:Int))=true:=decide_eq_true c6
     clear c6
     by_cases c7:0≤x14_1
     ·rw [if_pos c7] at H
      have c7b0:decide (0≤x14_1)=true:=decide_eq_true c7
      clear c7
      by_cases c8:x14_1<(l1.length:Int)
      ·rw [if_pos c8] at H
       have c8b0:decide (x14_1<(l1.length:Int))=true:=decide_eq_true c8
       clear c8
       replace H:=Option.bind_eq_some_iff.mp H
       obtain ⟨t103,A90,H⟩:=H
       replace H:(impl_storyTable.l0 k1 a0 (Go.bits .and .i64 x5_1 t103) l1 (l1.length:Int) (wrap64 (x14_1+1)))=some r:=H
       have A9:=mA A90
       clear A90
       have H':=mA H
       clear H
       have p101:0≤(x14_1:Int):=of_decide_eq_true (by first|with_reducible assumption|assumption)
       have q101:x14_1<(l1.length:Int):=of_decide_eq_true (by first|with_reducible assumption|assumption)
       obtain ⟨ad101,A101_1,c101_1,e101,hx101_0,hx101_1,hl101_1,hi101_1⟩:=at_T42 HR1.out x14_1 p101 q101
       cases e101
       replace hx101_0:=(HB.out.cell (World.block_lt_of_cell? w _ hx101_0)).trans hx101_0
       replace hx101_1:=(HB.out.cell (World.block_lt_of_cell? w _ hx101_1)).trans hx101_1
       have HR101_1:=mA hi101_1
       have HC101_1:=mA hl101_1
       clear hi101_1 hl101_1
       replace p101:=eq_true p101
       replace q101:=eq_true q101
       go_wp2_with (first|((with_reducible refine gate_dst (N:=7) rfl ?_);refine box_event ?hg (N:=7) ?hd (cs:=#[.int .i64 0,.slice none 0 0]) (t:=42) ?hr ?_;(case hd=>rfl);(case hg=>rfl);(case hr=>first|(go_simp;done)|(go_simp;rfl));intro gb102 hg w10 hbox hb;have n0_:=mA (bT (by repeat first|(with_reducible first|exact HB.out|apply bA|apply bN|apply bD)|exact HB.out) hb);have n1_:=mA (hbox);have n2_:=mA ((by rw [hg];exact (bZ (by repeat first|(with_reducible first|exact HB.out|apply bA|apply bN|apply bD)|exact HB.out)):w.heap.size≤gb102));have n3_:=mA ((by rw [hg];exact (bZ (by repeat first|(with_reducible first|exact HB.out|apply bA|apply bN|apply bD)|exact HB.out)):w.heap.size≤gb102));clear HB;have HB:=n0_;have BK102:=n1_;have GW102:=n2_;have GE102:=n3_;clear n0_ n1_ n2_ n3_ hb hbox hg;have hcz11_0:w10.cell? ⟨gb102,0,none⟩=some (.int .i64 0):=(kC BK102.out 0).trans rfl;have hcz11_1:w10.cell? ⟨gb102,1,none⟩=some (.slice none 0 0):=(kC BK102.out 1).trans rfl;have hfz11_0:=kF BK102.out 0;have hfz11_1:=kF BK102.out 1)|((with_reducible refine gate_callee (f:=45) rfl ?_);refine goesL_ (some 21) rfl rfl Try.func45 (by kernel_rfl) rfl #[.int .i64 a0,.agg #[.int .i64 ((rd_T42 l1 x14_1).f0),.slice A101_1 ((rd_T42 l1 x14_1).f1).length c101_1]] rfl (by (try simp only [mT,mC,mN]);first|done|rfl|(simp only [lD,lT];rfl)) ?_;(with_reducible refine (impl_ClaimTable.calls k1 a0 ((rd_T42 l1 x14_1).f0) _ _ ((rd_T42 l1 x14_1).f1) t103 _ ?side1 ?side2 A9.out).mono ?_);(case side1=>exact Kd.C_below HR101_1.out (by repeat first|(with_reducible first|exact HB.out|apply bA|apply bN|apply bD|refine bS ?_ GE102.out)|exact HB.out));(case side2=>exact HC101_1.out);rintro e w12 ⟨rfl,hb⟩;refine ⟨_,rfl,?_⟩;have n0_:=mA (kB (g:=gb102) (o:=.cells #[.int .i64 ((rd_T42 l1 x14_1).f0),.slice A101_1 ((rd_T42 l1 x14_1).f1).length c101_1] 42 (0,0)) (by (with_reducible repeat first|refine kN ?_ _|refine kD ?_|refine kA ?_ _);refine kP (cs:=#[.int .i64 ((rd_T42 l1 x14_1).f0),.slice none 0 0]) ?_ 1 _ rfl;(with_reducible repeat first|refine kN ?_ _|refine kD ?_|refine kA ?_ _);refine kP (cs:=#[.int .i64 0,.slice none 0 0]) ?_ 0 _ rfl;(with_reducible repeat first|refine kN ?_ _|refine kD ?_|refine kA ?_ _);exact BK102.out) hb);have n1_:=mA (bT (by repeat first|(with_reducible first|exact HB.out|apply bA|apply bN|apply bD|refine bS ?_ GE102.out)|exact HB.out) hb);clear BK102 HB;have BK102:=n0_;have HB:=n1_;clear n0_ n1_;(try clear hb);(try clear hb2);(try clear hk);(try clear hi)))
       go_roundg k1
       case measure=>have:=HK1.out;omega
       case rel=>exact ⟨(Go.bits .and .i64 x5_1 t103),(wrap64 (x14_1+1)),(by first|rfl|(simp;done)|(simp [*];done)),(by first|rfl|(simp;done)|(simp [*];done)),H',⟨by have:=HK1.out;omega⟩,⟨by repeat (first|(with_reducible first|exact HB.out|apply bA|apply bN|apply bD|refine bS ?_ GE102.out)|exact HB.out)⟩⟩
      ·rw [if_neg c8] at H
       exact absurd H (by simp)
     ·rw [if_neg c7] at H
      exact absurd H (by simp)
    ·rw [if_neg c6] at H
     have c6b0:decide (x14_1<(l1.length:Int))=false:=decide_eq_false c6
     clear c6
     obtain rfl:=Option.some.inj H
     go_wp2
     go_ret
     exact ⟨by first|rfl|(simp [errW_none,errW_some]<;>rfl)|(simp only [←hji4, ←hji5];first|rfl|(simp [errW_none,errW_some]<;>rfl))|(simp [*, errW_none,errW_some]<;>rfl),by repeat (first|(with_reducible first|exact HB.out|apply bA|apply bN|apply bD)|exact HB.out)⟩
 ·rw [if_neg c3] at H
  exact absurd H (by simp)
/-! ### impl_StoryTable: function 35 -/
def impl_StoryTable.f (k:Nat) (a0:Int) (l1:List (S42)):Option (Int):=(impl_StoryOk.f k a0 l1).bind fun t101=>(if t101=true then ((impl_storyTable.f k a0 l1).bind fun t102=>(some t102)) else (some (-1)))
theorem impl_StoryTable.mono : ∀ a0 a1 k,LeO (impl_StoryTable.f k a0 a1) (impl_StoryTable.f (k+1) a0 a1):=by
 intro a0 a1 k
 unfold impl_StoryTable.f
 repeat' first
   | (with_reducible exact impl_StoryOk.mono _ _ _)
   | (with_reducible exact impl_storyTable.mono _ _ _)
   | (with_reducible exact LeO.refl _)
   | (with_reducible exact LeO.none _)
   | (with_reducible refine LeO.ite ?_ ?_)
   | (with_reducible refine LeO.bind ?_ (fun _=>?_))
   | exact impl_StoryOk.mono _ _ _
   | exact impl_storyTable.mono _ _ _
   | exact LeO.none _
   | refine LeO.ite ?_ ?_
   | refine LeO.bind ?_ (fun _=>?_)
set_option maxHeartbeats 8000000 in
set_option maxRecDepth 100000 in
theorem impl_StoryTable.calls (k:Nat) (a0:Int) (A1:Option Addr) (c1:Nat) (l1:List (S42)) (r:Int) (w:World) (hr1:Kd.C k42 w A1 l1.length l1) (hc1:l1.length≤c1) (h:impl_StoryTable.f k a0 l1=some r) :
  Calls Try.prog 35 #[.int .i64 a0,.slice A1 l1.length c1] w fun e w'=>e = .returned (.int .i64 r)∧Below w.heap.size w w':=by
 have HR1:=mA hr1
 have HC1:=mA hc1
 clear hr1 hc1
 have HB:=mA (Below.refl w.heap.size w)
 have H:((impl_StoryOk.f k a0 l1).bind fun t101=>(if t101=true then ((impl_storyTable.f k a0 l1).bind fun t102=>(some t102)) else (some (-1))))=some r:=h
 clear h
 replace H:=Option.bind_eq_some_iff.mp H
 obtain ⟨t101,A30,H⟩:=H
 replace H:(if t101=true then ((impl_storyTable.f k a0 l1).bind fun t102=>(some t102)) else (some (-1)))=some r:=H
 have A3:=mA A30
 clear A30
 by_cases c4:t101=true
 ·subst c4
  have H1:((impl_storyTable.f k a0 l1).bind fun t102=>(some t102))=some r:=by rw [if_pos rfl] at H;exact H
  clear H
  have H:=H1
  clear H1
  replace H:=Option.bind_eq_some_iff.mp H
  obtain ⟨t102,A50,H⟩:=H
  replace H:(some t102)=some r:=H
  have A5:=mA A50
  clear A50
  obtain rfl:=Option.some.inj H
  go_enter Try.func35,Try.ntmps35
  go_wp2_with (first|((with_reducible refine gate_callee (f:=25) rfl ?_);refine goesL_ (some 7) rfl rfl Try.func25 (by kernel_rfl) rfl #[.int .i64 a0,.slice A1 l1.length c1] rfl (by (try simp only [mT,mC,mN]);first|done|rfl|(simp only [lD,lT];rfl)) ?_;(with_reducible refine (impl_StoryOk.calls k a0 _ _ l1 true _ ?side1 ?side2 A3.out).mono ?_);(case side1=>repeat first|exact HR1.out|(with_reducible refine cA ?_ _)|(with_reducible refine cN ?_ _)|(with_reducible refine cD ?_));(case side2=>exact HC1.out);rintro e w6 ⟨rfl,hb⟩;refine ⟨_,rfl,?_⟩;have n0_:=mA (bT (by repeat first|(with_reducible first|exact HB.out|apply bA|apply bN|apply bD)|exact HB.out) hb);clear HB;have HB:=n0_;clear n0_;(try clear hb);(try clear hb2);(try clear hk);(try clear hi))|((with_reducible refine gate_callee (f:=28) rfl ?_);refine goesL_ (some 11) rfl rfl Try.func28 (by kernel_rfl) rfl #[.int .i64 a0,.slice A1 l1.length c1] rfl (by (try simp only [mT,mC,mN]);first|done|rfl|(simp only [lD,lT];rfl)) ?_;(with_reducible refine (impl_storyTable.calls k a0 _ _ l1 t102 _ ?side1 ?side2 A5.out).mono ?_);(case side1=>repeat first|exact (Kd.C_below HR1.out HB.out)|(with_reducible refine cA ?_ _)|(with_reducible refine cN ?_ _)|(with_reducible refine cD ?_));(case side2=>exact HC1.out);rintro e w7 ⟨rfl,hb⟩;refine ⟨_,rfl,?_⟩;have n0_:=mA (bT (by repeat first|(with_reducible first|exact HB.out|apply bA|apply bN|apply bD)|exact HB.out) hb);clear HB;have HB:=n0_;clear n0_;(try clear hb);(try clear hb2);(try clear hk);(try clear hi)))
  go_ret
  exact ⟨by first|rfl|(simp [errW_none,errW_some]<;>rfl)|(simp [*, errW_none,errW_some]<;>rfl),by repeat (first|(with_reducible first|exact HB.out|apply bA|apply bN|apply bD)|exact HB.out)⟩
 ·replace c4:=Bool.eq_false_iff.mpr c4
  subst c4
  have H1:(some (-1))=some r:=by rw [if_neg (show ¬ (false=true) by decide)] at H;exact H
  clear H
  have H:=H1
  clear H1
  obtain rfl:=Option.some.inj H
  go_enter Try.func35,Try.ntmps35
  go_wp2_with (first|((with_reducible refine gate_callee (f:=25) rfl ?_);refine goesL_ (some 7) rfl rfl Try.func25 (by kernel_rfl) rfl #[.int .i64 a0,.slice A1 l1.length c1] rfl (by (try simp only [mT,mC,mN]);first|done|rfl|(simp only [lD,lT];rfl)) ?_;(with_reducible refine (impl_StoryOk.calls k a0 _ _ l1 false _ ?side1 ?side2 A3.out).mono ?_);(case side1=>repeat first|exact HR1.out|(with_reducible refine cA ?_ _)|(with_reducible refine cN ?_ _)|(with_reducible refine cD ?_));(case side2=>exact HC1.out);rintro e w8 ⟨rfl,hb⟩;refine ⟨_,rfl,?_⟩;have n0_:=mA (bT (by repeat first|(with_reducible first|exact HB.out|apply bA|apply bN|apply bD)|exact HB.out) hb);clear HB;have HB:=n0_;clear n0_;(try clear hb);(try clear hb2);(try clear hk);(try clear hi)))
  go_ret
  exact ⟨by first|rfl|(simp [errW_none,errW_some]<;>rfl)|(simp [*, errW_none,errW_some]<;>rfl),by repeat (first|(with_reducible first|exact HB.out|apply bA|apply bN|apply bD)|exact HB.out)⟩
end Go.Proofs.Ytbhjeiphmnanoaa.X
